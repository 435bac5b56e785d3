/- The law AclOrder: what it calls besides the program. No condition. -/
import Derived.Test.YtiipkbkoigcabaaDoorAcl
namespace Go.Proofs.YtiipkbkoigcabaaDoor
open Go Go.AW Go.RowKit Go.Proofs Go.Lib
set_option linter.unusedVariables false
set_option linter.unusedSimpArgs false

/-- bursary/bursarylaw26.bigRules: function 152. -/
def c_bigRules_L0 : ACode := .seq (.seq (.ops [⟨some 4, .mv (.t 3), none⟩, ⟨some 5, .mv (.t 0), none⟩, ⟨some 6, .len (.t 5), none⟩, ⟨some 7, .cmp .lss (.t 4) (.t 6), none⟩, ⟨some 8, .mv (.t 7), none⟩, ⟨some 9, .mv (.t 3), some (8, true)⟩, ⟨some 10, .cmp .lss (.t 9) (.c (.int .i64 30)), some (8, true)⟩, ⟨some 11, .pick (.t 8) (.t 10) (.c (.bool false)), none⟩]) (.cond (.t 11) .skip (.exit 0))) (.seq (.block 1 (.seq (.ops [⟨some 14, .mv (.t 0), none⟩, ⟨some 15, .mv (.t 3), none⟩, ⟨some 16, .iaddr 2 (.t 14) (.t 15), none⟩, ⟨some 17, .faddr 0 (.t 16), none⟩, ⟨some 18, .load false 1 (.t 17), none⟩, ⟨some 19, .lenS (.t 18), none⟩, ⟨some 20, .cmp .gtr (.t 19) (.c (.int .i64 300)), none⟩]) (.cond (.t 20) (.seq (.ops [⟨some 2, .mv (.c (.bool true)), none⟩]) .ret) .skip))) (.ops [⟨some 12, .mv (.t 3), none⟩, ⟨some 13, .arith .add (.t 12) (.c (.int .i64 1)), none⟩, ⟨some 3, .mv (.t 13), none⟩]))
def c_bigRules_S0 : ACode := .seq (.ops [⟨some 21, .mv (.t 0), none⟩, ⟨some 22, .len (.t 21), none⟩, ⟨some 23, .cmp .gtr (.t 22) (.c (.int .i64 30)), none⟩, ⟨some 2, .mv (.t 23), none⟩]) .ret
def c_bigRules : ACode := .seq (.ops [⟨some 2, .mv (.c (.bool false)), none⟩]) (.seq (.seq (.ops [⟨some 3, .mv (.c (.int .i64 0)), none⟩]) (.block 0 (.loop c_bigRules_L0))) c_bigRules_S0)
theorem is_bigRules (w0 : World) : fnComp (cx w0).P 152 = some (erase c_bigRules, [.t 2], 24) := by kernel_rfl
/-- bursary/bursarylaw26.big: function 66. -/
def c_big_L0 : ACode := .seq (.seq (.ops [⟨some 4, .mv (.t 3), none⟩, ⟨some 5, .mv (.t 0), none⟩, ⟨some 6, .len (.t 5), none⟩, ⟨some 7, .cmp .lss (.t 4) (.t 6), none⟩, ⟨some 8, .mv (.t 7), none⟩, ⟨some 9, .mv (.t 3), some (8, true)⟩, ⟨some 10, .cmp .lss (.t 9) (.c (.int .i64 12)), some (8, true)⟩, ⟨some 11, .pick (.t 8) (.t 10) (.c (.bool false)), none⟩]) (.cond (.t 11) .skip (.exit 0))) (.seq (.block 1 (.seq (.ops [⟨some 14, .mv (.t 0), none⟩, ⟨some 15, .mv (.t 3), none⟩, ⟨some 16, .iaddr 1 (.t 14) (.t 15), none⟩, ⟨some 17, .load false 1 (.t 16), none⟩, ⟨some 18, .call (.f 152) [.t 17], none⟩]) (.cond (.t 18) (.seq (.ops [⟨some 2, .mv (.c (.bool true)), none⟩]) .ret) .skip))) (.ops [⟨some 12, .mv (.t 3), none⟩, ⟨some 13, .arith .add (.t 12) (.c (.int .i64 1)), none⟩, ⟨some 3, .mv (.t 13), none⟩]))
def c_big_S0 : ACode := .seq (.ops [⟨some 19, .mv (.t 0), none⟩, ⟨some 20, .len (.t 19), none⟩, ⟨some 21, .cmp .gtr (.t 20) (.c (.int .i64 12)), none⟩, ⟨some 2, .mv (.t 21), none⟩]) .ret
def c_big : ACode := .seq (.ops [⟨some 2, .mv (.c (.bool false)), none⟩]) (.seq (.seq (.ops [⟨some 3, .mv (.c (.int .i64 0)), none⟩]) (.block 0 (.loop c_big_L0))) c_big_S0)
theorem is_big (w0 : World) : fnComp (cx w0).P 66 = some (erase c_big, [.t 2], 22) := by kernel_rfl
/-- bursary/bursarylaw26.giveRules: function 153. -/
def c_giveRules_L0 : ACode := .seq (.seq (.ops [⟨some 5, .mv (.t 4), none⟩, ⟨some 6, .mv (.t 0), none⟩, ⟨some 7, .len (.t 6), none⟩, ⟨some 8, .cmp .lss (.t 5) (.t 7), none⟩]) (.cond (.t 8) .skip (.exit 0))) (.seq (.block 1 (.ops [⟨some 11, .mv (.t 3), none⟩, ⟨some 12, .mv (.t 0), none⟩, ⟨some 13, .mv (.t 4), none⟩, ⟨some 14, .iaddr 2 (.t 12) (.t 13), none⟩, ⟨some 15, .load true 2 (.t 14), none⟩, ⟨some 16, .mk (.agg [.str [], .int .u8 0]) 1 [(0, .t 15)], none⟩, ⟨some 17, .app 2 24 (.t 11) (.t 16), none⟩, ⟨some 3, .mv (.t 17), none⟩])) (.ops [⟨some 9, .mv (.t 4), none⟩, ⟨some 10, .arith .add (.t 9) (.c (.int .i64 1)), none⟩, ⟨some 4, .mv (.t 10), none⟩]))
def c_giveRules_S0 : ACode := .seq (.ops [⟨some 18, .mv (.t 3), none⟩, ⟨some 2, .mv (.t 18), none⟩]) .ret
def c_giveRules : ACode := .seq (.ops [⟨some 2, .mv (.c (.sl .nil [])), none⟩]) (.seq (.ops [⟨some 3, .mv (.c (.sl .nil [])), none⟩]) (.seq (.seq (.ops [⟨some 4, .mv (.c (.int .i64 0)), none⟩]) (.block 0 (.loop c_giveRules_L0))) c_giveRules_S0))
theorem is_giveRules (w0 : World) : fnComp (cx w0).P 153 = some (erase c_giveRules, [.t 2], 19) := by kernel_rfl
/-- bursary/bursarylaw26.giveAll: function 68. -/
def c_giveAll_L0 : ACode := .seq (.seq (.ops [⟨some 5, .mv (.t 4), none⟩, ⟨some 6, .mv (.t 0), none⟩, ⟨some 7, .len (.t 6), none⟩, ⟨some 8, .cmp .lss (.t 5) (.t 7), none⟩]) (.cond (.t 8) .skip (.exit 0))) (.seq (.block 1 (.ops [⟨some 11, .mv (.t 3), none⟩, ⟨some 12, .mv (.t 0), none⟩, ⟨some 13, .mv (.t 4), none⟩, ⟨some 14, .iaddr 1 (.t 12) (.t 13), none⟩, ⟨some 15, .load false 1 (.t 14), none⟩, ⟨some 16, .call (.f 153) [.t 15], none⟩, ⟨some 17, .mk (.sl .nil []) 1 [(0, .t 16)], none⟩, ⟨some 18, .app 1 24 (.t 11) (.t 17), none⟩, ⟨some 3, .mv (.t 18), none⟩])) (.ops [⟨some 9, .mv (.t 4), none⟩, ⟨some 10, .arith .add (.t 9) (.c (.int .i64 1)), none⟩, ⟨some 4, .mv (.t 10), none⟩]))
def c_giveAll_S0 : ACode := .seq (.ops [⟨some 19, .mv (.t 3), none⟩, ⟨some 2, .mv (.t 19), none⟩]) .ret
def c_giveAll : ACode := .seq (.ops [⟨some 2, .mv (.c (.sl .nil [])), none⟩]) (.seq (.ops [⟨some 3, .mv (.c (.sl .nil [])), none⟩]) (.seq (.seq (.ops [⟨some 4, .mv (.c (.int .i64 0)), none⟩]) (.block 0 (.loop c_giveAll_L0))) c_giveAll_S0))
theorem is_giveAll (w0 : World) : fnComp (cx w0).P 68 = some (erase c_giveAll, [.t 2], 20) := by kernel_rfl
/-- bursary/bursarylaw26.sure: function 67. -/
def c_sure : ACode := .seq (.ops [⟨some 0, .mv (.c (.bool false)), none⟩]) (.seq (.ops [⟨some 7, .build [.str [], .int .u8 0] [(0, (1, .c (.str [107, 118, 47, 42]))), (1, (1, .c (.int .u8 1)))], none⟩, ⟨some 8, .mk (.agg [.str [], .int .u8 0]) 1 [(0, .t 7)], none⟩, ⟨some 1, .mv (.t 8), none⟩]) (.seq (.ops [⟨some 9, .build [.str [], .int .u8 0] [(0, (1, .c (.str [107, 118, 47, 97]))), (1, (1, .c (.int .u8 32)))], none⟩, ⟨some 10, .mk (.agg [.str [], .int .u8 0]) 1 [(0, .t 9)], none⟩, ⟨some 2, .mv (.t 10), none⟩]) (.seq (.ops [⟨some 11, .mv (.t 1), none⟩, ⟨some 12, .mv (.t 2), none⟩, ⟨some 13, .mk (.sl .nil []) 2 [(0, .t 11), (1, .t 12)], none⟩, ⟨some 3, .mv (.t 13), none⟩]) (.seq (.ops [⟨some 15, .mv (.t 3), none⟩, ⟨some 16, .call (.f 70) [.t 15, .c (.str [107, 118, 47, 98])], none⟩, ⟨some 14, .mv (.t 16), none⟩, ⟨some 17, .ext (.t 14) 0, none⟩, ⟨some 18, .ext (.t 14) 1, none⟩, ⟨some 19, .ext (.t 14) 2, none⟩, ⟨some 4, .mv (.t 17), none⟩, ⟨some 5, .mv (.t 18), none⟩, ⟨some 6, .mv (.t 19), none⟩]) (.seq (.ops [⟨some 20, .mv (.t 4), none⟩, ⟨some 21, .cmp .eql (.t 20) (.c (.str [107, 118, 47, 42])), none⟩, ⟨some 22, .mv (.t 21), none⟩, ⟨some 23, .mv (.t 5), some (22, true)⟩, ⟨some 24, .cmp .eql (.t 23) (.c (.int .u8 1)), some (22, true)⟩, ⟨some 25, .pick (.t 22) (.t 24) (.c (.bool false)), none⟩, ⟨some 26, .mv (.t 25), none⟩, ⟨some 27, .mv (.t 6), some (26, true)⟩, ⟨some 28, .pick (.t 26) (.t 27) (.c (.bool false)), none⟩, ⟨some 29, .mv (.t 28), none⟩, ⟨some 30, .mv (.t 3), some (29, true)⟩, ⟨some 31, .call (.f 69) [.t 30, .c (.str [107, 118, 47, 98]), .c (.int .u8 1)], some (29, true)⟩, ⟨some 32, .pick (.t 29) (.t 31) (.c (.bool false)), none⟩, ⟨some 33, .mv (.t 32), none⟩, ⟨some 34, .mv (.t 3), some (33, true)⟩, ⟨some 35, .call (.f 69) [.t 34, .c (.str [107, 118, 47, 97]), .c (.int .u8 1)], some (33, true)⟩, ⟨some 36, .un .not (.t 35), some (33, true)⟩, ⟨some 37, .pick (.t 33) (.t 36) (.c (.bool false)), none⟩, ⟨some 38, .mv (.t 37), none⟩, ⟨some 39, .call (.f 73) [], some (38, true)⟩, ⟨some 40, .mk (.sl .nil []) 1 [(0, .t 39)], some (38, true)⟩, ⟨some 41, .call (.f 69) [.t 40, .c (.str [120, 47, 121]), .c (.int .u8 16)], some (38, true)⟩, ⟨some 42, .pick (.t 38) (.t 41) (.c (.bool false)), none⟩, ⟨some 0, .mv (.t 42), none⟩]) .ret)))))
theorem is_sure (w0 : World) : fnComp (cx w0).P 67 = some (erase c_sure, [.t 0], 43) := by kernel_rfl

theorem polsAV_length (l : List (List Rule)) : (polsAV l).length = l.length := by simp [polsAV]
theorem polsAV_csize (l : List (List Rule)) : ((polsAV l).all fun a => a.csize == 1) = true := List.all_eq_true.2 fun x hx => by
  obtain ⟨p, _, rfl⟩ := List.mem_map.1 hx
  rfl
def bigR (l : List Rule) : Bool := (l.take 30).any (fun r => decide (r.1.length > 300)) || decide (l.length > 30)
def bigA (l : List (List Rule)) : Bool := (l.take 12).any bigR || decide (l.length > 12)

theorem bigRules_ok (w0 : World) (l : List Rule) (hl : l.length ≤ 9223372036854775807) : PC w0 152 [.sl .sh (rulesAV l)] (.bool (bigR l)) := by
  intro st
  refine ACalls.of_vc (A := c_bigRules) (is_bigRules w0) (by simp) ?_
  unfold c_bigRules
  simp only [VC, VX, VV, SU, RC, VQ, VQ2, opW, ne_eq, not_false_eq_true, not_true_eq_false, Nat.le_refl, false_implies, reduceIte, Nat.reduceEqDiff, Nat.reduceAdd, Nat.reduceSub, Nat.reduceLeDiff, Nat.reduceLT, Nat.reduceMul, Nat.reduceBEq, reduceCtorEq, Int.natCast_nonneg, Int.toNat_natCast, true_implies, implies_true, List.length_cons, List.length_nil, List.drop_succ_cons, List.drop_zero, List.take_succ_cons, List.take_zero, List.map_cons, List.map_nil, List.getD_cons_zero, List.getD_cons_succ, List.all_cons, List.all_nil, Bool.and_true, Bool.and_self, decide_true, decide_false, Bool.not_true, Bool.not_false, Bool.true_or, Bool.false_or, Bool.or_true, Bool.or_false, Bool.true_and, Bool.false_and, Bool.and_false, bytesAV_length, beq_self_eq_true, and_self, List.append_assoc, List.cons_append, List.nil_append]
  refine VLoop.up 30 (fun k e st' => e.get 0 = .sl .sh (rulesAV l) ∧ e.get 3 = .int .i64 k ∧ k ≤ l.length ∧ k ≤ 30 ∧ ((l.take k).any (fun r => decide (r.1.length > 300))) = false ∧ st.le st') ?_ ?_
  · simp only [VC, VX, VV, SU, RC, VQ, VQ2, opW, ne_eq, not_false_eq_true, not_true_eq_false, Nat.le_refl, false_implies, reduceIte, Nat.reduceEqDiff, Nat.reduceAdd, Nat.reduceSub, Nat.reduceLeDiff, Nat.reduceLT, Nat.reduceMul, Nat.reduceBEq, reduceCtorEq, Int.natCast_nonneg, Int.toNat_natCast, true_implies, implies_true, List.length_cons, List.length_nil, List.drop_succ_cons, List.drop_zero, List.take_succ_cons, List.take_zero, List.map_cons, List.map_nil, List.getD_cons_zero, List.getD_cons_succ, List.all_cons, List.all_nil, Bool.and_true, Bool.and_self, decide_true, decide_false, Bool.not_true, Bool.not_false, Bool.true_or, Bool.false_or, Bool.or_true, Bool.or_false, Bool.true_and, Bool.false_and, Bool.and_false, bytesAV_length, beq_self_eq_true, and_self, List.append_assoc, List.cons_append, List.nil_append]
    exact ⟨rfl, Nat.zero_le _, by simp, St.le_refl _⟩
  · rintro k e st' ⟨h0, h3, hk, hk30, hall, hle⟩
    unfold c_bigRules_L0
    have out : ∀ e' : Env, e'.get 0 = .sl .sh (rulesAV l) → (l.length ≤ k ∨ 30 ≤ k) → vc (cx w0) c_bigRules_S0 (endK [.t 2] fun r st' => r = .bool (bigR l) ∧ st.le st') e' st' := by
      intro e' h0 hor
      unfold c_bigRules_S0
      have e1 : decide ((l.length : Int) > 30) = bigR l := by
        have e2 : (l.take 30).any (fun r => decide (r.1.length > 300)) = false := by
          rcases hor with h | h
          · rw [List.take_of_length_le (by omega)] at hall ⊢; exact hall
          · have : k = 30 := by omega
            subst this; exact hall
        unfold bigR
        rw [e2, Bool.false_or]
        by_cases h : l.length > 30
        · have : (l.length : Int) > 30 := by omega
          simp [h, this]
        · have : ¬ (l.length : Int) > 30 := by omega
          simp [h, this]
      simp only [VC, VX, VV, SU, RC, VQ, VQ2, opW, ne_eq, not_false_eq_true, not_true_eq_false, Nat.le_refl, false_implies, reduceIte, Nat.reduceEqDiff, Nat.reduceAdd, Nat.reduceSub, Nat.reduceLeDiff, Nat.reduceLT, Nat.reduceMul, Nat.reduceBEq, reduceCtorEq, Int.natCast_nonneg, Int.toNat_natCast, true_implies, implies_true, List.length_cons, List.length_nil, List.drop_succ_cons, List.drop_zero, List.take_succ_cons, List.take_zero, List.map_cons, List.map_nil, List.getD_cons_zero, List.getD_cons_succ, List.all_cons, List.all_nil, Bool.and_true, Bool.and_self, decide_true, decide_false, Bool.not_true, Bool.not_false, Bool.true_or, Bool.false_or, Bool.or_true, Bool.or_false, Bool.true_and, Bool.false_and, Bool.and_false, bytesAV_length, beq_self_eq_true, and_self, List.append_assoc, List.cons_append, List.nil_append, h0, rulesAV_length, e1]
      first | exact hle | exact ⟨rfl, hle⟩ | exact ⟨by simp, hle⟩
    by_cases h1 : (k : Int) < l.length
    · by_cases h2 : (k : Int) < 30
      · have hlt' : k < l.length := by omega
        have hg := rulesAV_getD l k hlt'
        simp only [VC, VX, VV, SU, RC, VQ, VQ2, opW, ne_eq, not_false_eq_true, not_true_eq_false, Nat.le_refl, false_implies, reduceIte, Nat.reduceEqDiff, Nat.reduceAdd, Nat.reduceSub, Nat.reduceLeDiff, Nat.reduceLT, Nat.reduceMul, Nat.reduceBEq, reduceCtorEq, Int.natCast_nonneg, Int.toNat_natCast, true_implies, implies_true, List.length_cons, List.length_nil, List.drop_succ_cons, List.drop_zero, List.take_succ_cons, List.take_zero, List.map_cons, List.map_nil, List.getD_cons_zero, List.getD_cons_succ, List.all_cons, List.all_nil, Bool.and_true, Bool.and_self, decide_true, decide_false, Bool.not_true, Bool.not_false, Bool.true_or, Bool.false_or, Bool.or_true, Bool.or_false, Bool.true_and, Bool.false_and, Bool.and_false, bytesAV_length, beq_self_eq_true, and_self, List.append_assoc, List.cons_append, List.nil_append, h0, h3, h1, h2, rulesAV_length, hg]
        refine VCond.dec (fun hgt => ?_) (fun hgt => ?_)
        · simp only [VC, VX, VV, SU, RC, VQ, VQ2, opW, ne_eq, not_false_eq_true, not_true_eq_false, Nat.le_refl, false_implies, reduceIte, Nat.reduceEqDiff, Nat.reduceAdd, Nat.reduceSub, Nat.reduceLeDiff, Nat.reduceLT, Nat.reduceMul, Nat.reduceBEq, reduceCtorEq, Int.natCast_nonneg, Int.toNat_natCast, true_implies, implies_true, List.length_cons, List.length_nil, List.drop_succ_cons, List.drop_zero, List.take_succ_cons, List.take_zero, List.map_cons, List.map_nil, List.getD_cons_zero, List.getD_cons_succ, List.all_cons, List.all_nil, Bool.and_true, Bool.and_self, decide_true, decide_false, Bool.not_true, Bool.not_false, Bool.true_or, Bool.false_or, Bool.or_true, Bool.or_false, Bool.true_and, Bool.false_and, Bool.and_false, bytesAV_length, beq_self_eq_true, and_self, List.append_assoc, List.cons_append, List.nil_append]
          refine ⟨?_, hle⟩
          have : (l.take 30).any (fun r => decide (r.1.length > 300)) = true := List.any_eq_true.2 ⟨l[k], by
            rw [List.mem_take_iff_getElem]
            exact ⟨k, by omega, rfl⟩, by simp; omega⟩
          simp [bigR, this]
        · simp only [VC, VX, VV, SU, RC, VQ, VQ2, opW, ne_eq, not_false_eq_true, not_true_eq_false, Nat.le_refl, false_implies, reduceIte, Nat.reduceEqDiff, Nat.reduceAdd, Nat.reduceSub, Nat.reduceLeDiff, Nat.reduceLT, Nat.reduceMul, Nat.reduceBEq, reduceCtorEq, Int.natCast_nonneg, Int.toNat_natCast, true_implies, implies_true, List.length_cons, List.length_nil, List.drop_succ_cons, List.drop_zero, List.take_succ_cons, List.take_zero, List.map_cons, List.map_nil, List.getD_cons_zero, List.getD_cons_succ, List.all_cons, List.all_nil, Bool.and_true, Bool.and_self, decide_true, decide_false, Bool.not_true, Bool.not_false, Bool.true_or, Bool.false_or, Bool.or_true, Bool.or_false, Bool.true_and, Bool.false_and, Bool.and_false, bytesAV_length, beq_self_eq_true, and_self, List.append_assoc, List.cons_append, List.nil_append, h0, h3]
          refine ⟨by omega, by rw [wrap_nat (by omega)], by omega, by omega, ?_, hle⟩
          rw [List.take_succ_eq_append_getElem hlt', List.any_append, hall]
          simp; omega
      · simp only [VC, VX, VV, SU, RC, VQ, VQ2, opW, ne_eq, not_false_eq_true, not_true_eq_false, Nat.le_refl, false_implies, reduceIte, Nat.reduceEqDiff, Nat.reduceAdd, Nat.reduceSub, Nat.reduceLeDiff, Nat.reduceLT, Nat.reduceMul, Nat.reduceBEq, reduceCtorEq, Int.natCast_nonneg, Int.toNat_natCast, true_implies, implies_true, List.length_cons, List.length_nil, List.drop_succ_cons, List.drop_zero, List.take_succ_cons, List.take_zero, List.map_cons, List.map_nil, List.getD_cons_zero, List.getD_cons_succ, List.all_cons, List.all_nil, Bool.and_true, Bool.and_self, decide_true, decide_false, Bool.not_true, Bool.not_false, Bool.true_or, Bool.false_or, Bool.or_true, Bool.or_false, Bool.true_and, Bool.false_and, Bool.and_false, bytesAV_length, beq_self_eq_true, and_self, List.append_assoc, List.cons_append, List.nil_append, h0, h3, h1, h2, rulesAV_length]
        refine out _ ?_ (.inr (by omega))
        simp only [VC, VX, VV, SU, RC, VQ, VQ2, opW, ne_eq, not_false_eq_true, not_true_eq_false, Nat.le_refl, false_implies, reduceIte, Nat.reduceEqDiff, Nat.reduceAdd, Nat.reduceSub, Nat.reduceLeDiff, Nat.reduceLT, Nat.reduceMul, Nat.reduceBEq, reduceCtorEq, Int.natCast_nonneg, Int.toNat_natCast, true_implies, implies_true, List.length_cons, List.length_nil, List.drop_succ_cons, List.drop_zero, List.take_succ_cons, List.take_zero, List.map_cons, List.map_nil, List.getD_cons_zero, List.getD_cons_succ, List.all_cons, List.all_nil, Bool.and_true, Bool.and_self, decide_true, decide_false, Bool.not_true, Bool.not_false, Bool.true_or, Bool.false_or, Bool.or_true, Bool.or_false, Bool.true_and, Bool.false_and, Bool.and_false, bytesAV_length, beq_self_eq_true, and_self, List.append_assoc, List.cons_append, List.nil_append, h0]
    · simp only [VC, VX, VV, SU, RC, VQ, VQ2, opW, ne_eq, not_false_eq_true, not_true_eq_false, Nat.le_refl, false_implies, reduceIte, Nat.reduceEqDiff, Nat.reduceAdd, Nat.reduceSub, Nat.reduceLeDiff, Nat.reduceLT, Nat.reduceMul, Nat.reduceBEq, reduceCtorEq, Int.natCast_nonneg, Int.toNat_natCast, true_implies, implies_true, List.length_cons, List.length_nil, List.drop_succ_cons, List.drop_zero, List.take_succ_cons, List.take_zero, List.map_cons, List.map_nil, List.getD_cons_zero, List.getD_cons_succ, List.all_cons, List.all_nil, Bool.and_true, Bool.and_self, decide_true, decide_false, Bool.not_true, Bool.not_false, Bool.true_or, Bool.false_or, Bool.or_true, Bool.or_false, Bool.true_and, Bool.false_and, Bool.and_false, bytesAV_length, beq_self_eq_true, and_self, List.append_assoc, List.cons_append, List.nil_append, h0, h3, h1, rulesAV_length]
      refine out _ ?_ (.inl (by omega))
      simp only [VC, VX, VV, SU, RC, VQ, VQ2, opW, ne_eq, not_false_eq_true, not_true_eq_false, Nat.le_refl, false_implies, reduceIte, Nat.reduceEqDiff, Nat.reduceAdd, Nat.reduceSub, Nat.reduceLeDiff, Nat.reduceLT, Nat.reduceMul, Nat.reduceBEq, reduceCtorEq, Int.natCast_nonneg, Int.toNat_natCast, true_implies, implies_true, List.length_cons, List.length_nil, List.drop_succ_cons, List.drop_zero, List.take_succ_cons, List.take_zero, List.map_cons, List.map_nil, List.getD_cons_zero, List.getD_cons_succ, List.all_cons, List.all_nil, Bool.and_true, Bool.and_self, decide_true, decide_false, Bool.not_true, Bool.not_false, Bool.true_or, Bool.false_or, Bool.or_true, Bool.or_false, Bool.true_and, Bool.false_and, Bool.and_false, bytesAV_length, beq_self_eq_true, and_self, List.append_assoc, List.cons_append, List.nil_append, h0]

theorem big_ok (w0 : World) (l : List (List Rule)) (hl : l.length ≤ 9223372036854775807) (hl2 : ∀ p ∈ l, p.length ≤ 9223372036854775807) : PC w0 66 [.sl .sh (polsAV l)] (.bool (bigA l)) := by
  intro st
  refine ACalls.of_vc (A := c_big) (is_big w0) (by simp) ?_
  unfold c_big
  have hll : (polsAV l).length = l.length := by simp [polsAV]
  simp only [VC, VX, VV, SU, RC, VQ, VQ2, opW, ne_eq, not_false_eq_true, not_true_eq_false, Nat.le_refl, false_implies, reduceIte, Nat.reduceEqDiff, Nat.reduceAdd, Nat.reduceSub, Nat.reduceLeDiff, Nat.reduceLT, Nat.reduceMul, Nat.reduceBEq, reduceCtorEq, Int.natCast_nonneg, Int.toNat_natCast, true_implies, implies_true, List.length_cons, List.length_nil, List.drop_succ_cons, List.drop_zero, List.take_succ_cons, List.take_zero, List.map_cons, List.map_nil, List.getD_cons_zero, List.getD_cons_succ, List.all_cons, List.all_nil, Bool.and_true, Bool.and_self, decide_true, decide_false, Bool.not_true, Bool.not_false, Bool.true_or, Bool.false_or, Bool.or_true, Bool.or_false, Bool.true_and, Bool.false_and, Bool.and_false, bytesAV_length, beq_self_eq_true, and_self, List.append_assoc, List.cons_append, List.nil_append]
  refine VLoop.up 12 (fun k e st' => e.get 0 = .sl .sh (polsAV l) ∧ e.get 3 = .int .i64 k ∧ k ≤ l.length ∧ k ≤ 12 ∧ ((l.take k).any bigR) = false ∧ st.le st') ?_ ?_
  · simp only [VC, VX, VV, SU, RC, VQ, VQ2, opW, ne_eq, not_false_eq_true, not_true_eq_false, Nat.le_refl, false_implies, reduceIte, Nat.reduceEqDiff, Nat.reduceAdd, Nat.reduceSub, Nat.reduceLeDiff, Nat.reduceLT, Nat.reduceMul, Nat.reduceBEq, reduceCtorEq, Int.natCast_nonneg, Int.toNat_natCast, true_implies, implies_true, List.length_cons, List.length_nil, List.drop_succ_cons, List.drop_zero, List.take_succ_cons, List.take_zero, List.map_cons, List.map_nil, List.getD_cons_zero, List.getD_cons_succ, List.all_cons, List.all_nil, Bool.and_true, Bool.and_self, decide_true, decide_false, Bool.not_true, Bool.not_false, Bool.true_or, Bool.false_or, Bool.or_true, Bool.or_false, Bool.true_and, Bool.false_and, Bool.and_false, bytesAV_length, beq_self_eq_true, and_self, List.append_assoc, List.cons_append, List.nil_append]
    exact ⟨rfl, Nat.zero_le _, by simp, St.le_refl _⟩
  · rintro k e st' ⟨h0, h3, hk, hk30, hall, hle⟩
    unfold c_big_L0
    have out : ∀ e' : Env, e'.get 0 = .sl .sh (polsAV l) → (l.length ≤ k ∨ 12 ≤ k) → vc (cx w0) c_big_S0 (endK [.t 2] fun r st' => r = .bool (bigA l) ∧ st.le st') e' st' := by
      intro e' h0 hor
      unfold c_big_S0
      have e1 : decide ((l.length : Int) > 12) = bigA l := by
        have e2 : (l.take 12).any bigR = false := by
          rcases hor with h | h
          · rw [List.take_of_length_le (by omega)] at hall ⊢; exact hall
          · have : k = 12 := by omega
            subst this; exact hall
        unfold bigA
        rw [e2, Bool.false_or]
        by_cases h : l.length > 12
        · have : (l.length : Int) > 12 := by omega
          simp [h, this]
        · have : ¬ (l.length : Int) > 12 := by omega
          simp [h, this]
      simp only [VC, VX, VV, SU, RC, VQ, VQ2, opW, ne_eq, not_false_eq_true, not_true_eq_false, Nat.le_refl, false_implies, reduceIte, Nat.reduceEqDiff, Nat.reduceAdd, Nat.reduceSub, Nat.reduceLeDiff, Nat.reduceLT, Nat.reduceMul, Nat.reduceBEq, reduceCtorEq, Int.natCast_nonneg, Int.toNat_natCast, true_implies, implies_true, List.length_cons, List.length_nil, List.drop_succ_cons, List.drop_zero, List.take_succ_cons, List.take_zero, List.map_cons, List.map_nil, List.getD_cons_zero, List.getD_cons_succ, List.all_cons, List.all_nil, Bool.and_true, Bool.and_self, decide_true, decide_false, Bool.not_true, Bool.not_false, Bool.true_or, Bool.false_or, Bool.or_true, Bool.or_false, Bool.true_and, Bool.false_and, Bool.and_false, bytesAV_length, beq_self_eq_true, and_self, List.append_assoc, List.cons_append, List.nil_append, h0, hll, e1]
      first | exact hle | exact ⟨rfl, hle⟩ | exact ⟨by simp, hle⟩
    by_cases h1 : (k : Int) < l.length
    · by_cases h2 : (k : Int) < 12
      · have hlt' : k < l.length := by omega
        have hg : (polsAV l).getD k .undef = .sl .sh (rulesAV l[k]) := by simp [polsAV, List.getD_eq_getElem?_getD, hlt']
        simp only [VC, VX, VV, SU, RC, VQ, VQ2, opW, ne_eq, not_false_eq_true, not_true_eq_false, Nat.le_refl, false_implies, reduceIte, Nat.reduceEqDiff, Nat.reduceAdd, Nat.reduceSub, Nat.reduceLeDiff, Nat.reduceLT, Nat.reduceMul, Nat.reduceBEq, reduceCtorEq, Int.natCast_nonneg, Int.toNat_natCast, true_implies, implies_true, List.length_cons, List.length_nil, List.drop_succ_cons, List.drop_zero, List.take_succ_cons, List.take_zero, List.map_cons, List.map_nil, List.getD_cons_zero, List.getD_cons_succ, List.all_cons, List.all_nil, Bool.and_true, Bool.and_self, decide_true, decide_false, Bool.not_true, Bool.not_false, Bool.true_or, Bool.false_or, Bool.or_true, Bool.or_false, Bool.true_and, Bool.false_and, Bool.and_false, bytesAV_length, beq_self_eq_true, and_self, List.append_assoc, List.cons_append, List.nil_append, h0, h3, h1, h2, hll, hg]
        refine (bigRules_ok w0 _ (hl2 _ (List.getElem_mem hlt')) st').mono ?_
        rintro r st2 ⟨rfl, hle2⟩
        have hle2 := St.le_trans hle hle2
        simp only [VC, VX, VV, SU, RC, VQ, VQ2, opW, ne_eq, not_false_eq_true, not_true_eq_false, Nat.le_refl, false_implies, reduceIte, Nat.reduceEqDiff, Nat.reduceAdd, Nat.reduceSub, Nat.reduceLeDiff, Nat.reduceLT, Nat.reduceMul, Nat.reduceBEq, reduceCtorEq, Int.natCast_nonneg, Int.toNat_natCast, true_implies, implies_true, List.length_cons, List.length_nil, List.drop_succ_cons, List.drop_zero, List.take_succ_cons, List.take_zero, List.map_cons, List.map_nil, List.getD_cons_zero, List.getD_cons_succ, List.all_cons, List.all_nil, Bool.and_true, Bool.and_self, decide_true, decide_false, Bool.not_true, Bool.not_false, Bool.true_or, Bool.false_or, Bool.or_true, Bool.or_false, Bool.true_and, Bool.false_and, Bool.and_false, bytesAV_length, beq_self_eq_true, and_self, List.append_assoc, List.cons_append, List.nil_append]
        cases hb : bigR l[k] with
        | true =>
          simp only [VC, VX, VV, SU, RC, VQ, VQ2, opW, ne_eq, not_false_eq_true, not_true_eq_false, Nat.le_refl, false_implies, reduceIte, Nat.reduceEqDiff, Nat.reduceAdd, Nat.reduceSub, Nat.reduceLeDiff, Nat.reduceLT, Nat.reduceMul, Nat.reduceBEq, reduceCtorEq, Int.natCast_nonneg, Int.toNat_natCast, true_implies, implies_true, List.length_cons, List.length_nil, List.drop_succ_cons, List.drop_zero, List.take_succ_cons, List.take_zero, List.map_cons, List.map_nil, List.getD_cons_zero, List.getD_cons_succ, List.all_cons, List.all_nil, Bool.and_true, Bool.and_self, decide_true, decide_false, Bool.not_true, Bool.not_false, Bool.true_or, Bool.false_or, Bool.or_true, Bool.or_false, Bool.true_and, Bool.false_and, Bool.and_false, bytesAV_length, beq_self_eq_true, and_self, List.append_assoc, List.cons_append, List.nil_append]
          refine ⟨?_, hle2⟩
          have : (l.take 12).any bigR = true := List.any_eq_true.2 ⟨l[k], by
            rw [List.mem_take_iff_getElem]
            exact ⟨k, by omega, rfl⟩, hb⟩
          simp [bigA, this]
        | false =>
          simp only [VC, VX, VV, SU, RC, VQ, VQ2, opW, ne_eq, not_false_eq_true, not_true_eq_false, Nat.le_refl, false_implies, reduceIte, Nat.reduceEqDiff, Nat.reduceAdd, Nat.reduceSub, Nat.reduceLeDiff, Nat.reduceLT, Nat.reduceMul, Nat.reduceBEq, reduceCtorEq, Int.natCast_nonneg, Int.toNat_natCast, true_implies, implies_true, List.length_cons, List.length_nil, List.drop_succ_cons, List.drop_zero, List.take_succ_cons, List.take_zero, List.map_cons, List.map_nil, List.getD_cons_zero, List.getD_cons_succ, List.all_cons, List.all_nil, Bool.and_true, Bool.and_self, decide_true, decide_false, Bool.not_true, Bool.not_false, Bool.true_or, Bool.false_or, Bool.or_true, Bool.or_false, Bool.true_and, Bool.false_and, Bool.and_false, bytesAV_length, beq_self_eq_true, and_self, List.append_assoc, List.cons_append, List.nil_append, h0, h3]
          refine ⟨by omega, by rw [wrap_nat (by omega)], by omega, by omega, ?_, hle2⟩
          rw [List.take_succ_eq_append_getElem hlt', List.any_append, hall]
          simp [hb]
      · simp only [VC, VX, VV, SU, RC, VQ, VQ2, opW, ne_eq, not_false_eq_true, not_true_eq_false, Nat.le_refl, false_implies, reduceIte, Nat.reduceEqDiff, Nat.reduceAdd, Nat.reduceSub, Nat.reduceLeDiff, Nat.reduceLT, Nat.reduceMul, Nat.reduceBEq, reduceCtorEq, Int.natCast_nonneg, Int.toNat_natCast, true_implies, implies_true, List.length_cons, List.length_nil, List.drop_succ_cons, List.drop_zero, List.take_succ_cons, List.take_zero, List.map_cons, List.map_nil, List.getD_cons_zero, List.getD_cons_succ, List.all_cons, List.all_nil, Bool.and_true, Bool.and_self, decide_true, decide_false, Bool.not_true, Bool.not_false, Bool.true_or, Bool.false_or, Bool.or_true, Bool.or_false, Bool.true_and, Bool.false_and, Bool.and_false, bytesAV_length, beq_self_eq_true, and_self, List.append_assoc, List.cons_append, List.nil_append, h0, h3, h1, h2, hll]
        refine out _ ?_ (.inr (by omega))
        simp only [VC, VX, VV, SU, RC, VQ, VQ2, opW, ne_eq, not_false_eq_true, not_true_eq_false, Nat.le_refl, false_implies, reduceIte, Nat.reduceEqDiff, Nat.reduceAdd, Nat.reduceSub, Nat.reduceLeDiff, Nat.reduceLT, Nat.reduceMul, Nat.reduceBEq, reduceCtorEq, Int.natCast_nonneg, Int.toNat_natCast, true_implies, implies_true, List.length_cons, List.length_nil, List.drop_succ_cons, List.drop_zero, List.take_succ_cons, List.take_zero, List.map_cons, List.map_nil, List.getD_cons_zero, List.getD_cons_succ, List.all_cons, List.all_nil, Bool.and_true, Bool.and_self, decide_true, decide_false, Bool.not_true, Bool.not_false, Bool.true_or, Bool.false_or, Bool.or_true, Bool.or_false, Bool.true_and, Bool.false_and, Bool.and_false, bytesAV_length, beq_self_eq_true, and_self, List.append_assoc, List.cons_append, List.nil_append, h0]
    · simp only [VC, VX, VV, SU, RC, VQ, VQ2, opW, ne_eq, not_false_eq_true, not_true_eq_false, Nat.le_refl, false_implies, reduceIte, Nat.reduceEqDiff, Nat.reduceAdd, Nat.reduceSub, Nat.reduceLeDiff, Nat.reduceLT, Nat.reduceMul, Nat.reduceBEq, reduceCtorEq, Int.natCast_nonneg, Int.toNat_natCast, true_implies, implies_true, List.length_cons, List.length_nil, List.drop_succ_cons, List.drop_zero, List.take_succ_cons, List.take_zero, List.map_cons, List.map_nil, List.getD_cons_zero, List.getD_cons_succ, List.all_cons, List.all_nil, Bool.and_true, Bool.and_self, decide_true, decide_false, Bool.not_true, Bool.not_false, Bool.true_or, Bool.false_or, Bool.or_true, Bool.or_false, Bool.true_and, Bool.false_and, Bool.and_false, bytesAV_length, beq_self_eq_true, and_self, List.append_assoc, List.cons_append, List.nil_append, h0, h3, h1, hll]
      refine out _ ?_ (.inl (by omega))
      simp only [VC, VX, VV, SU, RC, VQ, VQ2, opW, ne_eq, not_false_eq_true, not_true_eq_false, Nat.le_refl, false_implies, reduceIte, Nat.reduceEqDiff, Nat.reduceAdd, Nat.reduceSub, Nat.reduceLeDiff, Nat.reduceLT, Nat.reduceMul, Nat.reduceBEq, reduceCtorEq, Int.natCast_nonneg, Int.toNat_natCast, true_implies, implies_true, List.length_cons, List.length_nil, List.drop_succ_cons, List.drop_zero, List.take_succ_cons, List.take_zero, List.map_cons, List.map_nil, List.getD_cons_zero, List.getD_cons_succ, List.all_cons, List.all_nil, Bool.and_true, Bool.and_self, decide_true, decide_false, Bool.not_true, Bool.not_false, Bool.true_or, Bool.false_or, Bool.or_true, Bool.or_false, Bool.true_and, Bool.false_and, Bool.and_false, bytesAV_length, beq_self_eq_true, and_self, List.append_assoc, List.cons_append, List.nil_append, h0]

theorem giveRules_ok (w0 : World) (l : List Rule) (hl : l.length ≤ 1000000) (st : St) : ACalls (cx w0) 153 [.sl .sh (rulesAV l)] st fun r st' => (∃ tk, r = .sl tk (rulesAV l)) ∧ st.le st' := by
  refine ACalls.of_vc (A := c_giveRules) (is_giveRules w0) (by simp) ?_
  unfold c_giveRules
  simp only [VC, VX, VV, SU, RC, VQ, VQ2, opW, ne_eq, not_false_eq_true, not_true_eq_false, Nat.le_refl, false_implies, reduceIte, Nat.reduceEqDiff, Nat.reduceAdd, Nat.reduceSub, Nat.reduceLeDiff, Nat.reduceLT, Nat.reduceMul, Nat.reduceBEq, reduceCtorEq, Int.natCast_nonneg, Int.toNat_natCast, true_implies, implies_true, List.length_cons, List.length_nil, List.drop_succ_cons, List.drop_zero, List.take_succ_cons, List.take_zero, List.map_cons, List.map_nil, List.getD_cons_zero, List.getD_cons_succ, List.all_cons, List.all_nil, Bool.and_true, Bool.and_self, decide_true, decide_false, Bool.not_true, Bool.not_false, Bool.true_or, Bool.false_or, Bool.or_true, Bool.or_false, Bool.true_and, Bool.false_and, Bool.and_false, bytesAV_length, beq_self_eq_true, and_self, List.append_assoc, List.cons_append, List.nil_append]
  refine VLoop.up l.length (fun k e st' => e.get 0 = .sl .sh (rulesAV l) ∧ e.get 4 = .int .i64 k ∧ k ≤ l.length ∧ ∃ tk, e.get 3 = .sl tk (rulesAV (l.take k)) ∧ Acc 2 st tk st') ?_ ?_
  · simp only [VC, VX, VV, SU, RC, VQ, VQ2, opW, ne_eq, not_false_eq_true, not_true_eq_false, Nat.le_refl, false_implies, reduceIte, Nat.reduceEqDiff, Nat.reduceAdd, Nat.reduceSub, Nat.reduceLeDiff, Nat.reduceLT, Nat.reduceMul, Nat.reduceBEq, reduceCtorEq, Int.natCast_nonneg, Int.toNat_natCast, true_implies, implies_true, List.length_cons, List.length_nil, List.drop_succ_cons, List.drop_zero, List.take_succ_cons, List.take_zero, List.map_cons, List.map_nil, List.getD_cons_zero, List.getD_cons_succ, List.all_cons, List.all_nil, Bool.and_true, Bool.and_self, decide_true, decide_false, Bool.not_true, Bool.not_false, Bool.true_or, Bool.false_or, Bool.or_true, Bool.or_false, Bool.true_and, Bool.false_and, Bool.and_false, bytesAV_length, beq_self_eq_true, and_self, List.append_assoc, List.cons_append, List.nil_append]
    exact ⟨rfl, Nat.zero_le _, .nil, rfl, Acc.nil (St.le_refl _)⟩
  · rintro k e st' ⟨h0, h4, hk, tk, h3, hacc⟩
    unfold c_giveRules_L0
    simp only [VC, VX, VV, SU, RC, VQ, VQ2, opW, ne_eq, not_false_eq_true, not_true_eq_false, Nat.le_refl, false_implies, reduceIte, Nat.reduceEqDiff, Nat.reduceAdd, Nat.reduceSub, Nat.reduceLeDiff, Nat.reduceLT, Nat.reduceMul, Nat.reduceBEq, reduceCtorEq, Int.natCast_nonneg, Int.toNat_natCast, true_implies, implies_true, List.length_cons, List.length_nil, List.drop_succ_cons, List.drop_zero, List.take_succ_cons, List.take_zero, List.map_cons, List.map_nil, List.getD_cons_zero, List.getD_cons_succ, List.all_cons, List.all_nil, Bool.and_true, Bool.and_self, decide_true, decide_false, Bool.not_true, Bool.not_false, Bool.true_or, Bool.false_or, Bool.or_true, Bool.or_false, Bool.true_and, Bool.false_and, Bool.and_false, bytesAV_length, beq_self_eq_true, and_self, List.append_assoc, List.cons_append, List.nil_append, h0, h4, rulesAV_length]
    refine VCond.dec (fun h1 => ?_) (fun h1 => ?_)
    · have hlt' : k < l.length := by omega
      have hg := rulesAV_getD l k hlt'
      simp only [VC, VX, VV, SU, RC, VQ, VQ2, opW, ne_eq, not_false_eq_true, not_true_eq_false, Nat.le_refl, false_implies, reduceIte, Nat.reduceEqDiff, Nat.reduceAdd, Nat.reduceSub, Nat.reduceLeDiff, Nat.reduceLT, Nat.reduceMul, Nat.reduceBEq, reduceCtorEq, Int.natCast_nonneg, Int.toNat_natCast, true_implies, implies_true, List.length_cons, List.length_nil, List.drop_succ_cons, List.drop_zero, List.take_succ_cons, List.take_zero, List.map_cons, List.map_nil, List.getD_cons_zero, List.getD_cons_succ, List.all_cons, List.all_nil, Bool.and_true, Bool.and_self, decide_true, decide_false, Bool.not_true, Bool.not_false, Bool.true_or, Bool.false_or, Bool.or_true, Bool.or_false, Bool.true_and, Bool.false_and, Bool.and_false, bytesAV_length, beq_self_eq_true, and_self, List.append_assoc, List.cons_append, List.nil_append, h0, h4, h3, h1, hg, rulesAV_length, rulesAV_csize]
      intro t ht
      have hacc := hacc.new .tok ht
      refine ⟨hacc.1, ⟨by simp; omega, by simp [maxLen]; omega⟩, fun tk' st4 a1 a2 a3 => ⟨hlt', by rw [wrap_nat (by omega)], by omega, tk', ?_, hacc.app a1 a2 a3⟩⟩
      rw [List.take_succ_eq_append_getElem hlt']
      simp only [rulesAV, List.map_append, List.map_cons, List.map_nil, ruleAV]
    · have hk' : k = l.length := by omega
      subst hk'
      unfold c_giveRules_S0
      simp only [VC, VX, VV, SU, RC, VQ, VQ2, opW, ne_eq, not_false_eq_true, not_true_eq_false, Nat.le_refl, false_implies, reduceIte, Nat.reduceEqDiff, Nat.reduceAdd, Nat.reduceSub, Nat.reduceLeDiff, Nat.reduceLT, Nat.reduceMul, Nat.reduceBEq, reduceCtorEq, Int.natCast_nonneg, Int.toNat_natCast, true_implies, implies_true, List.length_cons, List.length_nil, List.drop_succ_cons, List.drop_zero, List.take_succ_cons, List.take_zero, List.map_cons, List.map_nil, List.getD_cons_zero, List.getD_cons_succ, List.all_cons, List.all_nil, Bool.and_true, Bool.and_self, decide_true, decide_false, Bool.not_true, Bool.not_false, Bool.true_or, Bool.false_or, Bool.or_true, Bool.or_false, Bool.true_and, Bool.false_and, Bool.and_false, bytesAV_length, beq_self_eq_true, and_self, List.append_assoc, List.cons_append, List.nil_append, h3]
      exact ⟨⟨tk, by rw [List.take_length]⟩, hacc.2.1⟩

theorem giveAll_ok (w0 : World) (l : List (List Rule)) (hs : l.length ≤ 1000 ∧ ∀ p ∈ l, p.length ≤ 1000000) (st : St) : ACalls (cx w0) 68 [.sl .sh (polsAV l)] st fun r st' => (∃ tk, r = .sl tk (polsAV l)) ∧ st.le st' := by
  refine ACalls.of_vc (A := c_giveAll) (is_giveAll w0) (by simp) ?_
  unfold c_giveAll
  have hll : (polsAV l).length = l.length := by simp [polsAV]
  have h1000 := hs.1
  simp only [VC, VX, VV, SU, RC, VQ, VQ2, opW, ne_eq, not_false_eq_true, not_true_eq_false, Nat.le_refl, false_implies, reduceIte, Nat.reduceEqDiff, Nat.reduceAdd, Nat.reduceSub, Nat.reduceLeDiff, Nat.reduceLT, Nat.reduceMul, Nat.reduceBEq, reduceCtorEq, Int.natCast_nonneg, Int.toNat_natCast, true_implies, implies_true, List.length_cons, List.length_nil, List.drop_succ_cons, List.drop_zero, List.take_succ_cons, List.take_zero, List.map_cons, List.map_nil, List.getD_cons_zero, List.getD_cons_succ, List.all_cons, List.all_nil, Bool.and_true, Bool.and_self, decide_true, decide_false, Bool.not_true, Bool.not_false, Bool.true_or, Bool.false_or, Bool.or_true, Bool.or_false, Bool.true_and, Bool.false_and, Bool.and_false, bytesAV_length, beq_self_eq_true, and_self, List.append_assoc, List.cons_append, List.nil_append]
  refine VLoop.up l.length (fun k e st' => e.get 0 = .sl .sh (polsAV l) ∧ e.get 4 = .int .i64 k ∧ k ≤ l.length ∧ ∃ tk, e.get 3 = .sl tk (polsAV (l.take k)) ∧ Acc 1 st tk st') ?_ ?_
  · simp only [VC, VX, VV, SU, RC, VQ, VQ2, opW, ne_eq, not_false_eq_true, not_true_eq_false, Nat.le_refl, false_implies, reduceIte, Nat.reduceEqDiff, Nat.reduceAdd, Nat.reduceSub, Nat.reduceLeDiff, Nat.reduceLT, Nat.reduceMul, Nat.reduceBEq, reduceCtorEq, Int.natCast_nonneg, Int.toNat_natCast, true_implies, implies_true, List.length_cons, List.length_nil, List.drop_succ_cons, List.drop_zero, List.take_succ_cons, List.take_zero, List.map_cons, List.map_nil, List.getD_cons_zero, List.getD_cons_succ, List.all_cons, List.all_nil, Bool.and_true, Bool.and_self, decide_true, decide_false, Bool.not_true, Bool.not_false, Bool.true_or, Bool.false_or, Bool.or_true, Bool.or_false, Bool.true_and, Bool.false_and, Bool.and_false, bytesAV_length, beq_self_eq_true, and_self, List.append_assoc, List.cons_append, List.nil_append]
    exact ⟨rfl, Nat.zero_le _, .nil, rfl, Acc.nil (St.le_refl _)⟩
  · rintro k e st' ⟨h0, h4, hk, tk, h3, hacc⟩
    unfold c_giveAll_L0
    simp only [VC, VX, VV, SU, RC, VQ, VQ2, opW, ne_eq, not_false_eq_true, not_true_eq_false, Nat.le_refl, false_implies, reduceIte, Nat.reduceEqDiff, Nat.reduceAdd, Nat.reduceSub, Nat.reduceLeDiff, Nat.reduceLT, Nat.reduceMul, Nat.reduceBEq, reduceCtorEq, Int.natCast_nonneg, Int.toNat_natCast, true_implies, implies_true, List.length_cons, List.length_nil, List.drop_succ_cons, List.drop_zero, List.take_succ_cons, List.take_zero, List.map_cons, List.map_nil, List.getD_cons_zero, List.getD_cons_succ, List.all_cons, List.all_nil, Bool.and_true, Bool.and_self, decide_true, decide_false, Bool.not_true, Bool.not_false, Bool.true_or, Bool.false_or, Bool.or_true, Bool.or_false, Bool.true_and, Bool.false_and, Bool.and_false, bytesAV_length, beq_self_eq_true, and_self, List.append_assoc, List.cons_append, List.nil_append, h0, h4, hll]
    refine VCond.dec (fun h1 => ?_) (fun h1 => ?_)
    · have hlt' : k < l.length := by omega
      have hg : (polsAV l).getD k .undef = .sl .sh (rulesAV l[k]) := by simp [polsAV, List.getD_eq_getElem?_getD, hlt']
      simp only [VC, VX, VV, SU, RC, VQ, VQ2, opW, ne_eq, not_false_eq_true, not_true_eq_false, Nat.le_refl, false_implies, reduceIte, Nat.reduceEqDiff, Nat.reduceAdd, Nat.reduceSub, Nat.reduceLeDiff, Nat.reduceLT, Nat.reduceMul, Nat.reduceBEq, reduceCtorEq, Int.natCast_nonneg, Int.toNat_natCast, true_implies, implies_true, List.length_cons, List.length_nil, List.drop_succ_cons, List.drop_zero, List.take_succ_cons, List.take_zero, List.map_cons, List.map_nil, List.getD_cons_zero, List.getD_cons_succ, List.all_cons, List.all_nil, Bool.and_true, Bool.and_self, decide_true, decide_false, Bool.not_true, Bool.not_false, Bool.true_or, Bool.false_or, Bool.or_true, Bool.or_false, Bool.true_and, Bool.false_and, Bool.and_false, bytesAV_length, beq_self_eq_true, and_self, List.append_assoc, List.cons_append, List.nil_append, h0, h4, h3, h1, hg, hll]
      refine (giveRules_ok w0 _ (hs.2 _ (List.getElem_mem hlt')) st').mono ?_
      rintro r st2 ⟨⟨tk2, rfl⟩, hle2⟩
      have hacc := hacc.le hle2
      simp only [VC, VX, VV, SU, RC, VQ, VQ2, opW, ne_eq, not_false_eq_true, not_true_eq_false, Nat.le_refl, false_implies, reduceIte, Nat.reduceEqDiff, Nat.reduceAdd, Nat.reduceSub, Nat.reduceLeDiff, Nat.reduceLT, Nat.reduceMul, Nat.reduceBEq, reduceCtorEq, Int.natCast_nonneg, Int.toNat_natCast, true_implies, implies_true, List.length_cons, List.length_nil, List.drop_succ_cons, List.drop_zero, List.take_succ_cons, List.take_zero, List.map_cons, List.map_nil, List.getD_cons_zero, List.getD_cons_succ, List.all_cons, List.all_nil, Bool.and_true, Bool.and_self, decide_true, decide_false, Bool.not_true, Bool.not_false, Bool.true_or, Bool.false_or, Bool.or_true, Bool.or_false, Bool.true_and, Bool.false_and, Bool.and_false, bytesAV_length, beq_self_eq_true, and_self, List.append_assoc, List.cons_append, List.nil_append, h0, h4, h3]
      intro t ht
      have hacc := hacc.new .tok ht
      refine ⟨hacc.1, polsAV_csize _, ⟨by rw [polsAV_length, List.length_take]; omega, by rw [polsAV_length, List.length_take]; unfold maxLen; omega⟩, fun tk' st4 a1 a2 a3 => ⟨hlt', by rw [wrap_nat (by omega)], by omega, tk', ?_, hacc.app a1 a2 a3⟩⟩
      rw [List.take_succ_eq_append_getElem hlt']
      simp only [polsAV, List.map_append, List.map_cons, List.map_nil]
    · have hk' : k = l.length := by omega
      subst hk'
      unfold c_giveAll_S0
      simp only [VC, VX, VV, SU, RC, VQ, VQ2, opW, ne_eq, not_false_eq_true, not_true_eq_false, Nat.le_refl, false_implies, reduceIte, Nat.reduceEqDiff, Nat.reduceAdd, Nat.reduceSub, Nat.reduceLeDiff, Nat.reduceLT, Nat.reduceMul, Nat.reduceBEq, reduceCtorEq, Int.natCast_nonneg, Int.toNat_natCast, true_implies, implies_true, List.length_cons, List.length_nil, List.drop_succ_cons, List.drop_zero, List.take_succ_cons, List.take_zero, List.map_cons, List.map_nil, List.getD_cons_zero, List.getD_cons_succ, List.all_cons, List.all_nil, Bool.and_true, Bool.and_self, decide_true, decide_false, Bool.not_true, Bool.not_false, Bool.true_or, Bool.false_or, Bool.or_true, Bool.or_false, Bool.true_and, Bool.false_and, Bool.and_false, bytesAV_length, beq_self_eq_true, and_self, List.append_assoc, List.cons_append, List.nil_append, h3]
      exact ⟨⟨tk, by rw [List.take_length]⟩, hacc.2.1⟩

def sureL : List (List Rule) := [[([107, 118, 47, 42], 1)], [([107, 118, 47, 97], 32)]]
theorem sure_says : (saysP sureL [107, 118, 47, 98]).best = [107, 118, 47, 42] ∧ (saysP sureL [107, 118, 47, 98]).caps = 1 ∧ (saysP sureL [107, 118, 47, 98]).is = true := by decide
theorem sure_1 : allowsP sureL [107, 118, 47, 98] 1 = true := by decide
theorem sure_2 : allowsP sureL [107, 118, 47, 97] 1 = false := by decide
theorem sure_3 : allowsP [[([42], 31)]] [120, 47, 121] 16 = true := by decide

theorem sure_ok (w0 : World) (hM : Mx w0) : PC w0 67 [] (.bool true) := by
  intro st
  refine ACalls.of_vc (A := c_sure) (is_sure w0) (by simp) ?_
  unfold c_sure
  simp only [VC, VX, VV, SU, RC, VQ, VQ2, opW, ne_eq, not_false_eq_true, not_true_eq_false, Nat.le_refl, false_implies, reduceIte, Nat.reduceEqDiff, Nat.reduceAdd, Nat.reduceSub, Nat.reduceLeDiff, Nat.reduceLT, Nat.reduceMul, Nat.reduceBEq, reduceCtorEq, Int.natCast_nonneg, Int.toNat_natCast, true_implies, implies_true, List.length_cons, List.length_nil, List.drop_succ_cons, List.drop_zero, List.take_succ_cons, List.take_zero, List.map_cons, List.map_nil, List.getD_cons_zero, List.getD_cons_succ, List.all_cons, List.all_nil, Bool.and_true, Bool.and_self, decide_true, decide_false, Bool.not_true, Bool.not_false, Bool.true_or, Bool.false_or, Bool.or_true, Bool.or_false, Bool.true_and, Bool.false_and, Bool.and_false, bytesAV_length, beq_self_eq_true, and_self, List.append_assoc, List.cons_append, List.nil_append]
  intro t1 ht1 t2 ht2 t3 ht3
  have hl0 : st.le ((((st.upd t1 .tok).upd t2 .tok).upd t3 .tok)) := by
    obtain ⟨_, a2⟩ := St.new (s := st) (id := t1) (t := t2) (r := .tok) ht2
    have a3 := St.new (s := st.upd t1 .tok) (id := t2) (t := t3) (r := .tok) ht3
    exact St.le_trans (St.le_trans (St.le_upd _ _ _ ht1) (St.le_upd _ _ _ ht2)) (St.le_upd _ _ _ ht3)
  generalize ((st.upd t1 .tok).upd t2 .tok).upd t3 .tok = st1 at hl0 ⊢
  have hsm : Small sureL := ⟨by decide, by decide⟩
  have h1 := says_ok w0 hM (.tip t3 1) sureL hsm [107, 118, 47, 98] (by decide) st1
  rw [sure_says.1, sure_says.2.1, sure_says.2.2] at h1
  refine ACalls.mono h1 ?_
  rintro r st2 ⟨rfl, hle2⟩
  have hle2 := St.le_trans hl0 hle2
  simp only [VC, VX, VV, SU, RC, VQ, VQ2, opW, ne_eq, not_false_eq_true, not_true_eq_false, Nat.le_refl, false_implies, reduceIte, Nat.reduceEqDiff, Nat.reduceAdd, Nat.reduceSub, Nat.reduceLeDiff, Nat.reduceLT, Nat.reduceMul, Nat.reduceBEq, reduceCtorEq, Int.natCast_nonneg, Int.toNat_natCast, true_implies, implies_true, List.length_cons, List.length_nil, List.drop_succ_cons, List.drop_zero, List.take_succ_cons, List.take_zero, List.map_cons, List.map_nil, List.getD_cons_zero, List.getD_cons_succ, List.all_cons, List.all_nil, Bool.and_true, Bool.and_self, decide_true, decide_false, Bool.not_true, Bool.not_false, Bool.true_or, Bool.false_or, Bool.or_true, Bool.or_false, Bool.true_and, Bool.false_and, Bool.and_false, bytesAV_length, beq_self_eq_true, and_self, List.append_assoc, List.cons_append, List.nil_append]
  have hc1 : (((1 : UInt8).toNat : Int) == 1) = true := by decide
  simp only [VC, VX, VV, SU, RC, VQ, VQ2, opW, ne_eq, not_false_eq_true, not_true_eq_false, Nat.le_refl, false_implies, reduceIte, Nat.reduceEqDiff, Nat.reduceAdd, Nat.reduceSub, Nat.reduceLeDiff, Nat.reduceLT, Nat.reduceMul, Nat.reduceBEq, reduceCtorEq, Int.natCast_nonneg, Int.toNat_natCast, true_implies, implies_true, List.length_cons, List.length_nil, List.drop_succ_cons, List.drop_zero, List.take_succ_cons, List.take_zero, List.map_cons, List.map_nil, List.getD_cons_zero, List.getD_cons_succ, List.all_cons, List.all_nil, Bool.and_true, Bool.and_self, decide_true, decide_false, Bool.not_true, Bool.not_false, Bool.true_or, Bool.false_or, Bool.or_true, Bool.or_false, Bool.true_and, Bool.false_and, Bool.and_false, bytesAV_length, beq_self_eq_true, and_self, List.append_assoc, List.cons_append, List.nil_append, hc1]
  have h2 := allows_ok w0 hM (.tip t3 1) sureL hsm [107, 118, 47, 98] (by decide) 1 st2
  rw [sure_1] at h2
  refine ACalls.mono h2 ?_
  rintro r st3 ⟨rfl, hle3⟩
  have hle3 := St.le_trans hle2 hle3
  simp only [VC, VX, VV, SU, RC, VQ, VQ2, opW, ne_eq, not_false_eq_true, not_true_eq_false, Nat.le_refl, false_implies, reduceIte, Nat.reduceEqDiff, Nat.reduceAdd, Nat.reduceSub, Nat.reduceLeDiff, Nat.reduceLT, Nat.reduceMul, Nat.reduceBEq, reduceCtorEq, Int.natCast_nonneg, Int.toNat_natCast, true_implies, implies_true, List.length_cons, List.length_nil, List.drop_succ_cons, List.drop_zero, List.take_succ_cons, List.take_zero, List.map_cons, List.map_nil, List.getD_cons_zero, List.getD_cons_succ, List.all_cons, List.all_nil, Bool.and_true, Bool.and_self, decide_true, decide_false, Bool.not_true, Bool.not_false, Bool.true_or, Bool.false_or, Bool.or_true, Bool.or_false, Bool.true_and, Bool.false_and, Bool.and_false, bytesAV_length, beq_self_eq_true, and_self, List.append_assoc, List.cons_append, List.nil_append]
  have h3 := allows_ok w0 hM (.tip t3 1) sureL hsm [107, 118, 47, 97] (by decide) 1 st3
  rw [sure_2] at h3
  refine ACalls.mono h3 ?_
  rintro r st4 ⟨rfl, hle4⟩
  have hle4 := St.le_trans hle3 hle4
  simp only [VC, VX, VV, SU, RC, VQ, VQ2, opW, ne_eq, not_false_eq_true, not_true_eq_false, Nat.le_refl, false_implies, reduceIte, Nat.reduceEqDiff, Nat.reduceAdd, Nat.reduceSub, Nat.reduceLeDiff, Nat.reduceLT, Nat.reduceMul, Nat.reduceBEq, reduceCtorEq, Int.natCast_nonneg, Int.toNat_natCast, true_implies, implies_true, List.length_cons, List.length_nil, List.drop_succ_cons, List.drop_zero, List.take_succ_cons, List.take_zero, List.map_cons, List.map_nil, List.getD_cons_zero, List.getD_cons_succ, List.all_cons, List.all_nil, Bool.and_true, Bool.and_self, decide_true, decide_false, Bool.not_true, Bool.not_false, Bool.true_or, Bool.false_or, Bool.or_true, Bool.or_false, Bool.true_and, Bool.false_and, Bool.and_false, bytesAV_length, beq_self_eq_true, and_self, List.append_assoc, List.cons_append, List.nil_append]
  refine (root_ok w0 st4).mono ?_
  rintro r st5 ⟨⟨tk, rfl⟩, hle5⟩
  have hle5 := St.le_trans hle4 hle5
  simp only [VC, VX, VV, SU, RC, VQ, VQ2, opW, ne_eq, not_false_eq_true, not_true_eq_false, Nat.le_refl, false_implies, reduceIte, Nat.reduceEqDiff, Nat.reduceAdd, Nat.reduceSub, Nat.reduceLeDiff, Nat.reduceLT, Nat.reduceMul, Nat.reduceBEq, reduceCtorEq, Int.natCast_nonneg, Int.toNat_natCast, true_implies, implies_true, List.length_cons, List.length_nil, List.drop_succ_cons, List.drop_zero, List.take_succ_cons, List.take_zero, List.map_cons, List.map_nil, List.getD_cons_zero, List.getD_cons_succ, List.all_cons, List.all_nil, Bool.and_true, Bool.and_self, decide_true, decide_false, Bool.not_true, Bool.not_false, Bool.true_or, Bool.false_or, Bool.or_true, Bool.or_false, Bool.true_and, Bool.false_and, Bool.and_false, bytesAV_length, beq_self_eq_true, and_self, List.append_assoc, List.cons_append, List.nil_append]
  intro t ht
  have hle6 := St.le_trans hle5 (St.le_upd _ _ .tok ht)
  have h4 := allows_ok w0 hM (.tip t 1) [[([42], 31)]] ⟨by decide, by decide⟩ [120, 47, 121] (by decide) 16 (st5.upd t .tok)
  rw [sure_3] at h4
  refine ACalls.mono h4 ?_
  rintro r st6 ⟨rfl, hle7⟩
  have hle7 := St.le_trans hle6 hle7
  simp only [VC, VX, VV, SU, RC, VQ, VQ2, opW, ne_eq, not_false_eq_true, not_true_eq_false, Nat.le_refl, false_implies, reduceIte, Nat.reduceEqDiff, Nat.reduceAdd, Nat.reduceSub, Nat.reduceLeDiff, Nat.reduceLT, Nat.reduceMul, Nat.reduceBEq, reduceCtorEq, Int.natCast_nonneg, Int.toNat_natCast, true_implies, implies_true, List.length_cons, List.length_nil, List.drop_succ_cons, List.drop_zero, List.take_succ_cons, List.take_zero, List.map_cons, List.map_nil, List.getD_cons_zero, List.getD_cons_succ, List.all_cons, List.all_nil, Bool.and_true, Bool.and_self, decide_true, decide_false, Bool.not_true, Bool.not_false, Bool.true_or, Bool.false_or, Bool.or_true, Bool.or_false, Bool.true_and, Bool.false_and, Bool.and_false, bytesAV_length, beq_self_eq_true, and_self, List.append_assoc, List.cons_append, List.nil_append]
  first | exact hle7 | exact ⟨rfl, hle7⟩ | exact ⟨by simp, hle7⟩
end Go.Proofs.YtiipkbkoigcabaaDoor
