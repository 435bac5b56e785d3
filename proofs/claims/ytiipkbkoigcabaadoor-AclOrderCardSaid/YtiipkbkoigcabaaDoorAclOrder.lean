/- The law AclOrder: it returns true. No condition. -/
import Derived.Test.YtiipkbkoigcabaaDoorAclLaw
import Derived.Test.YtiipkbkoigcabaaDoorOrd2
namespace Go.Proofs.YtiipkbkoigcabaaDoor
open Go Go.AW Go.RowKit Go.Proofs Go.Lib
set_option linter.unusedVariables false
set_option linter.unusedSimpArgs false

/-- bursary/bursarylaw26.AclOrder: function 10. -/
def c_order_L0 : ACode := .seq (.seq (.ops [⟨some 40, .mv (.t 9), none⟩, ⟨some 41, .cmp .geq (.t 40) (.c (.int .i64 0)), none⟩]) (.cond (.t 41) .skip (.exit 0))) (.seq (.block 1 (.ops [⟨some 44, .mv (.t 8), none⟩, ⟨some 45, .mv (.t 7), none⟩, ⟨some 46, .mv (.t 9), none⟩, ⟨some 47, .iaddr 1 (.t 45) (.t 46), none⟩, ⟨some 48, .load false 1 (.t 47), none⟩, ⟨some 49, .mk (.sl .nil []) 1 [(0, .t 48)], none⟩, ⟨some 50, .app 1 24 (.t 44) (.t 49), none⟩, ⟨some 8, .mv (.t 50), none⟩])) (.ops [⟨some 42, .mv (.t 9), none⟩, ⟨some 43, .arith .sub (.t 42) (.c (.int .i64 1)), none⟩, ⟨some 9, .mv (.t 43), none⟩]))
def c_order_S0 : ACode := .seq (.ops [⟨some 51, .mv (.t 2), none⟩, ⟨some 52, .arith .rem (.t 51) (.c (.int .u8 5)), none⟩, ⟨some 53, .shift .shl (.c (.int .u8 1)) (.t 52), none⟩, ⟨some 10, .mv (.t 53), none⟩]) (.seq (.ops [⟨some 54, .mv (.t 7), none⟩, ⟨some 55, .mv (.t 1), none⟩, ⟨some 56, .mv (.t 10), none⟩, ⟨some 57, .call (.f 69) [.t 54, .t 55, .t 56], none⟩, ⟨some 11, .mv (.t 57), none⟩]) (.seq (.seq (.ops [⟨some 58, .mv (.t 8), none⟩, ⟨some 59, .mv (.t 1), none⟩, ⟨some 60, .mv (.t 10), none⟩, ⟨some 61, .call (.f 69) [.t 58, .t 59, .t 60], none⟩, ⟨some 62, .mv (.t 11), none⟩, ⟨some 63, .cmpB true (.t 61) (.t 62), none⟩, ⟨some 64, .mv (.t 63), none⟩, ⟨some 65, .mv (.t 8), some (64, false)⟩, ⟨some 66, .mv (.t 7), some (64, false)⟩, ⟨some 67, .app 1 24 (.t 65) (.t 66), some (64, false)⟩, ⟨some 68, .mv (.t 1), some (64, false)⟩, ⟨some 69, .mv (.t 10), some (64, false)⟩, ⟨some 70, .call (.f 69) [.t 67, .t 68, .t 69], some (64, false)⟩, ⟨some 71, .mv (.t 11), some (64, false)⟩, ⟨some 72, .cmpB true (.t 70) (.t 71), some (64, false)⟩, ⟨some 73, .pick (.t 64) (.c (.bool true)) (.t 72), none⟩]) (.cond (.t 73) (.seq (.ops [⟨some 6, .mv (.c (.bool false)), none⟩]) .ret) .skip)) (.seq (.ops [⟨some 75, .mv (.t 7), none⟩, ⟨some 76, .mv (.t 1), none⟩, ⟨some 77, .call (.f 70) [.t 75, .t 76], none⟩, ⟨some 74, .mv (.t 77), none⟩, ⟨some 78, .ext (.t 74) 0, none⟩, ⟨some 79, .ext (.t 74) 1, none⟩, ⟨some 80, .ext (.t 74) 2, none⟩, ⟨some 12, .mv (.t 78), none⟩, ⟨some 13, .mv (.t 79), none⟩, ⟨some 14, .mv (.t 80), none⟩]) (.seq (.ops [⟨some 82, .mv (.t 1), none⟩, ⟨some 83, .build [.str [], .int .u8 0] [(0, (1, .t 82)), (1, (1, .c (.int .u8 1)))], none⟩, ⟨some 84, .mk (.agg [.str [], .int .u8 0]) 1 [(0, .t 83)], none⟩, ⟨some 85, .mk (.sl .nil []) 1 [(0, .t 84)], none⟩, ⟨some 86, .mv (.t 1), none⟩, ⟨some 87, .call (.f 70) [.t 85, .t 86], none⟩, ⟨some 81, .mv (.t 87), none⟩, ⟨some 88, .ext (.t 81) 0, none⟩, ⟨some 89, .ext (.t 81) 1, none⟩, ⟨some 90, .ext (.t 81) 2, none⟩, ⟨some 15, .mv (.t 88), none⟩, ⟨some 16, .mv (.t 89), none⟩, ⟨some 17, .mv (.t 90), none⟩]) (.seq (.seq (.ops [⟨some 91, .mv (.t 17), none⟩, ⟨some 92, .un .not (.t 91), none⟩]) (.cond (.t 92) (.seq (.ops [⟨some 93, .mv (.t 14), none⟩, ⟨some 94, .un .not (.t 93), none⟩, ⟨some 95, .mv (.t 94), none⟩, ⟨some 96, .mv (.t 11), some (95, true)⟩, ⟨some 97, .un .not (.t 96), some (95, true)⟩, ⟨some 98, .pick (.t 95) (.t 97) (.c (.bool false)), none⟩, ⟨some 99, .mv (.t 98), none⟩, ⟨some 100, .call (.f 67) [], some (99, true)⟩, ⟨some 101, .pick (.t 99) (.t 100) (.c (.bool false)), none⟩, ⟨some 6, .mv (.t 101), none⟩]) .ret) .skip)) (.seq (.ops [⟨some 102, .mk (.sl .nil []) 0 [], none⟩, ⟨some 103, .mv (.t 7), none⟩, ⟨some 104, .app 1 24 (.t 102) (.t 103), none⟩, ⟨some 105, .mv (.t 1), none⟩, ⟨some 106, .build [.str [], .int .u8 0] [(0, (1, .t 105)), (1, (1, .c (.int .u8 32)))], none⟩, ⟨some 107, .mk (.agg [.str [], .int .u8 0]) 1 [(0, .t 106)], none⟩, ⟨some 108, .mk (.sl .nil []) 1 [(0, .t 107)], none⟩, ⟨some 109, .app 1 24 (.t 104) (.t 108), none⟩, ⟨some 18, .mv (.t 109), none⟩]) (.seq (.ops [⟨some 110, .mk (.sl .nil []) 0 [], none⟩, ⟨some 111, .mv (.t 7), none⟩, ⟨some 112, .app 1 24 (.t 110) (.t 111), none⟩, ⟨some 113, .mv (.t 1), none⟩, ⟨some 114, .mv (.t 10), none⟩, ⟨some 115, .build [.str [], .int .u8 0] [(0, (1, .t 113)), (1, (1, .t 114))], none⟩, ⟨some 116, .mk (.agg [.str [], .int .u8 0]) 1 [(0, .t 115)], none⟩, ⟨some 117, .mk (.sl .nil []) 1 [(0, .t 116)], none⟩, ⟨some 118, .app 1 24 (.t 112) (.t 117), none⟩, ⟨some 19, .mv (.t 118), none⟩]) (.seq (.ops [⟨some 119, .mv (.t 14), none⟩, ⟨some 120, .mv (.t 119), none⟩, ⟨some 121, .mv (.t 12), some (120, true)⟩, ⟨some 122, .mv (.t 1), some (120, true)⟩, ⟨some 123, .cmp .eql (.t 121) (.t 122), some (120, true)⟩, ⟨some 124, .pick (.t 120) (.t 123) (.c (.bool false)), none⟩, ⟨some 125, .mv (.t 124), none⟩, ⟨some 126, .mv (.t 13), some (125, true)⟩, ⟨some 127, .cmp .eql (.t 126) (.c (.int .u8 32)), some (125, true)⟩, ⟨some 128, .pick (.t 125) (.t 127) (.c (.bool false)), none⟩, ⟨some 20, .mv (.t 128), none⟩]) (.seq (.ops [⟨some 129, .mv (.t 18), none⟩, ⟨some 130, .mv (.t 1), none⟩, ⟨some 131, .mv (.t 10), none⟩, ⟨some 132, .call (.f 69) [.t 129, .t 130, .t 131], none⟩, ⟨some 133, .un .not (.t 132), none⟩, ⟨some 134, .mv (.t 133), none⟩, ⟨some 135, .mv (.t 19), some (134, true)⟩, ⟨some 136, .mv (.t 1), some (134, true)⟩, ⟨some 137, .mv (.t 10), some (134, true)⟩, ⟨some 138, .call (.f 69) [.t 135, .t 136, .t 137], some (134, true)⟩, ⟨some 139, .mv (.t 20), some (134, true)⟩, ⟨some 140, .un .not (.t 139), some (134, true)⟩, ⟨some 141, .cmpB false (.t 138) (.t 140), some (134, true)⟩, ⟨some 142, .pick (.t 134) (.t 141) (.c (.bool false)), none⟩, ⟨some 143, .mv (.t 142), none⟩, ⟨some 144, .call (.f 67) [], some (143, true)⟩, ⟨some 145, .pick (.t 143) (.t 144) (.c (.bool false)), none⟩, ⟨some 6, .mv (.t 145), none⟩]) .ret)))))))))
def c_order : ACode := .seq (.ops [⟨some 6, .mv (.c (.bool false)), none⟩]) (.seq (.seq (.ops [⟨some 21, .mv (.t 0), none⟩, ⟨some 22, .call (.f 66) [.t 21], none⟩, ⟨some 23, .mv (.t 22), none⟩, ⟨some 24, .mv (.t 0), some (23, false)⟩, ⟨some 25, .len (.t 24), some (23, false)⟩, ⟨some 26, .cmp .gtr (.t 25) (.c (.int .i64 10)), some (23, false)⟩, ⟨some 27, .pick (.t 23) (.c (.bool true)) (.t 26), none⟩, ⟨some 28, .mv (.t 27), none⟩, ⟨some 29, .mv (.t 1), some (28, false)⟩, ⟨some 30, .lenS (.t 29), some (28, false)⟩, ⟨some 31, .cmp .gtr (.t 30) (.c (.int .i64 300)), some (28, false)⟩, ⟨some 32, .pick (.t 28) (.c (.bool true)) (.t 31), none⟩]) (.cond (.t 32) (.seq (.ops [⟨some 33, .call (.f 67) [], none⟩, ⟨some 6, .mv (.t 33), none⟩]) .ret) .skip)) (.seq (.ops [⟨some 34, .mv (.t 0), none⟩, ⟨some 35, .call (.f 68) [.t 34], none⟩, ⟨some 7, .mv (.t 35), none⟩]) (.seq (.ops [⟨some 36, .mk (.sl .nil []) 0 [], none⟩, ⟨some 8, .mv (.t 36), none⟩]) (.seq (.seq (.ops [⟨some 37, .mv (.t 7), none⟩, ⟨some 38, .len (.t 37), none⟩, ⟨some 39, .arith .sub (.t 38) (.c (.int .i64 1)), none⟩, ⟨some 9, .mv (.t 39), none⟩]) (.block 0 (.loop c_order_L0))) c_order_S0))))
theorem is_order (w0 : World) : fnComp (cx w0).P 10 = some (erase c_order, [.t 6], 146) := by kernel_rfl

theorem big_small {l : List (List Rule)} (h : bigA l = false) : l.length ≤ 12 ∧ ∀ q ∈ l, q.length ≤ 30 ∧ ∀ r ∈ q, r.1.length ≤ 300 := by
  simp only [bigA, Bool.or_eq_false_iff, decide_eq_false_iff_not] at h
  have h12 : l.length ≤ 12 := by omega
  rw [List.take_of_length_le h12] at h
  refine ⟨h12, fun q hq => ?_⟩
  have hb : bigR q = false := by simpa using List.any_eq_false.1 h.1 q hq
  simp only [bigR, Bool.or_eq_false_iff, decide_eq_false_iff_not] at hb
  have h30 : q.length ≤ 30 := by omega
  rw [List.take_of_length_le h30] at hb
  refine ⟨h30, fun r hr => ?_⟩
  have := List.any_eq_false.1 hb.1 r hr
  simpa using this

theorem shl_w (c : UInt8) : IntKind.u8.wrap (1 * 2 ^ (min ((c.toNat : Int).tmod 5).toNat IntKind.u8.bits)) = ((wOf c).toNat : Int) := by
  have h : c.toNat % 5 < 5 := Nat.mod_lt _ (by decide)
  have e : ((c.toNat : Int).tmod 5).toNat = c.toNat % 5 := by
    rw [Int.tmod_eq_emod_of_nonneg (Int.natCast_nonneg _)]
    omega
  rw [e]
  unfold wOf
  generalize c.toNat % 5 = k at h
  match k, h with
  | 0, _ => rfl
  | 1, _ => rfl
  | 2, _ => rfl
  | 3, _ => rfl
  | 4, _ => rfl

theorem rev_get (l : List (List Rule)) (k : Nat) (hk : k < l.length) : l.reverse.take (k + 1) = l.reverse.take k ++ [l[l.length - 1 - k]'(by omega)] := by
  rw [List.take_succ_eq_append_getElem (by simpa using hk), List.getElem_reverse]

set_option maxRecDepth 100000 in
set_option maxHeartbeats 4000000 in
theorem order_ok (w0 : World) (hM : Mx w0) (l : List (List Rule)) (hl : l.length ≤ 9223372036854775807) (hl2 : ∀ q ∈ l, q.length ≤ 9223372036854775807) (p : Bs) (hp : p.length ≤ 9223372036854775807) (c : UInt8) :
    PC w0 10 [.sl .sh (polsAV l), .str p, .int .u8 c.toNat] (.bool true) := by
  intro st
  refine ACalls.of_vc (A := c_order) (is_order w0) (by simp) ?_
  unfold c_order
  simp only [VC, VX, VV, SU, RC, VQ, VQ2, opW, ne_eq, not_false_eq_true, not_true_eq_false, Nat.le_refl, false_implies, reduceIte, Nat.reduceEqDiff, Nat.reduceAdd, Nat.reduceSub, Nat.reduceLeDiff, Nat.reduceLT, Nat.reduceMul, Nat.reduceBEq, reduceCtorEq, Int.natCast_nonneg, Int.toNat_natCast, true_implies, implies_true, List.length_cons, List.length_nil, List.drop_succ_cons, List.drop_zero, List.take_succ_cons, List.take_zero, List.map_cons, List.map_nil, List.getD_cons_zero, List.getD_cons_succ, List.all_cons, List.all_nil, Bool.and_true, Bool.and_self, decide_true, decide_false, Bool.not_true, Bool.not_false, Bool.true_or, Bool.false_or, Bool.or_true, Bool.or_false, Bool.true_and, Bool.false_and, Bool.and_false, bytesAV_length, beq_self_eq_true, and_self, List.append_assoc, List.cons_append, List.nil_append]
  refine (big_ok w0 l hl hl2 st).mono ?_
  rintro r st1 ⟨rfl, hle1⟩
  cases hb : bigA l with
  | true =>
    simp only [VC, VX, VV, SU, RC, VQ, VQ2, opW, ne_eq, not_false_eq_true, not_true_eq_false, Nat.le_refl, false_implies, reduceIte, Nat.reduceEqDiff, Nat.reduceAdd, Nat.reduceSub, Nat.reduceLeDiff, Nat.reduceLT, Nat.reduceMul, Nat.reduceBEq, reduceCtorEq, Int.natCast_nonneg, Int.toNat_natCast, true_implies, implies_true, List.length_cons, List.length_nil, List.drop_succ_cons, List.drop_zero, List.take_succ_cons, List.take_zero, List.map_cons, List.map_nil, List.getD_cons_zero, List.getD_cons_succ, List.all_cons, List.all_nil, Bool.and_true, Bool.and_self, decide_true, decide_false, Bool.not_true, Bool.not_false, Bool.true_or, Bool.false_or, Bool.or_true, Bool.or_false, Bool.true_and, Bool.false_and, Bool.and_false, bytesAV_length, beq_self_eq_true, and_self, List.append_assoc, List.cons_append, List.nil_append]
    refine (sure_ok w0 hM st1).mono ?_
    rintro r st2 ⟨rfl, hle2⟩
    simp only [VC, VX, VV, SU, RC, VQ, VQ2, opW, ne_eq, not_false_eq_true, not_true_eq_false, Nat.le_refl, false_implies, reduceIte, Nat.reduceEqDiff, Nat.reduceAdd, Nat.reduceSub, Nat.reduceLeDiff, Nat.reduceLT, Nat.reduceMul, Nat.reduceBEq, reduceCtorEq, Int.natCast_nonneg, Int.toNat_natCast, true_implies, implies_true, List.length_cons, List.length_nil, List.drop_succ_cons, List.drop_zero, List.take_succ_cons, List.take_zero, List.map_cons, List.map_nil, List.getD_cons_zero, List.getD_cons_succ, List.all_cons, List.all_nil, Bool.and_true, Bool.and_self, decide_true, decide_false, Bool.not_true, Bool.not_false, Bool.true_or, Bool.false_or, Bool.or_true, Bool.or_false, Bool.true_and, Bool.false_and, Bool.and_false, bytesAV_length, beq_self_eq_true, and_self, List.append_assoc, List.cons_append, List.nil_append]
    first | exact St.le_trans hle1 hle2 | exact ⟨rfl, St.le_trans hle1 hle2⟩ | exact ⟨by simp, St.le_trans hle1 hle2⟩
  | false =>
    by_cases h10 : (l.length : Int) > 10
    · simp only [VC, VX, VV, SU, RC, VQ, VQ2, opW, ne_eq, not_false_eq_true, not_true_eq_false, Nat.le_refl, false_implies, reduceIte, Nat.reduceEqDiff, Nat.reduceAdd, Nat.reduceSub, Nat.reduceLeDiff, Nat.reduceLT, Nat.reduceMul, Nat.reduceBEq, reduceCtorEq, Int.natCast_nonneg, Int.toNat_natCast, true_implies, implies_true, List.length_cons, List.length_nil, List.drop_succ_cons, List.drop_zero, List.take_succ_cons, List.take_zero, List.map_cons, List.map_nil, List.getD_cons_zero, List.getD_cons_succ, List.all_cons, List.all_nil, Bool.and_true, Bool.and_self, decide_true, decide_false, Bool.not_true, Bool.not_false, Bool.true_or, Bool.false_or, Bool.or_true, Bool.or_false, Bool.true_and, Bool.false_and, Bool.and_false, bytesAV_length, beq_self_eq_true, and_self, List.append_assoc, List.cons_append, List.nil_append, polsAV_length, h10]
      refine (sure_ok w0 hM st1).mono ?_
      rintro r st2 ⟨rfl, hle2⟩
      simp only [VC, VX, VV, SU, RC, VQ, VQ2, opW, ne_eq, not_false_eq_true, not_true_eq_false, Nat.le_refl, false_implies, reduceIte, Nat.reduceEqDiff, Nat.reduceAdd, Nat.reduceSub, Nat.reduceLeDiff, Nat.reduceLT, Nat.reduceMul, Nat.reduceBEq, reduceCtorEq, Int.natCast_nonneg, Int.toNat_natCast, true_implies, implies_true, List.length_cons, List.length_nil, List.drop_succ_cons, List.drop_zero, List.take_succ_cons, List.take_zero, List.map_cons, List.map_nil, List.getD_cons_zero, List.getD_cons_succ, List.all_cons, List.all_nil, Bool.and_true, Bool.and_self, decide_true, decide_false, Bool.not_true, Bool.not_false, Bool.true_or, Bool.false_or, Bool.or_true, Bool.or_false, Bool.true_and, Bool.false_and, Bool.and_false, bytesAV_length, beq_self_eq_true, and_self, List.append_assoc, List.cons_append, List.nil_append]
      first | exact St.le_trans hle1 hle2 | exact ⟨rfl, St.le_trans hle1 hle2⟩ | exact ⟨by simp, St.le_trans hle1 hle2⟩
    · by_cases h300 : (p.length : Int) > 300
      · simp only [VC, VX, VV, SU, RC, VQ, VQ2, opW, ne_eq, not_false_eq_true, not_true_eq_false, Nat.le_refl, false_implies, reduceIte, Nat.reduceEqDiff, Nat.reduceAdd, Nat.reduceSub, Nat.reduceLeDiff, Nat.reduceLT, Nat.reduceMul, Nat.reduceBEq, reduceCtorEq, Int.natCast_nonneg, Int.toNat_natCast, true_implies, implies_true, List.length_cons, List.length_nil, List.drop_succ_cons, List.drop_zero, List.take_succ_cons, List.take_zero, List.map_cons, List.map_nil, List.getD_cons_zero, List.getD_cons_succ, List.all_cons, List.all_nil, Bool.and_true, Bool.and_self, decide_true, decide_false, Bool.not_true, Bool.not_false, Bool.true_or, Bool.false_or, Bool.or_true, Bool.or_false, Bool.true_and, Bool.false_and, Bool.and_false, bytesAV_length, beq_self_eq_true, and_self, List.append_assoc, List.cons_append, List.nil_append, polsAV_length, h10, h300]
        refine (sure_ok w0 hM st1).mono ?_
        rintro r st2 ⟨rfl, hle2⟩
        simp only [VC, VX, VV, SU, RC, VQ, VQ2, opW, ne_eq, not_false_eq_true, not_true_eq_false, Nat.le_refl, false_implies, reduceIte, Nat.reduceEqDiff, Nat.reduceAdd, Nat.reduceSub, Nat.reduceLeDiff, Nat.reduceLT, Nat.reduceMul, Nat.reduceBEq, reduceCtorEq, Int.natCast_nonneg, Int.toNat_natCast, true_implies, implies_true, List.length_cons, List.length_nil, List.drop_succ_cons, List.drop_zero, List.take_succ_cons, List.take_zero, List.map_cons, List.map_nil, List.getD_cons_zero, List.getD_cons_succ, List.all_cons, List.all_nil, Bool.and_true, Bool.and_self, decide_true, decide_false, Bool.not_true, Bool.not_false, Bool.true_or, Bool.false_or, Bool.or_true, Bool.or_false, Bool.true_and, Bool.false_and, Bool.and_false, bytesAV_length, beq_self_eq_true, and_self, List.append_assoc, List.cons_append, List.nil_append]
        first | exact St.le_trans hle1 hle2 | exact ⟨rfl, St.le_trans hle1 hle2⟩ | exact ⟨by simp, St.le_trans hle1 hle2⟩
      · obtain ⟨hb1, hb2⟩ := big_small hb
        have hs : ∀ m : List (List Rule), m.length ≤ 100 → (∀ q ∈ m, q ∈ l ∨ ∃ w, q = [(p, w)]) → Small m := by
          intro m hm hq
          refine ⟨hm, fun q hqm => ?_⟩
          rcases hq q hqm with h | ⟨w, rfl⟩
          · exact ⟨by have := (hb2 q h).1; omega, fun r hr => by have := (hb2 q h).2 r hr; omega⟩
          · exact ⟨by simp, fun r hr => by simp at hr; subst hr; simp; omega⟩
        have hp' : p.length < 4294967281 := by omega
        have hsl : Small l := hs l (by omega) fun q hq => .inl hq
        simp only [VC, VX, VV, SU, RC, VQ, VQ2, opW, ne_eq, not_false_eq_true, not_true_eq_false, Nat.le_refl, false_implies, reduceIte, Nat.reduceEqDiff, Nat.reduceAdd, Nat.reduceSub, Nat.reduceLeDiff, Nat.reduceLT, Nat.reduceMul, Nat.reduceBEq, reduceCtorEq, Int.natCast_nonneg, Int.toNat_natCast, true_implies, implies_true, List.length_cons, List.length_nil, List.drop_succ_cons, List.drop_zero, List.take_succ_cons, List.take_zero, List.map_cons, List.map_nil, List.getD_cons_zero, List.getD_cons_succ, List.all_cons, List.all_nil, Bool.and_true, Bool.and_self, decide_true, decide_false, Bool.not_true, Bool.not_false, Bool.true_or, Bool.false_or, Bool.or_true, Bool.or_false, Bool.true_and, Bool.false_and, Bool.and_false, bytesAV_length, beq_self_eq_true, and_self, List.append_assoc, List.cons_append, List.nil_append, polsAV_length, h10, h300]
        refine (giveAll_ok w0 l ⟨by omega, fun q hq => by have := (hb2 q hq).1; omega⟩ st1).mono ?_
        rintro r st2 ⟨⟨tkx, rfl⟩, hle2⟩
        have hle2 := St.le_trans hle1 hle2
        have hwl : IntKind.i64.wrap ((l.length : Int) - 1) = (l.length : Int) - 1 := wrap_id (by omega) (by omega)
        simp only [VC, VX, VV, SU, RC, VQ, VQ2, opW, ne_eq, not_false_eq_true, not_true_eq_false, Nat.le_refl, false_implies, reduceIte, Nat.reduceEqDiff, Nat.reduceAdd, Nat.reduceSub, Nat.reduceLeDiff, Nat.reduceLT, Nat.reduceMul, Nat.reduceBEq, reduceCtorEq, Int.natCast_nonneg, Int.toNat_natCast, true_implies, implies_true, List.length_cons, List.length_nil, List.drop_succ_cons, List.drop_zero, List.take_succ_cons, List.take_zero, List.map_cons, List.map_nil, List.getD_cons_zero, List.getD_cons_succ, List.all_cons, List.all_nil, Bool.and_true, Bool.and_self, decide_true, decide_false, Bool.not_true, Bool.not_false, Bool.true_or, Bool.false_or, Bool.or_true, Bool.or_false, Bool.true_and, Bool.false_and, Bool.and_false, bytesAV_length, beq_self_eq_true, and_self, List.append_assoc, List.cons_append, List.nil_append, polsAV_length, hwl]
        intro t ht
        have hacc0 := Acc.tip (S := 1) hle2 ht
        refine VLoop.up l.length (fun k e st' => e.get 1 = .str p ∧ e.get 2 = .int .u8 c.toNat ∧ e.get 7 = .sl tkx (polsAV l) ∧ e.get 9 = .int .i64 ((l.length : Int) - 1 - k) ∧ k ≤ l.length ∧ ∃ tk, e.get 8 = .sl tk (polsAV (l.reverse.take k)) ∧ Acc 1 st tk st') ?_ ?_
        · simp only [VC, VX, VV, SU, RC, VQ, VQ2, opW, ne_eq, not_false_eq_true, not_true_eq_false, Nat.le_refl, false_implies, reduceIte, Nat.reduceEqDiff, Nat.reduceAdd, Nat.reduceSub, Nat.reduceLeDiff, Nat.reduceLT, Nat.reduceMul, Nat.reduceBEq, reduceCtorEq, Int.natCast_nonneg, Int.toNat_natCast, true_implies, implies_true, List.length_cons, List.length_nil, List.drop_succ_cons, List.drop_zero, List.take_succ_cons, List.take_zero, List.map_cons, List.map_nil, List.getD_cons_zero, List.getD_cons_succ, List.all_cons, List.all_nil, Bool.and_true, Bool.and_self, decide_true, decide_false, Bool.not_true, Bool.not_false, Bool.true_or, Bool.false_or, Bool.or_true, Bool.or_false, Bool.true_and, Bool.false_and, Bool.and_false, bytesAV_length, beq_self_eq_true, and_self, List.append_assoc, List.cons_append, List.nil_append]
          exact ⟨by simp, Nat.zero_le _, .tip t 1, rfl, hacc0⟩
        · rintro k e st' ⟨h1, h2, h7, h9, hk, tk, h8, hacc⟩
          unfold c_order_L0
          by_cases hge : (l.length : Int) - 1 - k ≥ 0
          · have hlt : k < l.length := by omega
            have hi : ((l.length : Int) - 1 - k).toNat = l.length - 1 - k := by omega
            have hlt2 : (l.length : Int) - 1 - k < l.length := by omega
            have hg : (polsAV l).getD (l.length - 1 - k) .undef = .sl .sh (rulesAV (l[l.length - 1 - k]'(by omega))) := by
              have : l.length - 1 - k < l.length := by omega
              simp [polsAV, List.getD_eq_getElem?_getD, this]
            have hw2 : IntKind.i64.wrap ((l.length : Int) - 1 - k - 1) = (l.length : Int) - 1 - (k + 1 : Nat) := by rw [wrap_id (by omega) (by omega)]; omega
            have hge2 : 0 ≤ (l.length : Int) - 1 - k := hge
            have hlr : (l.reverse.take k).length = k := by simp; omega
            simp only [VC, VX, VV, SU, RC, VQ, VQ2, opW, ne_eq, not_false_eq_true, not_true_eq_false, Nat.le_refl, false_implies, reduceIte, Nat.reduceEqDiff, Nat.reduceAdd, Nat.reduceSub, Nat.reduceLeDiff, Nat.reduceLT, Nat.reduceMul, Nat.reduceBEq, reduceCtorEq, Int.natCast_nonneg, Int.toNat_natCast, true_implies, implies_true, List.length_cons, List.length_nil, List.drop_succ_cons, List.drop_zero, List.take_succ_cons, List.take_zero, List.map_cons, List.map_nil, List.getD_cons_zero, List.getD_cons_succ, List.all_cons, List.all_nil, Bool.and_true, Bool.and_self, decide_true, decide_false, Bool.not_true, Bool.not_false, Bool.true_or, Bool.false_or, Bool.or_true, Bool.or_false, Bool.true_and, Bool.false_and, Bool.and_false, bytesAV_length, beq_self_eq_true, and_self, List.append_assoc, List.cons_append, List.nil_append, h1, h2, h7, h8, h9, hge, hge2, hi, hlt2, hg, polsAV_length, polsAV_csize, hw2, hlr]
            intro t2 ht2
            have hacc := hacc.new .tok ht2
            refine ⟨hacc.1, ⟨by omega, by unfold maxLen; omega⟩, fun tk' st4 a1 a2 a3 => ⟨hlt, by omega, tk', ?_, hacc.app a1 a2 a3⟩⟩
            rw [rev_get l k hlt]
            simp only [polsAV, List.map_append, List.map_cons, List.map_nil]
          · have hk' : k = l.length := by omega
            subst hk'
            have hrev : l.reverse.take l.length = l.reverse := List.take_of_length_le (by simp)
            rw [hrev] at h8
            have hmrev : ∀ q, q ∈ l.reverse ↔ q ∈ l := fun q => List.mem_reverse
            have hsr : Small l.reverse := hs _ (by simp; omega) fun q hq => .inl ((hmrev q).1 hq)
            have hw := wOf_W c
            have hsh := shl_w c
            have h0 : (0 : Int) ≤ ((c.toNat : Int).tmod 5) := by
              rw [Int.tmod_eq_emod_of_nonneg (Int.natCast_nonneg _)]; omega
            have hle := hacc.2.1
            have ha1 : allowsP l.reverse p (wOf c) = allowsP l p (wOf c) := allowsP_same hmrev p _
            have ha2 : allowsP (l.reverse ++ l) p (wOf c) = allowsP l p (wOf c) := allowsP_same (fun q => by simp) p _
            have hs2 : Small (l.reverse ++ l) := hs _ (by simp; omega) fun q hq => .inl (by simpa using hq)
            have hlr : l.reverse.length = l.length := by simp
            simp only [VC, VX, VV, SU, RC, VQ, VQ2, opW, ne_eq, not_false_eq_true, not_true_eq_false, Nat.le_refl, false_implies, reduceIte, Nat.reduceEqDiff, Nat.reduceAdd, Nat.reduceSub, Nat.reduceLeDiff, Nat.reduceLT, Nat.reduceMul, Nat.reduceBEq, reduceCtorEq, Int.natCast_nonneg, Int.toNat_natCast, true_implies, implies_true, List.length_cons, List.length_nil, List.drop_succ_cons, List.drop_zero, List.take_succ_cons, List.take_zero, List.map_cons, List.map_nil, List.getD_cons_zero, List.getD_cons_succ, List.all_cons, List.all_nil, Bool.and_true, Bool.and_self, decide_true, decide_false, Bool.not_true, Bool.not_false, Bool.true_or, Bool.false_or, Bool.or_true, Bool.or_false, Bool.true_and, Bool.false_and, Bool.and_false, bytesAV_length, beq_self_eq_true, and_self, List.append_assoc, List.cons_append, List.nil_append, h1, h2, h7, h8, h9, hge]
            unfold c_order_S0
            simp only [VC, VX, VV, SU, RC, VQ, VQ2, opW, ne_eq, not_false_eq_true, not_true_eq_false, Nat.le_refl, false_implies, reduceIte, Nat.reduceEqDiff, Nat.reduceAdd, Nat.reduceSub, Nat.reduceLeDiff, Nat.reduceLT, Nat.reduceMul, Nat.reduceBEq, reduceCtorEq, Int.natCast_nonneg, Int.toNat_natCast, true_implies, implies_true, List.length_cons, List.length_nil, List.drop_succ_cons, List.drop_zero, List.take_succ_cons, List.take_zero, List.map_cons, List.map_nil, List.getD_cons_zero, List.getD_cons_succ, List.all_cons, List.all_nil, Bool.and_true, Bool.and_self, decide_true, decide_false, Bool.not_true, Bool.not_false, Bool.true_or, Bool.false_or, Bool.or_true, Bool.or_false, Bool.true_and, Bool.false_and, Bool.and_false, bytesAV_length, beq_self_eq_true, and_self, List.append_assoc, List.cons_append, List.nil_append, h1, h2, h7, h8, hsh, h0]
            refine ⟨by decide, ?_⟩
            refine (allows_ok w0 hM tkx l hsl p hp' (wOf c) st').mono ?_
            rintro r st3 ⟨rfl, hle3⟩
            simp only [VC, VX, VV, SU, RC, VQ, VQ2, opW, ne_eq, not_false_eq_true, not_true_eq_false, Nat.le_refl, false_implies, reduceIte, Nat.reduceEqDiff, Nat.reduceAdd, Nat.reduceSub, Nat.reduceLeDiff, Nat.reduceLT, Nat.reduceMul, Nat.reduceBEq, reduceCtorEq, Int.natCast_nonneg, Int.toNat_natCast, true_implies, implies_true, List.length_cons, List.length_nil, List.drop_succ_cons, List.drop_zero, List.take_succ_cons, List.take_zero, List.map_cons, List.map_nil, List.getD_cons_zero, List.getD_cons_succ, List.all_cons, List.all_nil, Bool.and_true, Bool.and_self, decide_true, decide_false, Bool.not_true, Bool.not_false, Bool.true_or, Bool.false_or, Bool.or_true, Bool.or_false, Bool.true_and, Bool.false_and, Bool.and_false, bytesAV_length, beq_self_eq_true, and_self, List.append_assoc, List.cons_append, List.nil_append, h1, h2, h7, h8]
            refine (allows_ok w0 hM tk _ hsr p hp' (wOf c) st3).mono ?_
            rintro r st4 ⟨rfl, hle4⟩
            rw [ha1]
            have hacc := hacc.le (St.le_trans hle3 hle4)
            simp only [VC, VX, VV, SU, RC, VQ, VQ2, opW, ne_eq, not_false_eq_true, not_true_eq_false, Nat.le_refl, false_implies, reduceIte, Nat.reduceEqDiff, Nat.reduceAdd, Nat.reduceSub, Nat.reduceLeDiff, Nat.reduceLT, Nat.reduceMul, Nat.reduceBEq, reduceCtorEq, Int.natCast_nonneg, Int.toNat_natCast, true_implies, implies_true, List.length_cons, List.length_nil, List.drop_succ_cons, List.drop_zero, List.take_succ_cons, List.take_zero, List.map_cons, List.map_nil, List.getD_cons_zero, List.getD_cons_succ, List.all_cons, List.all_nil, Bool.and_true, Bool.and_self, decide_true, decide_false, Bool.not_true, Bool.not_false, Bool.true_or, Bool.false_or, Bool.or_true, Bool.or_false, Bool.true_and, Bool.false_and, Bool.and_false, bytesAV_length, beq_self_eq_true, and_self, List.append_assoc, List.cons_append, List.nil_append, h1, h2, h7, h8, polsAV_length, polsAV_csize, hlr]
            refine ⟨hacc.1, ⟨by omega, by unfold maxLen; omega⟩, fun tk' st5 a1 a2 a3 => ?_⟩
            have hacc := hacc.app a1 a2 a3
            have hpa : polsAV l.reverse ++ List.map AV.sh (polsAV l) = polsAV (l.reverse ++ l) := by
              simp only [polsAV, List.map_append, List.map_map]
              rfl
            rw [hpa]
            refine (allows_ok w0 hM tk' _ hs2 p hp' (wOf c) st5).mono ?_
            rintro r st6 ⟨rfl, hle6⟩
            rw [ha2]
            have hle6 := St.le_trans hacc.2.1 hle6
            simp only [VC, VX, VV, SU, RC, VQ, VQ2, opW, ne_eq, not_false_eq_true, not_true_eq_false, Nat.le_refl, false_implies, reduceIte, Nat.reduceEqDiff, Nat.reduceAdd, Nat.reduceSub, Nat.reduceLeDiff, Nat.reduceLT, Nat.reduceMul, Nat.reduceBEq, reduceCtorEq, Int.natCast_nonneg, Int.toNat_natCast, true_implies, implies_true, List.length_cons, List.length_nil, List.drop_succ_cons, List.drop_zero, List.take_succ_cons, List.take_zero, List.map_cons, List.map_nil, List.getD_cons_zero, List.getD_cons_succ, List.all_cons, List.all_nil, Bool.and_true, Bool.and_self, decide_true, decide_false, Bool.not_true, Bool.not_false, Bool.true_or, Bool.false_or, Bool.or_true, Bool.or_false, Bool.true_and, Bool.false_and, Bool.and_false, bytesAV_length, beq_self_eq_true, and_self, List.append_assoc, List.cons_append, List.nil_append, h1, h2, h7, h8]
            refine (says_ok w0 hM tkx l hsl p hp' st6).mono ?_
            rintro r st7 ⟨rfl, hle7⟩
            have hle7 := St.le_trans hle6 hle7
            simp only [VC, VX, VV, SU, RC, VQ, VQ2, opW, ne_eq, not_false_eq_true, not_true_eq_false, Nat.le_refl, false_implies, reduceIte, Nat.reduceEqDiff, Nat.reduceAdd, Nat.reduceSub, Nat.reduceLeDiff, Nat.reduceLT, Nat.reduceMul, Nat.reduceBEq, reduceCtorEq, Int.natCast_nonneg, Int.toNat_natCast, true_implies, implies_true, List.length_cons, List.length_nil, List.drop_succ_cons, List.drop_zero, List.take_succ_cons, List.take_zero, List.map_cons, List.map_nil, List.getD_cons_zero, List.getD_cons_succ, List.all_cons, List.all_nil, Bool.and_true, Bool.and_self, decide_true, decide_false, Bool.not_true, Bool.not_false, Bool.true_or, Bool.false_or, Bool.or_true, Bool.or_false, Bool.true_and, Bool.false_and, Bool.and_false, bytesAV_length, beq_self_eq_true, and_self, List.append_assoc, List.cons_append, List.nil_append, h1, h2, h7, h8]
            intro t3 ht3 t4 ht4
            have hle8 := St.le_new .tok (St.le_new .tok hle7 ht3) (St.new (s := st7) (id := t3) (t := t4) (r := .tok) ht4 |>.2 |> fun _ => ht4)
            refine ACalls.mono (says_ok w0 hM (.tip t4 1) [[(p, 1)]] (hs _ (by simp) fun q hq => .inr ⟨1, by simpa using hq⟩) p hp' _) ?_
            rintro r st8 ⟨rfl, hle9⟩
            have hle9 := St.le_trans hle8 hle9
            cases hone : (saysP [[(p, 1)]] p).is with
            | false =>
              obtain ⟨n1, n2⟩ := ao_none (l := l) hone (wOf c)
              simp only [VC, VX, VV, SU, RC, VQ, VQ2, opW, ne_eq, not_false_eq_true, not_true_eq_false, Nat.le_refl, false_implies, reduceIte, Nat.reduceEqDiff, Nat.reduceAdd, Nat.reduceSub, Nat.reduceLeDiff, Nat.reduceLT, Nat.reduceMul, Nat.reduceBEq, reduceCtorEq, Int.natCast_nonneg, Int.toNat_natCast, true_implies, implies_true, List.length_cons, List.length_nil, List.drop_succ_cons, List.drop_zero, List.take_succ_cons, List.take_zero, List.map_cons, List.map_nil, List.getD_cons_zero, List.getD_cons_succ, List.all_cons, List.all_nil, Bool.and_true, Bool.and_self, decide_true, decide_false, Bool.not_true, Bool.not_false, Bool.true_or, Bool.false_or, Bool.or_true, Bool.or_false, Bool.true_and, Bool.false_and, Bool.and_false, bytesAV_length, beq_self_eq_true, and_self, List.append_assoc, List.cons_append, List.nil_append, h1, h2, h7, h8, n1, n2]
              refine (sure_ok w0 hM st8).mono ?_
              rintro r st9 ⟨rfl, hle10⟩
              simp only [VC, VX, VV, SU, RC, VQ, VQ2, opW, ne_eq, not_false_eq_true, not_true_eq_false, Nat.le_refl, false_implies, reduceIte, Nat.reduceEqDiff, Nat.reduceAdd, Nat.reduceSub, Nat.reduceLeDiff, Nat.reduceLT, Nat.reduceMul, Nat.reduceBEq, reduceCtorEq, Int.natCast_nonneg, Int.toNat_natCast, true_implies, implies_true, List.length_cons, List.length_nil, List.drop_succ_cons, List.drop_zero, List.take_succ_cons, List.take_zero, List.map_cons, List.map_nil, List.getD_cons_zero, List.getD_cons_succ, List.all_cons, List.all_nil, Bool.and_true, Bool.and_self, decide_true, decide_false, Bool.not_true, Bool.not_false, Bool.true_or, Bool.false_or, Bool.or_true, Bool.or_false, Bool.true_and, Bool.false_and, Bool.and_false, bytesAV_length, beq_self_eq_true, and_self, List.append_assoc, List.cons_append, List.nil_append]
              first | exact St.le_trans hle9 hle10 | exact ⟨rfl, St.le_trans hle9 hle10⟩ | exact ⟨by simp, St.le_trans hle9 hle10⟩
            | true =>
              obtain ⟨names, hn⟩ : ∃ names, splitP p = some names := is_path hone
              have hd := ao_deny (l := l) hn hw
              have hal := ao_allow (l := l) hn hw
              have hmap : List.map AV.sh (polsAV l) = polsAV l := by
                simp only [polsAV, List.map_map]
                rfl
              simp only [VC, VX, VV, SU, RC, VQ, VQ2, opW, ne_eq, not_false_eq_true, not_true_eq_false, Nat.le_refl, false_implies, reduceIte, Nat.reduceEqDiff, Nat.reduceAdd, Nat.reduceSub, Nat.reduceLeDiff, Nat.reduceLT, Nat.reduceMul, Nat.reduceBEq, reduceCtorEq, Int.natCast_nonneg, Int.toNat_natCast, true_implies, implies_true, List.length_cons, List.length_nil, List.drop_succ_cons, List.drop_zero, List.take_succ_cons, List.take_zero, List.map_cons, List.map_nil, List.getD_cons_zero, List.getD_cons_succ, List.all_cons, List.all_nil, Bool.and_true, Bool.and_self, decide_true, decide_false, Bool.not_true, Bool.not_false, Bool.true_or, Bool.false_or, Bool.or_true, Bool.or_false, Bool.true_and, Bool.false_and, Bool.and_false, bytesAV_length, beq_self_eq_true, and_self, List.append_assoc, List.cons_append, List.nil_append, h1, h2, h7, h8, hmap, polsAV_csize, polsAV_length]
              intro t5 ht5
              have hA := Acc.tip (S := 1) hle9 ht5
              refine ⟨hA.1, ⟨by omega, by unfold maxLen; omega⟩, fun tk1 s1 a1 a2 a3 t6 ht6 t7 ht7 => ?_⟩
              have hA1 := ((hA.app a1 a2 a3).new .tok ht6).new .tok ht7
              refine ⟨hA1.1, ⟨by omega, by unfold maxLen; omega⟩, fun tk2 s2 b1 b2 b3 t8 ht8 => ?_⟩
              have hA2 := hA1.app b1 b2 b3
              have hB := Acc.tip (S := 1) hA2.2.1 ht8
              refine ⟨hB.1, ⟨by omega, by unfold maxLen; omega⟩, fun tk3 s3 c1 c2 c3 t9 ht9 t10 ht10 => ?_⟩
              have hB1 := ((hB.app c1 c2 c3).new .tok ht9).new .tok ht10
              refine ⟨hB1.1, ⟨by omega, by unfold maxLen; omega⟩, fun tk4 s4 d1 d2 d3 => ?_⟩
              have hB2 := hB1.app d1 d2 d3
              have hle10 := hB2.2.1
              have hpd : polsAV l ++ [AV.sl .sh [AV.agg [.str p, .int .u8 32]]] = polsAV (l ++ [[(p, 32)]]) := by
                simp only [polsAV, List.map_append]; rfl
              have hpw : polsAV l ++ [AV.sl .sh [AV.agg [.str p, .int .u8 (wOf c).toNat]]] = polsAV (l ++ [[(p, wOf c)]]) := by
                simp only [polsAV, List.map_append]; rfl
              have hsd : Small (l ++ [[(p, 32)]]) := hs _ (by simp; omega) fun q hq => by
                rcases List.mem_append.1 hq with h | h
                · exact .inl h
                · exact .inr ⟨32, by simpa using h⟩
              have hsw : Small (l ++ [[(p, wOf c)]]) := hs _ (by simp; omega) fun q hq => by
                rcases List.mem_append.1 hq with h | h
                · exact .inl h
                · exact .inr ⟨wOf c, by simpa using h⟩
              rw [hpd, hpw]
              have hcq : (((saysP l p).caps.toNat : Int) == 32) = ((saysP l p).caps == 32) := u8beq _ 32
              cases hi : (saysP l p).is with
              | false =>
                rw [hi] at hal
                simp only [VC, VX, VV, SU, RC, VQ, VQ2, opW, ne_eq, not_false_eq_true, not_true_eq_false, Nat.le_refl, false_implies, reduceIte, Nat.reduceEqDiff, Nat.reduceAdd, Nat.reduceSub, Nat.reduceLeDiff, Nat.reduceLT, Nat.reduceMul, Nat.reduceBEq, reduceCtorEq, Int.natCast_nonneg, Int.toNat_natCast, true_implies, implies_true, List.length_cons, List.length_nil, List.drop_succ_cons, List.drop_zero, List.take_succ_cons, List.take_zero, List.map_cons, List.map_nil, List.getD_cons_zero, List.getD_cons_succ, List.all_cons, List.all_nil, Bool.and_true, Bool.and_self, decide_true, decide_false, Bool.not_true, Bool.not_false, Bool.true_or, Bool.false_or, Bool.or_true, Bool.or_false, Bool.true_and, Bool.false_and, Bool.and_false, bytesAV_length, beq_self_eq_true, and_self, List.append_assoc, List.cons_append, List.nil_append, h1, h2, h7, h8]
                refine (allows_ok w0 hM tk2 _ hsd p hp' (wOf c) s4).mono ?_
                rintro r s5 ⟨rfl, hle11⟩
                rw [hd]
                have hle11 := St.le_trans hle10 hle11
                simp only [VC, VX, VV, SU, RC, VQ, VQ2, opW, ne_eq, not_false_eq_true, not_true_eq_false, Nat.le_refl, false_implies, reduceIte, Nat.reduceEqDiff, Nat.reduceAdd, Nat.reduceSub, Nat.reduceLeDiff, Nat.reduceLT, Nat.reduceMul, Nat.reduceBEq, reduceCtorEq, Int.natCast_nonneg, Int.toNat_natCast, true_implies, implies_true, List.length_cons, List.length_nil, List.drop_succ_cons, List.drop_zero, List.take_succ_cons, List.take_zero, List.map_cons, List.map_nil, List.getD_cons_zero, List.getD_cons_succ, List.all_cons, List.all_nil, Bool.and_true, Bool.and_self, decide_true, decide_false, Bool.not_true, Bool.not_false, Bool.true_or, Bool.false_or, Bool.or_true, Bool.or_false, Bool.true_and, Bool.false_and, Bool.and_false, bytesAV_length, beq_self_eq_true, and_self, List.append_assoc, List.cons_append, List.nil_append, h1, h2, h7, h8]
                refine (allows_ok w0 hM tk4 _ hsw p hp' (wOf c) s5).mono ?_
                rintro r s6 ⟨rfl, hle12⟩
                rw [hal]
                have hle12 := St.le_trans hle11 hle12
                simp only [VC, VX, VV, SU, RC, VQ, VQ2, opW, ne_eq, not_false_eq_true, not_true_eq_false, Nat.le_refl, false_implies, reduceIte, Nat.reduceEqDiff, Nat.reduceAdd, Nat.reduceSub, Nat.reduceLeDiff, Nat.reduceLT, Nat.reduceMul, Nat.reduceBEq, reduceCtorEq, Int.natCast_nonneg, Int.toNat_natCast, true_implies, implies_true, List.length_cons, List.length_nil, List.drop_succ_cons, List.drop_zero, List.take_succ_cons, List.take_zero, List.map_cons, List.map_nil, List.getD_cons_zero, List.getD_cons_succ, List.all_cons, List.all_nil, Bool.and_true, Bool.and_self, decide_true, decide_false, Bool.not_true, Bool.not_false, Bool.true_or, Bool.false_or, Bool.or_true, Bool.or_false, Bool.true_and, Bool.false_and, Bool.and_false, bytesAV_length, beq_self_eq_true, and_self, List.append_assoc, List.cons_append, List.nil_append, h1, h2, h7, h8, hi]
                refine (sure_ok w0 hM s6).mono ?_
                rintro r s7 ⟨rfl, hle13⟩
                simp only [VC, VX, VV, SU, RC, VQ, VQ2, opW, ne_eq, not_false_eq_true, not_true_eq_false, Nat.le_refl, false_implies, reduceIte, Nat.reduceEqDiff, Nat.reduceAdd, Nat.reduceSub, Nat.reduceLeDiff, Nat.reduceLT, Nat.reduceMul, Nat.reduceBEq, reduceCtorEq, Int.natCast_nonneg, Int.toNat_natCast, true_implies, implies_true, List.length_cons, List.length_nil, List.drop_succ_cons, List.drop_zero, List.take_succ_cons, List.take_zero, List.map_cons, List.map_nil, List.getD_cons_zero, List.getD_cons_succ, List.all_cons, List.all_nil, Bool.and_true, Bool.and_self, decide_true, decide_false, Bool.not_true, Bool.not_false, Bool.true_or, Bool.false_or, Bool.or_true, Bool.or_false, Bool.true_and, Bool.false_and, Bool.and_false, bytesAV_length, beq_self_eq_true, and_self, List.append_assoc, List.cons_append, List.nil_append]
                first | exact St.le_trans hle12 hle13 | exact ⟨rfl, St.le_trans hle12 hle13⟩ | exact ⟨by simp, St.le_trans hle12 hle13⟩
              | true =>
                rw [hi] at hal
                cases hbp : ((saysP l p).best == p) with
                | false =>
                  rw [hbp] at hal
                  simp only [VC, VX, VV, SU, RC, VQ, VQ2, opW, ne_eq, not_false_eq_true, not_true_eq_false, Nat.le_refl, false_implies, reduceIte, Nat.reduceEqDiff, Nat.reduceAdd, Nat.reduceSub, Nat.reduceLeDiff, Nat.reduceLT, Nat.reduceMul, Nat.reduceBEq, reduceCtorEq, Int.natCast_nonneg, Int.toNat_natCast, true_implies, implies_true, List.length_cons, List.length_nil, List.drop_succ_cons, List.drop_zero, List.take_succ_cons, List.take_zero, List.map_cons, List.map_nil, List.getD_cons_zero, List.getD_cons_succ, List.all_cons, List.all_nil, Bool.and_true, Bool.and_self, decide_true, decide_false, Bool.not_true, Bool.not_false, Bool.true_or, Bool.false_or, Bool.or_true, Bool.or_false, Bool.true_and, Bool.false_and, Bool.and_false, bytesAV_length, beq_self_eq_true, and_self, List.append_assoc, List.cons_append, List.nil_append, h1, h2, h7, h8, hbp]
                  refine (allows_ok w0 hM tk2 _ hsd p hp' (wOf c) s4).mono ?_
                  rintro r s5 ⟨rfl, hle11⟩
                  rw [hd]
                  have hle11 := St.le_trans hle10 hle11
                  simp only [VC, VX, VV, SU, RC, VQ, VQ2, opW, ne_eq, not_false_eq_true, not_true_eq_false, Nat.le_refl, false_implies, reduceIte, Nat.reduceEqDiff, Nat.reduceAdd, Nat.reduceSub, Nat.reduceLeDiff, Nat.reduceLT, Nat.reduceMul, Nat.reduceBEq, reduceCtorEq, Int.natCast_nonneg, Int.toNat_natCast, true_implies, implies_true, List.length_cons, List.length_nil, List.drop_succ_cons, List.drop_zero, List.take_succ_cons, List.take_zero, List.map_cons, List.map_nil, List.getD_cons_zero, List.getD_cons_succ, List.all_cons, List.all_nil, Bool.and_true, Bool.and_self, decide_true, decide_false, Bool.not_true, Bool.not_false, Bool.true_or, Bool.false_or, Bool.or_true, Bool.or_false, Bool.true_and, Bool.false_and, Bool.and_false, bytesAV_length, beq_self_eq_true, and_self, List.append_assoc, List.cons_append, List.nil_append, h1, h2, h7, h8]
                  refine (allows_ok w0 hM tk4 _ hsw p hp' (wOf c) s5).mono ?_
                  rintro r s6 ⟨rfl, hle12⟩
                  rw [hal]
                  have hle12 := St.le_trans hle11 hle12
                  simp only [VC, VX, VV, SU, RC, VQ, VQ2, opW, ne_eq, not_false_eq_true, not_true_eq_false, Nat.le_refl, false_implies, reduceIte, Nat.reduceEqDiff, Nat.reduceAdd, Nat.reduceSub, Nat.reduceLeDiff, Nat.reduceLT, Nat.reduceMul, Nat.reduceBEq, reduceCtorEq, Int.natCast_nonneg, Int.toNat_natCast, true_implies, implies_true, List.length_cons, List.length_nil, List.drop_succ_cons, List.drop_zero, List.take_succ_cons, List.take_zero, List.map_cons, List.map_nil, List.getD_cons_zero, List.getD_cons_succ, List.all_cons, List.all_nil, Bool.and_true, Bool.and_self, decide_true, decide_false, Bool.not_true, Bool.not_false, Bool.true_or, Bool.false_or, Bool.or_true, Bool.or_false, Bool.true_and, Bool.false_and, Bool.and_false, bytesAV_length, beq_self_eq_true, and_self, List.append_assoc, List.cons_append, List.nil_append, h1, h2, h7, h8, hbp]
                  refine (sure_ok w0 hM s6).mono ?_
                  rintro r s7 ⟨rfl, hle13⟩
                  simp only [VC, VX, VV, SU, RC, VQ, VQ2, opW, ne_eq, not_false_eq_true, not_true_eq_false, Nat.le_refl, false_implies, reduceIte, Nat.reduceEqDiff, Nat.reduceAdd, Nat.reduceSub, Nat.reduceLeDiff, Nat.reduceLT, Nat.reduceMul, Nat.reduceBEq, reduceCtorEq, Int.natCast_nonneg, Int.toNat_natCast, true_implies, implies_true, List.length_cons, List.length_nil, List.drop_succ_cons, List.drop_zero, List.take_succ_cons, List.take_zero, List.map_cons, List.map_nil, List.getD_cons_zero, List.getD_cons_succ, List.all_cons, List.all_nil, Bool.and_true, Bool.and_self, decide_true, decide_false, Bool.not_true, Bool.not_false, Bool.true_or, Bool.false_or, Bool.or_true, Bool.or_false, Bool.true_and, Bool.false_and, Bool.and_false, bytesAV_length, beq_self_eq_true, and_self, List.append_assoc, List.cons_append, List.nil_append]
                  first | exact St.le_trans hle12 hle13 | exact ⟨rfl, St.le_trans hle12 hle13⟩ | exact ⟨by simp, St.le_trans hle12 hle13⟩
                | true =>
                  rw [hbp] at hal
                  cases hc : ((saysP l p).caps == 32) with
                  | false =>
                    rw [hc] at hal
                    simp only [VC, VX, VV, SU, RC, VQ, VQ2, opW, ne_eq, not_false_eq_true, not_true_eq_false, Nat.le_refl, false_implies, reduceIte, Nat.reduceEqDiff, Nat.reduceAdd, Nat.reduceSub, Nat.reduceLeDiff, Nat.reduceLT, Nat.reduceMul, Nat.reduceBEq, reduceCtorEq, Int.natCast_nonneg, Int.toNat_natCast, true_implies, implies_true, List.length_cons, List.length_nil, List.drop_succ_cons, List.drop_zero, List.take_succ_cons, List.take_zero, List.map_cons, List.map_nil, List.getD_cons_zero, List.getD_cons_succ, List.all_cons, List.all_nil, Bool.and_true, Bool.and_self, decide_true, decide_false, Bool.not_true, Bool.not_false, Bool.true_or, Bool.false_or, Bool.or_true, Bool.or_false, Bool.true_and, Bool.false_and, Bool.and_false, bytesAV_length, beq_self_eq_true, and_self, List.append_assoc, List.cons_append, List.nil_append, h1, h2, h7, h8, hbp, hcq, hc]
                    refine (allows_ok w0 hM tk2 _ hsd p hp' (wOf c) s4).mono ?_
                    rintro r s5 ⟨rfl, hle11⟩
                    rw [hd]
                    have hle11 := St.le_trans hle10 hle11
                    simp only [VC, VX, VV, SU, RC, VQ, VQ2, opW, ne_eq, not_false_eq_true, not_true_eq_false, Nat.le_refl, false_implies, reduceIte, Nat.reduceEqDiff, Nat.reduceAdd, Nat.reduceSub, Nat.reduceLeDiff, Nat.reduceLT, Nat.reduceMul, Nat.reduceBEq, reduceCtorEq, Int.natCast_nonneg, Int.toNat_natCast, true_implies, implies_true, List.length_cons, List.length_nil, List.drop_succ_cons, List.drop_zero, List.take_succ_cons, List.take_zero, List.map_cons, List.map_nil, List.getD_cons_zero, List.getD_cons_succ, List.all_cons, List.all_nil, Bool.and_true, Bool.and_self, decide_true, decide_false, Bool.not_true, Bool.not_false, Bool.true_or, Bool.false_or, Bool.or_true, Bool.or_false, Bool.true_and, Bool.false_and, Bool.and_false, bytesAV_length, beq_self_eq_true, and_self, List.append_assoc, List.cons_append, List.nil_append, h1, h2, h7, h8]
                    refine (allows_ok w0 hM tk4 _ hsw p hp' (wOf c) s5).mono ?_
                    rintro r s6 ⟨rfl, hle12⟩
                    rw [hal]
                    have hle12 := St.le_trans hle11 hle12
                    simp only [VC, VX, VV, SU, RC, VQ, VQ2, opW, ne_eq, not_false_eq_true, not_true_eq_false, Nat.le_refl, false_implies, reduceIte, Nat.reduceEqDiff, Nat.reduceAdd, Nat.reduceSub, Nat.reduceLeDiff, Nat.reduceLT, Nat.reduceMul, Nat.reduceBEq, reduceCtorEq, Int.natCast_nonneg, Int.toNat_natCast, true_implies, implies_true, List.length_cons, List.length_nil, List.drop_succ_cons, List.drop_zero, List.take_succ_cons, List.take_zero, List.map_cons, List.map_nil, List.getD_cons_zero, List.getD_cons_succ, List.all_cons, List.all_nil, Bool.and_true, Bool.and_self, decide_true, decide_false, Bool.not_true, Bool.not_false, Bool.true_or, Bool.false_or, Bool.or_true, Bool.or_false, Bool.true_and, Bool.false_and, Bool.and_false, bytesAV_length, beq_self_eq_true, and_self, List.append_assoc, List.cons_append, List.nil_append, h1, h2, h7, h8, hc]
                    refine (sure_ok w0 hM s6).mono ?_
                    rintro r s7 ⟨rfl, hle13⟩
                    simp only [VC, VX, VV, SU, RC, VQ, VQ2, opW, ne_eq, not_false_eq_true, not_true_eq_false, Nat.le_refl, false_implies, reduceIte, Nat.reduceEqDiff, Nat.reduceAdd, Nat.reduceSub, Nat.reduceLeDiff, Nat.reduceLT, Nat.reduceMul, Nat.reduceBEq, reduceCtorEq, Int.natCast_nonneg, Int.toNat_natCast, true_implies, implies_true, List.length_cons, List.length_nil, List.drop_succ_cons, List.drop_zero, List.take_succ_cons, List.take_zero, List.map_cons, List.map_nil, List.getD_cons_zero, List.getD_cons_succ, List.all_cons, List.all_nil, Bool.and_true, Bool.and_self, decide_true, decide_false, Bool.not_true, Bool.not_false, Bool.true_or, Bool.false_or, Bool.or_true, Bool.or_false, Bool.true_and, Bool.false_and, Bool.and_false, bytesAV_length, beq_self_eq_true, and_self, List.append_assoc, List.cons_append, List.nil_append]
                    first | exact St.le_trans hle12 hle13 | exact ⟨rfl, St.le_trans hle12 hle13⟩ | exact ⟨by simp, St.le_trans hle12 hle13⟩
                  | true =>
                    rw [hc] at hal
                    simp only [VC, VX, VV, SU, RC, VQ, VQ2, opW, ne_eq, not_false_eq_true, not_true_eq_false, Nat.le_refl, false_implies, reduceIte, Nat.reduceEqDiff, Nat.reduceAdd, Nat.reduceSub, Nat.reduceLeDiff, Nat.reduceLT, Nat.reduceMul, Nat.reduceBEq, reduceCtorEq, Int.natCast_nonneg, Int.toNat_natCast, true_implies, implies_true, List.length_cons, List.length_nil, List.drop_succ_cons, List.drop_zero, List.take_succ_cons, List.take_zero, List.map_cons, List.map_nil, List.getD_cons_zero, List.getD_cons_succ, List.all_cons, List.all_nil, Bool.and_true, Bool.and_self, decide_true, decide_false, Bool.not_true, Bool.not_false, Bool.true_or, Bool.false_or, Bool.or_true, Bool.or_false, Bool.true_and, Bool.false_and, Bool.and_false, bytesAV_length, beq_self_eq_true, and_self, List.append_assoc, List.cons_append, List.nil_append, h1, h2, h7, h8, hbp, hcq, hc]
                    refine (allows_ok w0 hM tk2 _ hsd p hp' (wOf c) s4).mono ?_
                    rintro r s5 ⟨rfl, hle11⟩
                    rw [hd]
                    have hle11 := St.le_trans hle10 hle11
                    simp only [VC, VX, VV, SU, RC, VQ, VQ2, opW, ne_eq, not_false_eq_true, not_true_eq_false, Nat.le_refl, false_implies, reduceIte, Nat.reduceEqDiff, Nat.reduceAdd, Nat.reduceSub, Nat.reduceLeDiff, Nat.reduceLT, Nat.reduceMul, Nat.reduceBEq, reduceCtorEq, Int.natCast_nonneg, Int.toNat_natCast, true_implies, implies_true, List.length_cons, List.length_nil, List.drop_succ_cons, List.drop_zero, List.take_succ_cons, List.take_zero, List.map_cons, List.map_nil, List.getD_cons_zero, List.getD_cons_succ, List.all_cons, List.all_nil, Bool.and_true, Bool.and_self, decide_true, decide_false, Bool.not_true, Bool.not_false, Bool.true_or, Bool.false_or, Bool.or_true, Bool.or_false, Bool.true_and, Bool.false_and, Bool.and_false, bytesAV_length, beq_self_eq_true, and_self, List.append_assoc, List.cons_append, List.nil_append, h1, h2, h7, h8]
                    refine (allows_ok w0 hM tk4 _ hsw p hp' (wOf c) s5).mono ?_
                    rintro r s6 ⟨rfl, hle12⟩
                    rw [hal]
                    have hle12 := St.le_trans hle11 hle12
                    simp only [VC, VX, VV, SU, RC, VQ, VQ2, opW, ne_eq, not_false_eq_true, not_true_eq_false, Nat.le_refl, false_implies, reduceIte, Nat.reduceEqDiff, Nat.reduceAdd, Nat.reduceSub, Nat.reduceLeDiff, Nat.reduceLT, Nat.reduceMul, Nat.reduceBEq, reduceCtorEq, Int.natCast_nonneg, Int.toNat_natCast, true_implies, implies_true, List.length_cons, List.length_nil, List.drop_succ_cons, List.drop_zero, List.take_succ_cons, List.take_zero, List.map_cons, List.map_nil, List.getD_cons_zero, List.getD_cons_succ, List.all_cons, List.all_nil, Bool.and_true, Bool.and_self, decide_true, decide_false, Bool.not_true, Bool.not_false, Bool.true_or, Bool.false_or, Bool.or_true, Bool.or_false, Bool.true_and, Bool.false_and, Bool.and_false, bytesAV_length, beq_self_eq_true, and_self, List.append_assoc, List.cons_append, List.nil_append, h1, h2, h7, h8, hc]
                    refine (sure_ok w0 hM s6).mono ?_
                    rintro r s7 ⟨rfl, hle13⟩
                    simp only [VC, VX, VV, SU, RC, VQ, VQ2, opW, ne_eq, not_false_eq_true, not_true_eq_false, Nat.le_refl, false_implies, reduceIte, Nat.reduceEqDiff, Nat.reduceAdd, Nat.reduceSub, Nat.reduceLeDiff, Nat.reduceLT, Nat.reduceMul, Nat.reduceBEq, reduceCtorEq, Int.natCast_nonneg, Int.toNat_natCast, true_implies, implies_true, List.length_cons, List.length_nil, List.drop_succ_cons, List.drop_zero, List.take_succ_cons, List.take_zero, List.map_cons, List.map_nil, List.getD_cons_zero, List.getD_cons_succ, List.all_cons, List.all_nil, Bool.and_true, Bool.and_self, decide_true, decide_false, Bool.not_true, Bool.not_false, Bool.true_or, Bool.false_or, Bool.or_true, Bool.or_false, Bool.true_and, Bool.false_and, Bool.and_false, bytesAV_length, beq_self_eq_true, and_self, List.append_assoc, List.cons_append, List.nil_append]
                    first | exact St.le_trans hle12 hle13 | exact ⟨rfl, St.le_trans hle12 hle13⟩ | exact ⟨by simp, St.le_trans hle12 hle13⟩
end Go.Proofs.YtiipkbkoigcabaaDoor
