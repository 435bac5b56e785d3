/- Package policy: may rules be; words. No condition. -/
import Derived.Test.YtiipkbkoigcabaaDoorMatch
import Derived.Test.YtiipkbkoigcabaaDoorPolSpec
namespace Go.Proofs.YtiipkbkoigcabaaDoor
open Go Go.AW Go.RowKit Go.Proofs Go.Lib
set_option linter.unusedVariables false
set_option linter.unusedSimpArgs false

/-- bursary/policy.has$1: function 226. -/
def c_has1 : ACode := .seq (.ops [⟨some 2, .box 2 (.t 0), none⟩, ⟨some 3, .mv (.c (.bool false)), none⟩]) (.seq (.ops [⟨some 4, .faddr 0 (.t 2), none⟩, ⟨some 5, .load false 1 (.t 4), none⟩, ⟨some 6, .load false 1 (.t 1), none⟩, ⟨some 7, .cmp .eql (.t 5) (.t 6), none⟩, ⟨some 3, .mv (.t 7), none⟩]) .ret)
theorem is_has1 (w0 : World) : fnComp (cx w0).P 226 = some (erase c_has1, [.t 3], 8) := by kernel_rfl
/-- slices.IndexFunc[[]bursary/policy.Rule,bursary/policy.Rule]: function 256. -/
def c_idx_L0 : ACode := .seq (.ops [⟨some 9, .cmp .lss (.t 8) (.t 7), none⟩]) (.seq (.cond (.t 9) .skip (.exit 0)) (.seq (.block 1 (.seq (.ops [⟨some 10, .mv (.t 8), none⟩, ⟨some 5, .mv (.t 10), none⟩]) (.seq (.ops [⟨some 11, .mv (.t 1), none⟩, ⟨some 12, .mv (.t 0), none⟩, ⟨some 13, .mv (.t 5), none⟩, ⟨some 14, .iaddr 2 (.t 12) (.t 13), none⟩, ⟨some 15, .load true 2 (.t 14), none⟩, ⟨some 16, .call (.t 11) [.t 15], none⟩]) (.cond (.t 16) (.seq (.ops [⟨some 17, .mv (.t 5), none⟩, ⟨some 4, .mv (.t 17), none⟩]) .ret) .skip)))) (.ops [⟨some 18, .arith .add (.t 8) (.c (.int .i64 1)), none⟩, ⟨some 8, .mv (.t 18), none⟩])))
def c_idx_S0 : ACode := .seq (.ops [⟨some 4, .mv (.c (.int .i64 (-1))), none⟩]) .ret
def c_idx : ACode := .seq (.ops [⟨some 4, .mv (.c (.int .i64 0)), none⟩]) (.seq (.seq (.ops [⟨some 6, .mv (.t 0), none⟩, ⟨some 7, .len (.t 6), none⟩, ⟨some 8, .mv (.c (.int .i64 0)), none⟩]) (.block 0 (.loop c_idx_L0))) c_idx_S0)
theorem is_idx (w0 : World) : fnComp (cx w0).P 256 = some (erase c_idx, [.t 4], 19) := by kernel_rfl
/-- slices.ContainsFunc[[]bursary/policy.Rule,bursary/policy.Rule]: function 225. -/
def c_con : ACode := .seq (.ops [⟨some 4, .mv (.c (.bool false)), none⟩]) (.seq (.ops [⟨some 5, .mv (.t 0), none⟩, ⟨some 6, .mv (.t 1), none⟩, ⟨some 7, .call (.f 256) [.t 5, .t 6], none⟩, ⟨some 8, .cmp .geq (.t 7) (.c (.int .i64 0)), none⟩, ⟨some 4, .mv (.t 8), none⟩]) .ret)
theorem is_con (w0 : World) : fnComp (cx w0).P 225 = some (erase c_con, [.t 4], 9) := by kernel_rfl
/-- bursary/policy.has: function 172. -/
def c_has : ACode := .seq (.ops [⟨some 3, .box 1 (.t 1), none⟩, ⟨some 4, .mv (.c (.bool false)), none⟩]) (.seq (.ops [⟨some 5, .mv (.t 0), none⟩, ⟨some 6, .mkfn 226 [] [.t 3], none⟩, ⟨some 7, .call (.f 225) [.t 5, .t 6], none⟩, ⟨some 4, .mv (.t 7), none⟩]) .ret)
theorem is_has (w0 : World) : fnComp (cx w0).P 172 = some (erase c_has, [.t 4], 8) := by kernel_rfl
/-- bursary/policy.may: function 174. -/
def c_may : ACode := .seq (.ops [⟨some 2, .mv (.c (.bool false)), none⟩]) (.seq (.ops [⟨some 3, .mv (.t 0), none⟩, ⟨some 4, .cmp .geq (.t 3) (.c (.int .u8 1)), none⟩, ⟨some 5, .mv (.t 4), none⟩, ⟨some 6, .mv (.t 0), some (5, true)⟩, ⟨some 7, .cmp .leq (.t 6) (.c (.int .u8 32)), some (5, true)⟩, ⟨some 8, .pick (.t 5) (.t 7) (.c (.bool false)), none⟩, ⟨some 2, .mv (.t 8), none⟩]) .ret)
theorem is_may (w0 : World) : fnComp (cx w0).P 174 = some (erase c_may, [.t 2], 9) := by kernel_rfl
/-- bursary/policy.Check: function 83. -/
def c_check_L0 : ACode := .seq (.ops [⟨some 12, .cmp .lss (.t 11) (.t 10), none⟩]) (.seq (.cond (.t 12) .skip (.exit 0)) (.seq (.block 1 (.seq (.ops [⟨some 13, .mv (.t 11), none⟩, ⟨some 14, .iaddr 2 (.t 9) (.t 11), none⟩, ⟨some 15, .load true 2 (.t 14), none⟩, ⟨some 4, .alloc [.str [], .int .u8 0], none⟩, ⟨some 3, .mv (.t 13), none⟩, ⟨none, .store 2 (.t 4) (.t 15), none⟩]) (.seq (.draw [⟨some 16, .faddr 0 (.t 4), none⟩, ⟨some 17, .load false 1 (.t 16), none⟩, ⟨some 18, .call (.f 173) [.t 17], none⟩, ⟨some 19, .eqv 4 true (.t 18) (.c .niliface), none⟩, ⟨some 20, .mv (.t 19), none⟩, ⟨some 21, .mv (.t 0), some (20, false)⟩, ⟨some 22, .mv (.t 3), some (20, false)⟩, ⟨some 23, .sl 2 (.t 21) none (some (.t 22)) none, some (20, false)⟩, ⟨some 24, .faddr 0 (.t 4), some (20, false)⟩, ⟨some 25, .load false 1 (.t 24), some (20, false)⟩, ⟨some 26, .call (.f 172) [.t 23, .t 25], some (20, false)⟩, ⟨some 27, .pick (.t 20) (.c (.bool true)) (.t 26), none⟩, ⟨some 28, .mv (.t 27), none⟩, ⟨some 29, .faddr 1 (.t 4), some (28, false)⟩, ⟨some 30, .load false 1 (.t 29), some (28, false)⟩, ⟨some 31, .call (.f 174) [.t 30], some (28, false)⟩, ⟨some 32, .un .not (.t 31), some (28, false)⟩, ⟨some 33, .pick (.t 28) (.c (.bool true)) (.t 32), none⟩]) (.cond (.t 33) (.seq (.ops [⟨some 34, .mkif 167 (.c (.int .i64 1)), none⟩, ⟨some 2, .mv (.t 34), none⟩]) .ret) .skip)))) (.ops [⟨some 35, .arith .add (.t 11) (.c (.int .i64 1)), none⟩, ⟨some 11, .mv (.t 35), none⟩])))
def c_check_S0 : ACode := .seq (.ops [⟨some 2, .mv (.c .niliface), none⟩]) .ret
def c_check : ACode := .seq (.ops [⟨some 2, .mv (.c .niliface), none⟩]) (.seq (.seq (.ops [⟨some 5, .mv (.t 0), none⟩, ⟨some 6, .len (.t 5), none⟩, ⟨some 7, .cmp .gtr (.t 6) (.c (.int .i64 16)), none⟩]) (.cond (.t 7) (.seq (.ops [⟨some 8, .mkif 167 (.c (.int .i64 1)), none⟩, ⟨some 2, .mv (.t 8), none⟩]) .ret) .skip)) (.seq (.seq (.ops [⟨some 9, .mv (.t 0), none⟩, ⟨some 10, .len (.t 9), none⟩, ⟨some 11, .mv (.c (.int .i64 0)), none⟩]) (.block 0 (.loop c_check_L0))) c_check_S0))
theorem is_check (w0 : World) : fnComp (cx w0).P 83 = some (erase c_check, [.t 2], 36) := by kernel_rfl
/-- bursary/policy.words: function 175. -/
def c_words : ACode := .seq (.ops [⟨some 0, .mv (.c (.sl .nil [])), none⟩]) (.seq (.ops [⟨some 1, .mk (.str []) 6 [(0, .c (.str [114, 101, 97, 100])), (1, .c (.str [119, 114, 105, 116, 101])), (2, .c (.str [100, 101, 108, 101, 116, 101])), (3, .c (.str [108, 105, 115, 116])), (4, .c (.str [115, 117, 100, 111])), (5, .c (.str [100, 101, 110, 121]))], none⟩, ⟨some 0, .mv (.t 1), none⟩]) .ret)
theorem is_words (w0 : World) : fnComp (cx w0).P 175 = some (erase c_words, [.t 0], 2) := by kernel_rfl
/-- bursary/policy.Words: function 84. -/
def c_wordsOf_L0 : ACode := .seq (.ops [⟨some 9, .cmp .lss (.t 8) (.t 7), none⟩]) (.seq (.cond (.t 9) .skip (.exit 0)) (.seq (.block 1 (.seq (.ops [⟨some 10, .mv (.t 8), none⟩, ⟨some 11, .iaddr 1 (.t 6) (.t 8), none⟩, ⟨some 12, .load false 1 (.t 11), none⟩, ⟨some 4, .mv (.t 10), none⟩, ⟨some 5, .mv (.t 12), none⟩]) (.seq (.ops [⟨some 13, .mv (.t 0), none⟩, ⟨some 14, .mv (.t 4), none⟩, ⟨some 15, .shift .shr (.t 13) (.t 14), none⟩, ⟨some 16, .arith .and (.t 15) (.c (.int .u8 1)), none⟩, ⟨some 17, .cmp .eql (.t 16) (.c (.int .u8 1)), none⟩]) (.cond (.t 17) (.ops [⟨some 18, .mv (.t 3), none⟩, ⟨some 19, .mv (.t 5), none⟩, ⟨some 20, .mk (.str []) 1 [(0, .t 19)], none⟩, ⟨some 21, .app 1 16 (.t 18) (.t 20), none⟩, ⟨some 3, .mv (.t 21), none⟩]) .skip)))) (.ops [⟨some 22, .arith .add (.t 8) (.c (.int .i64 1)), none⟩, ⟨some 8, .mv (.t 22), none⟩])))
def c_wordsOf_S0 : ACode := .seq (.ops [⟨some 23, .mv (.t 3), none⟩, ⟨some 2, .mv (.t 23), none⟩]) .ret
def c_wordsOf : ACode := .seq (.ops [⟨some 2, .mv (.c (.sl .nil [])), none⟩]) (.seq (.ops [⟨some 3, .mv (.c (.sl .nil [])), none⟩]) (.seq (.seq (.ops [⟨some 6, .call (.f 175) [], none⟩, ⟨some 7, .len (.t 6), none⟩, ⟨some 8, .mv (.c (.int .i64 0)), none⟩]) (.block 0 (.loop c_wordsOf_L0))) c_wordsOf_S0))
theorem is_wordsOf (w0 : World) : fnComp (cx w0).P 84 = some (erase c_wordsOf, [.t 2], 24) := by kernel_rfl

def ruleAV (r : Rule) : AV := .agg [.str r.1, .int .u8 r.2.toNat]
def rulesAV (l : List Rule) : List AV := l.map ruleAV
theorem rulesAV_length (l : List Rule) : (rulesAV l).length = l.length := by simp [rulesAV]
theorem rulesAV_getD (l : List Rule) (k : Nat) (h : k < l.length) : (rulesAV l).getD k .undef = .agg [.str l[k].1, .int .u8 l[k].2.toNat] := by simp [rulesAV, ruleAV, List.getD_eq_getElem?_getD, h]
theorem rulesAV_csize (l : List Rule) : ((rulesAV l).all fun a => a.csize == 2) = true := by simp [rulesAV, ruleAV, AV.csize, AV.cells]
theorem rulesAV_take (l : List Rule) (k : Nat) : (rulesAV l).take k = rulesAV (l.take k) := by simp [rulesAV]

theorem has1_ok (w0 : World) (r : Rule) (p : Bs) (id : Nat) (st : St) (h : st id = some (.obj [.str p])) : ACalls (cx w0) 226 [.agg [.str r.1, .int .u8 r.2.toNat], .ptr id 0] st fun v st' => v = .bool (r.1 == p) ∧ st.le st' := by
  refine ACalls.of_vc (A := c_has1) (is_has1 w0) (by simp) ?_
  unfold c_has1
  simp only [VC, VX, VV, SU, RC, VQ, VQ2, opW, ne_eq, not_false_eq_true, not_true_eq_false, Nat.le_refl, false_implies, reduceIte, Nat.reduceEqDiff, Nat.reduceAdd, Nat.reduceSub, Nat.reduceLeDiff, Nat.reduceLT, Nat.reduceMul, Nat.reduceBEq, reduceCtorEq, Int.natCast_nonneg, Int.toNat_natCast, true_implies, implies_true, List.length_cons, List.length_nil, List.drop_succ_cons, List.drop_zero, List.take_succ_cons, List.take_zero, List.map_cons, List.map_nil, List.getD_cons_zero, List.getD_cons_succ, List.all_cons, List.all_nil, Bool.and_true, Bool.and_self, decide_true, decide_false, Bool.not_true, Bool.not_false, Bool.true_or, Bool.false_or, Bool.or_true, Bool.or_false, Bool.true_and, Bool.false_and, Bool.and_false, bytesAV_length, beq_self_eq_true, and_self, List.append_assoc, List.cons_append, List.nil_append]
  intro id2 hid2
  have hne : ¬ id = id2 := fun e => by subst e; rw [h] at hid2; cases hid2
  simp only [VC, VX, VV, SU, RC, VQ, VQ2, opW, ne_eq, not_false_eq_true, not_true_eq_false, Nat.le_refl, false_implies, reduceIte, Nat.reduceEqDiff, Nat.reduceAdd, Nat.reduceSub, Nat.reduceLeDiff, Nat.reduceLT, Nat.reduceMul, Nat.reduceBEq, reduceCtorEq, Int.natCast_nonneg, Int.toNat_natCast, true_implies, implies_true, List.length_cons, List.length_nil, List.drop_succ_cons, List.drop_zero, List.take_succ_cons, List.take_zero, List.map_cons, List.map_nil, List.getD_cons_zero, List.getD_cons_succ, List.all_cons, List.all_nil, Bool.and_true, Bool.and_self, decide_true, decide_false, Bool.not_true, Bool.not_false, Bool.true_or, Bool.false_or, Bool.or_true, Bool.or_false, Bool.true_and, Bool.false_and, Bool.and_false, bytesAV_length, beq_self_eq_true, and_self, List.append_assoc, List.cons_append, List.nil_append, hne, h]
  first | exact St.le_upd _ _ _ hid2 | exact ⟨rfl, St.le_upd _ _ _ hid2⟩ | exact ⟨by simp, St.le_upd _ _ _ hid2⟩

def findP (l : List Rule) (p : Bs) : Int := match l.findIdx? (fun r => r.1 == p) with
  | some i => i
  | none => -1

theorem idx_ok (w0 : World) (tk : Tk) (l : List Rule) (hl : l.length ≤ 1000000) (p : Bs) (id : Nat) (st : St) (h : st id = some (.obj [.str p])) : ACalls (cx w0) 256 [.sl tk (rulesAV l), .fn (.func 226) [] [.ptr id 0]] st fun v st' => v = .int .i64 (findP l p) ∧ st.le st' := by
  refine ACalls.of_vc (A := c_idx) (is_idx w0) (by simp) ?_
  unfold c_idx
  simp only [VC, VX, VV, SU, RC, VQ, VQ2, opW, ne_eq, not_false_eq_true, not_true_eq_false, Nat.le_refl, false_implies, reduceIte, Nat.reduceEqDiff, Nat.reduceAdd, Nat.reduceSub, Nat.reduceLeDiff, Nat.reduceLT, Nat.reduceMul, Nat.reduceBEq, reduceCtorEq, Int.natCast_nonneg, Int.toNat_natCast, true_implies, implies_true, List.length_cons, List.length_nil, List.drop_succ_cons, List.drop_zero, List.take_succ_cons, List.take_zero, List.map_cons, List.map_nil, List.getD_cons_zero, List.getD_cons_succ, List.all_cons, List.all_nil, Bool.and_true, Bool.and_self, decide_true, decide_false, Bool.not_true, Bool.not_false, Bool.true_or, Bool.false_or, Bool.or_true, Bool.or_false, Bool.true_and, Bool.false_and, Bool.and_false, bytesAV_length, beq_self_eq_true, and_self, List.append_assoc, List.cons_append, List.nil_append, rulesAV_length]
  refine VLoop.up l.length (fun k e st' => e.get 0 = .sl tk (rulesAV l) ∧ e.get 1 = .fn (.func 226) [] [.ptr id 0] ∧ e.get 7 = .int .i64 l.length ∧ e.get 8 = .int .i64 k ∧ k ≤ l.length ∧ ((l.take k).all fun r => !(r.1 == p)) = true ∧ st.le st') ?_ ?_
  · simp only [VC, VX, VV, SU, RC, VQ, VQ2, opW, ne_eq, not_false_eq_true, not_true_eq_false, Nat.le_refl, false_implies, reduceIte, Nat.reduceEqDiff, Nat.reduceAdd, Nat.reduceSub, Nat.reduceLeDiff, Nat.reduceLT, Nat.reduceMul, Nat.reduceBEq, reduceCtorEq, Int.natCast_nonneg, Int.toNat_natCast, true_implies, implies_true, List.length_cons, List.length_nil, List.drop_succ_cons, List.drop_zero, List.take_succ_cons, List.take_zero, List.map_cons, List.map_nil, List.getD_cons_zero, List.getD_cons_succ, List.all_cons, List.all_nil, Bool.and_true, Bool.and_self, decide_true, decide_false, Bool.not_true, Bool.not_false, Bool.true_or, Bool.false_or, Bool.or_true, Bool.or_false, Bool.true_and, Bool.false_and, Bool.and_false, bytesAV_length, beq_self_eq_true, and_self, List.append_assoc, List.cons_append, List.nil_append]
    exact ⟨rfl, Nat.zero_le _, St.le_refl _⟩
  · rintro k e st' ⟨h0, h1, h7, h8, hk, hall, hle⟩
    unfold c_idx_L0
    simp only [VC, VX, VV, SU, RC, VQ, VQ2, opW, ne_eq, not_false_eq_true, not_true_eq_false, Nat.le_refl, false_implies, reduceIte, Nat.reduceEqDiff, Nat.reduceAdd, Nat.reduceSub, Nat.reduceLeDiff, Nat.reduceLT, Nat.reduceMul, Nat.reduceBEq, reduceCtorEq, Int.natCast_nonneg, Int.toNat_natCast, true_implies, implies_true, List.length_cons, List.length_nil, List.drop_succ_cons, List.drop_zero, List.take_succ_cons, List.take_zero, List.map_cons, List.map_nil, List.getD_cons_zero, List.getD_cons_succ, List.all_cons, List.all_nil, Bool.and_true, Bool.and_self, decide_true, decide_false, Bool.not_true, Bool.not_false, Bool.true_or, Bool.false_or, Bool.or_true, Bool.or_false, Bool.true_and, Bool.false_and, Bool.and_false, bytesAV_length, beq_self_eq_true, and_self, List.append_assoc, List.cons_append, List.nil_append, h0, h1, h7, h8]
    refine VCond.dec (fun hlt => ?_) (fun hge => ?_)
    · have hlt' : k < l.length := by omega
      have hg := rulesAV_getD l k hlt'
      simp only [VC, VX, VV, SU, RC, VQ, VQ2, opW, ne_eq, not_false_eq_true, not_true_eq_false, Nat.le_refl, false_implies, reduceIte, Nat.reduceEqDiff, Nat.reduceAdd, Nat.reduceSub, Nat.reduceLeDiff, Nat.reduceLT, Nat.reduceMul, Nat.reduceBEq, reduceCtorEq, Int.natCast_nonneg, Int.toNat_natCast, true_implies, implies_true, List.length_cons, List.length_nil, List.drop_succ_cons, List.drop_zero, List.take_succ_cons, List.take_zero, List.map_cons, List.map_nil, List.getD_cons_zero, List.getD_cons_succ, List.all_cons, List.all_nil, Bool.and_true, Bool.and_self, decide_true, decide_false, Bool.not_true, Bool.not_false, Bool.true_or, Bool.false_or, Bool.or_true, Bool.or_false, Bool.true_and, Bool.false_and, Bool.and_false, bytesAV_length, beq_self_eq_true, and_self, List.append_assoc, List.cons_append, List.nil_append, h0, h1, h7, h8, hlt, hg, rulesAV_length]
      refine (has1_ok w0 l[k] p id st' (hle _ _ h)).mono ?_
      rintro r st2 ⟨rfl, hle2⟩
      have hle2 := St.le_trans hle hle2
      by_cases hx : (l[k].1 == p) = true
      · simp only [VC, VX, VV, SU, RC, VQ, VQ2, opW, ne_eq, not_false_eq_true, not_true_eq_false, Nat.le_refl, false_implies, reduceIte, Nat.reduceEqDiff, Nat.reduceAdd, Nat.reduceSub, Nat.reduceLeDiff, Nat.reduceLT, Nat.reduceMul, Nat.reduceBEq, reduceCtorEq, Int.natCast_nonneg, Int.toNat_natCast, true_implies, implies_true, List.length_cons, List.length_nil, List.drop_succ_cons, List.drop_zero, List.take_succ_cons, List.take_zero, List.map_cons, List.map_nil, List.getD_cons_zero, List.getD_cons_succ, List.all_cons, List.all_nil, Bool.and_true, Bool.and_self, decide_true, decide_false, Bool.not_true, Bool.not_false, Bool.true_or, Bool.false_or, Bool.or_true, Bool.or_false, Bool.true_and, Bool.false_and, Bool.and_false, bytesAV_length, beq_self_eq_true, and_self, List.append_assoc, List.cons_append, List.nil_append, hx]
        refine ⟨?_, hle2⟩
        have : l.findIdx? (fun r => r.1 == p) = some k := by
          rw [List.findIdx?_eq_some_iff_getElem]
          refine ⟨hlt', hx, fun j hj => ?_⟩
          have hm : l[j] ∈ l.take k := by
            rw [List.mem_take_iff_getElem]
            exact ⟨j, by omega, rfl⟩
          have := List.all_eq_true.1 hall _ hm
          simpa using this
        simp [findP, this]
      · have hx : (l[k].1 == p) = false := by simpa using hx
        simp only [VC, VX, VV, SU, RC, VQ, VQ2, opW, ne_eq, not_false_eq_true, not_true_eq_false, Nat.le_refl, false_implies, reduceIte, Nat.reduceEqDiff, Nat.reduceAdd, Nat.reduceSub, Nat.reduceLeDiff, Nat.reduceLT, Nat.reduceMul, Nat.reduceBEq, reduceCtorEq, Int.natCast_nonneg, Int.toNat_natCast, true_implies, implies_true, List.length_cons, List.length_nil, List.drop_succ_cons, List.drop_zero, List.take_succ_cons, List.take_zero, List.map_cons, List.map_nil, List.getD_cons_zero, List.getD_cons_succ, List.all_cons, List.all_nil, Bool.and_true, Bool.and_self, decide_true, decide_false, Bool.not_true, Bool.not_false, Bool.true_or, Bool.false_or, Bool.or_true, Bool.or_false, Bool.true_and, Bool.false_and, Bool.and_false, bytesAV_length, beq_self_eq_true, and_self, List.append_assoc, List.cons_append, List.nil_append, hx, h0, h1, h7, h8]
        refine ⟨hlt', ?_, by omega, ?_, hle2⟩
        · rw [wrap_nat (by omega)]
        · rw [List.take_succ_eq_append_getElem hlt', List.all_append, hall]
          simp [hx]
    · have hk' : k = l.length := by omega
      subst hk'
      rw [List.take_length] at hall
      unfold c_idx_S0
      simp only [VC, VX, VV, SU, RC, VQ, VQ2, opW, ne_eq, not_false_eq_true, not_true_eq_false, Nat.le_refl, false_implies, reduceIte, Nat.reduceEqDiff, Nat.reduceAdd, Nat.reduceSub, Nat.reduceLeDiff, Nat.reduceLT, Nat.reduceMul, Nat.reduceBEq, reduceCtorEq, Int.natCast_nonneg, Int.toNat_natCast, true_implies, implies_true, List.length_cons, List.length_nil, List.drop_succ_cons, List.drop_zero, List.take_succ_cons, List.take_zero, List.map_cons, List.map_nil, List.getD_cons_zero, List.getD_cons_succ, List.all_cons, List.all_nil, Bool.and_true, Bool.and_self, decide_true, decide_false, Bool.not_true, Bool.not_false, Bool.true_or, Bool.false_or, Bool.or_true, Bool.or_false, Bool.true_and, Bool.false_and, Bool.and_false, bytesAV_length, beq_self_eq_true, and_self, List.append_assoc, List.cons_append, List.nil_append]
      refine ⟨?_, hle⟩
      have : l.findIdx? (fun r => r.1 == p) = none := by
        rw [List.findIdx?_eq_none_iff]
        intro x hx
        have := List.all_eq_true.1 hall x hx
        simpa using this
      simp [findP, this]

theorem findP_ge (l : List Rule) (p : Bs) : decide (findP l p ≥ 0) = hasP l p := by
  unfold findP hasP
  cases h : l.findIdx? (fun r => r.1 == p) with
  | none =>
    rw [List.findIdx?_eq_none_iff] at h
    have : l.any (fun r => r.1 == p) = false := List.any_eq_false.2 fun x hx => by simpa using h x hx
    simp only [this]
    decide
  | some i =>
    rw [List.findIdx?_eq_some_iff_getElem] at h
    obtain ⟨hi, hx, _⟩ := h
    have : l.any (fun r => r.1 == p) = true := List.any_eq_true.2 ⟨_, List.getElem_mem hi, hx⟩
    simp only [this]
    have : (i : Int) ≥ 0 := Int.natCast_nonneg i
    simp [this]

theorem con_ok (w0 : World) (tk : Tk) (l : List Rule) (hl : l.length ≤ 1000000) (p : Bs) (id : Nat) (st : St) (h : st id = some (.obj [.str p])) : ACalls (cx w0) 225 [.sl tk (rulesAV l), .fn (.func 226) [] [.ptr id 0]] st fun v st' => v = .bool (hasP l p) ∧ st.le st' := by
  refine ACalls.of_vc (A := c_con) (is_con w0) (by simp) ?_
  unfold c_con
  simp only [VC, VX, VV, SU, RC, VQ, VQ2, opW, ne_eq, not_false_eq_true, not_true_eq_false, Nat.le_refl, false_implies, reduceIte, Nat.reduceEqDiff, Nat.reduceAdd, Nat.reduceSub, Nat.reduceLeDiff, Nat.reduceLT, Nat.reduceMul, Nat.reduceBEq, reduceCtorEq, Int.natCast_nonneg, Int.toNat_natCast, true_implies, implies_true, List.length_cons, List.length_nil, List.drop_succ_cons, List.drop_zero, List.take_succ_cons, List.take_zero, List.map_cons, List.map_nil, List.getD_cons_zero, List.getD_cons_succ, List.all_cons, List.all_nil, Bool.and_true, Bool.and_self, decide_true, decide_false, Bool.not_true, Bool.not_false, Bool.true_or, Bool.false_or, Bool.or_true, Bool.or_false, Bool.true_and, Bool.false_and, Bool.and_false, bytesAV_length, beq_self_eq_true, and_self, List.append_assoc, List.cons_append, List.nil_append]
  refine (idx_ok w0 tk l hl p id st h).mono ?_
  rintro r st2 ⟨rfl, hle2⟩
  simp only [VC, VX, VV, SU, RC, VQ, VQ2, opW, ne_eq, not_false_eq_true, not_true_eq_false, Nat.le_refl, false_implies, reduceIte, Nat.reduceEqDiff, Nat.reduceAdd, Nat.reduceSub, Nat.reduceLeDiff, Nat.reduceLT, Nat.reduceMul, Nat.reduceBEq, reduceCtorEq, Int.natCast_nonneg, Int.toNat_natCast, true_implies, implies_true, List.length_cons, List.length_nil, List.drop_succ_cons, List.drop_zero, List.take_succ_cons, List.take_zero, List.map_cons, List.map_nil, List.getD_cons_zero, List.getD_cons_succ, List.all_cons, List.all_nil, Bool.and_true, Bool.and_self, decide_true, decide_false, Bool.not_true, Bool.not_false, Bool.true_or, Bool.false_or, Bool.or_true, Bool.or_false, Bool.true_and, Bool.false_and, Bool.and_false, bytesAV_length, beq_self_eq_true, and_self, List.append_assoc, List.cons_append, List.nil_append, findP_ge]
  first | exact hle2 | exact ⟨rfl, hle2⟩ | exact ⟨by simp, hle2⟩

theorem has_ok (w0 : World) (tk : Tk) (l : List Rule) (hl : l.length ≤ 1000000) (p : Bs) : PC w0 172 [.sl tk (rulesAV l), .str p] (.bool (hasP l p)) := by
  intro st
  refine ACalls.of_vc (A := c_has) (is_has w0) (by simp) ?_
  unfold c_has
  simp only [VC, VX, VV, SU, RC, VQ, VQ2, opW, ne_eq, not_false_eq_true, not_true_eq_false, Nat.le_refl, false_implies, reduceIte, Nat.reduceEqDiff, Nat.reduceAdd, Nat.reduceSub, Nat.reduceLeDiff, Nat.reduceLT, Nat.reduceMul, Nat.reduceBEq, reduceCtorEq, Int.natCast_nonneg, Int.toNat_natCast, true_implies, implies_true, List.length_cons, List.length_nil, List.drop_succ_cons, List.drop_zero, List.take_succ_cons, List.take_zero, List.map_cons, List.map_nil, List.getD_cons_zero, List.getD_cons_succ, List.all_cons, List.all_nil, Bool.and_true, Bool.and_self, decide_true, decide_false, Bool.not_true, Bool.not_false, Bool.true_or, Bool.false_or, Bool.or_true, Bool.or_false, Bool.true_and, Bool.false_and, Bool.and_false, bytesAV_length, beq_self_eq_true, and_self, List.append_assoc, List.cons_append, List.nil_append]
  intro id hid
  refine (con_ok w0 tk l hl p id _ (St.upd_same _ _ _)).mono ?_
  rintro r st2 ⟨rfl, hle2⟩
  simp only [VC, VX, VV, SU, RC, VQ, VQ2, opW, ne_eq, not_false_eq_true, not_true_eq_false, Nat.le_refl, false_implies, reduceIte, Nat.reduceEqDiff, Nat.reduceAdd, Nat.reduceSub, Nat.reduceLeDiff, Nat.reduceLT, Nat.reduceMul, Nat.reduceBEq, reduceCtorEq, Int.natCast_nonneg, Int.toNat_natCast, true_implies, implies_true, List.length_cons, List.length_nil, List.drop_succ_cons, List.drop_zero, List.take_succ_cons, List.take_zero, List.map_cons, List.map_nil, List.getD_cons_zero, List.getD_cons_succ, List.all_cons, List.all_nil, Bool.and_true, Bool.and_self, decide_true, decide_false, Bool.not_true, Bool.not_false, Bool.true_or, Bool.false_or, Bool.or_true, Bool.or_false, Bool.true_and, Bool.false_and, Bool.and_false, bytesAV_length, beq_self_eq_true, and_self, List.append_assoc, List.cons_append, List.nil_append]
  first | exact St.le_trans (St.le_upd _ _ _ hid) hle2 | exact ⟨rfl, St.le_trans (St.le_upd _ _ _ hid) hle2⟩ | exact ⟨by simp, St.le_trans (St.le_upd _ _ _ hid) hle2⟩

theorem may_ok (w0 : World) (c : UInt8) : PC w0 174 [.int .u8 c.toNat] (.bool (mayC c)) := by
  intro st
  refine ACalls.of_vc (A := c_may) (is_may w0) (by simp) ?_
  unfold c_may
  have e1 : decide ((c.toNat : Int) ≥ 1) = decide (1 ≤ c.toNat) := by
    by_cases h : 1 ≤ c.toNat
    · have : (c.toNat : Int) ≥ 1 := by omega
      simp [h, this]
    · have : ¬ (c.toNat : Int) ≥ 1 := by omega
      simp [h, this]
  have e2 : decide ((c.toNat : Int) ≤ 32) = decide (c.toNat ≤ 32) := by
    by_cases h : c.toNat ≤ 32
    · have : (c.toNat : Int) ≤ 32 := by omega
      simp [h, this]
    · have : ¬ (c.toNat : Int) ≤ 32 := by omega
      simp [h, this]
  simp only [VC, VX, VV, SU, RC, VQ, VQ2, opW, ne_eq, not_false_eq_true, not_true_eq_false, Nat.le_refl, false_implies, reduceIte, Nat.reduceEqDiff, Nat.reduceAdd, Nat.reduceSub, Nat.reduceLeDiff, Nat.reduceLT, Nat.reduceMul, Nat.reduceBEq, reduceCtorEq, Int.natCast_nonneg, Int.toNat_natCast, true_implies, implies_true, List.length_cons, List.length_nil, List.drop_succ_cons, List.drop_zero, List.take_succ_cons, List.take_zero, List.map_cons, List.map_nil, List.getD_cons_zero, List.getD_cons_succ, List.all_cons, List.all_nil, Bool.and_true, Bool.and_self, decide_true, decide_false, Bool.not_true, Bool.not_false, Bool.true_or, Bool.false_or, Bool.or_true, Bool.or_false, Bool.true_and, Bool.false_and, Bool.and_false, bytesAV_length, beq_self_eq_true, and_self, List.append_assoc, List.cons_append, List.nil_append, e1, e2]
  refine VG.of (fun h => ?_) (fun h => ?_)
  · simp only [VC, VX, VV, SU, RC, VQ, VQ2, opW, ne_eq, not_false_eq_true, not_true_eq_false, Nat.le_refl, false_implies, reduceIte, Nat.reduceEqDiff, Nat.reduceAdd, Nat.reduceSub, Nat.reduceLeDiff, Nat.reduceLT, Nat.reduceMul, Nat.reduceBEq, reduceCtorEq, Int.natCast_nonneg, Int.toNat_natCast, true_implies, implies_true, List.length_cons, List.length_nil, List.drop_succ_cons, List.drop_zero, List.take_succ_cons, List.take_zero, List.map_cons, List.map_nil, List.getD_cons_zero, List.getD_cons_succ, List.all_cons, List.all_nil, Bool.and_true, Bool.and_self, decide_true, decide_false, Bool.not_true, Bool.not_false, Bool.true_or, Bool.false_or, Bool.or_true, Bool.or_false, Bool.true_and, Bool.false_and, Bool.and_false, bytesAV_length, beq_self_eq_true, and_self, List.append_assoc, List.cons_append, List.nil_append, e1, e2, h]
    refine ⟨?_, St.le_refl _⟩
    simp only [decide_eq_true_eq] at h
    simp [mayC, h]
  · have h : decide (1 ≤ c.toNat) = false := by simpa using h
    simp only [VC, VX, VV, SU, RC, VQ, VQ2, opW, ne_eq, not_false_eq_true, not_true_eq_false, Nat.le_refl, false_implies, reduceIte, Nat.reduceEqDiff, Nat.reduceAdd, Nat.reduceSub, Nat.reduceLeDiff, Nat.reduceLT, Nat.reduceMul, Nat.reduceBEq, reduceCtorEq, Int.natCast_nonneg, Int.toNat_natCast, true_implies, implies_true, List.length_cons, List.length_nil, List.drop_succ_cons, List.drop_zero, List.take_succ_cons, List.take_zero, List.map_cons, List.map_nil, List.getD_cons_zero, List.getD_cons_succ, List.all_cons, List.all_nil, Bool.and_true, Bool.and_self, decide_true, decide_false, Bool.not_true, Bool.not_false, Bool.true_or, Bool.false_or, Bool.or_true, Bool.or_false, Bool.true_and, Bool.false_and, Bool.and_false, bytesAV_length, beq_self_eq_true, and_self, List.append_assoc, List.cons_append, List.nil_append, e1, e2, h]
    refine ⟨?_, St.le_refl _⟩
    simp only [mayC, h, Bool.false_and]

theorem okL_drop (l : List Rule) (k : Nat) (hk : k < l.length) : okL (l.take k) (l.drop k) = (okR (l.take k) l[k] && okL (l.take (k + 1)) (l.drop (k + 1))) := by
  rw [List.drop_eq_getElem_cons hk, okL, List.take_succ_eq_append_getElem hk]

theorem check_ok (w0 : World) (hM : Mx w0) (tk : Tk) (l : List Rule) (hl : l.length ≤ 1000000) (hp : ∀ r ∈ l, r.1.length < 4294967281) : PC w0 83 [.sl tk (rulesAV l)] (if checkP l then .niliface else errAV 1) := by
  intro st
  refine ACalls.of_vc (A := c_check) (is_check w0) (by simp) ?_
  unfold c_check
  by_cases h1 : (l.length : Int) > 16
  · have : checkP l = false := by
      have : ¬ l.length ≤ 16 := by omega
      simp [checkP, this]
    simp only [VC, VX, VV, SU, RC, VQ, VQ2, opW, ne_eq, not_false_eq_true, not_true_eq_false, Nat.le_refl, false_implies, reduceIte, Nat.reduceEqDiff, Nat.reduceAdd, Nat.reduceSub, Nat.reduceLeDiff, Nat.reduceLT, Nat.reduceMul, Nat.reduceBEq, reduceCtorEq, Int.natCast_nonneg, Int.toNat_natCast, true_implies, implies_true, List.length_cons, List.length_nil, List.drop_succ_cons, List.drop_zero, List.take_succ_cons, List.take_zero, List.map_cons, List.map_nil, List.getD_cons_zero, List.getD_cons_succ, List.all_cons, List.all_nil, Bool.and_true, Bool.and_self, decide_true, decide_false, Bool.not_true, Bool.not_false, Bool.true_or, Bool.false_or, Bool.or_true, Bool.or_false, Bool.true_and, Bool.false_and, Bool.and_false, bytesAV_length, beq_self_eq_true, and_self, List.append_assoc, List.cons_append, List.nil_append, rulesAV_length, h1, this]
    first | exact St.le_refl _ | exact ⟨rfl, St.le_refl _⟩ | exact ⟨by simp, St.le_refl _⟩
  · have h16 : l.length ≤ 16 := by omega
    have ec : checkP l = okL [] l := by simp [checkP, h16]
    simp only [VC, VX, VV, SU, RC, VQ, VQ2, opW, ne_eq, not_false_eq_true, not_true_eq_false, Nat.le_refl, false_implies, reduceIte, Nat.reduceEqDiff, Nat.reduceAdd, Nat.reduceSub, Nat.reduceLeDiff, Nat.reduceLT, Nat.reduceMul, Nat.reduceBEq, reduceCtorEq, Int.natCast_nonneg, Int.toNat_natCast, true_implies, implies_true, List.length_cons, List.length_nil, List.drop_succ_cons, List.drop_zero, List.take_succ_cons, List.take_zero, List.map_cons, List.map_nil, List.getD_cons_zero, List.getD_cons_succ, List.all_cons, List.all_nil, Bool.and_true, Bool.and_self, decide_true, decide_false, Bool.not_true, Bool.not_false, Bool.true_or, Bool.false_or, Bool.or_true, Bool.or_false, Bool.true_and, Bool.false_and, Bool.and_false, bytesAV_length, beq_self_eq_true, and_self, List.append_assoc, List.cons_append, List.nil_append, rulesAV_length, h1]
    refine VLoop.up l.length (fun k e st' => e.get 0 = .sl tk (rulesAV l) ∧ e.get 9 = .sl tk (rulesAV l) ∧ e.get 10 = .int .i64 l.length ∧ e.get 11 = .int .i64 k ∧ k ≤ l.length ∧ okL [] l = okL (l.take k) (l.drop k) ∧ st.le st') ?_ ?_
    · simp only [VC, VX, VV, SU, RC, VQ, VQ2, opW, ne_eq, not_false_eq_true, not_true_eq_false, Nat.le_refl, false_implies, reduceIte, Nat.reduceEqDiff, Nat.reduceAdd, Nat.reduceSub, Nat.reduceLeDiff, Nat.reduceLT, Nat.reduceMul, Nat.reduceBEq, reduceCtorEq, Int.natCast_nonneg, Int.toNat_natCast, true_implies, implies_true, List.length_cons, List.length_nil, List.drop_succ_cons, List.drop_zero, List.take_succ_cons, List.take_zero, List.map_cons, List.map_nil, List.getD_cons_zero, List.getD_cons_succ, List.all_cons, List.all_nil, Bool.and_true, Bool.and_self, decide_true, decide_false, Bool.not_true, Bool.not_false, Bool.true_or, Bool.false_or, Bool.or_true, Bool.or_false, Bool.true_and, Bool.false_and, Bool.and_false, bytesAV_length, beq_self_eq_true, and_self, List.append_assoc, List.cons_append, List.nil_append]
      exact ⟨rfl, Nat.zero_le _, St.le_refl _⟩
    · rintro k e st' ⟨h0, h9, h10, h11, hk, hok, hle⟩
      unfold c_check_L0
      simp only [VC, VX, VV, SU, RC, VQ, VQ2, opW, ne_eq, not_false_eq_true, not_true_eq_false, Nat.le_refl, false_implies, reduceIte, Nat.reduceEqDiff, Nat.reduceAdd, Nat.reduceSub, Nat.reduceLeDiff, Nat.reduceLT, Nat.reduceMul, Nat.reduceBEq, reduceCtorEq, Int.natCast_nonneg, Int.toNat_natCast, true_implies, implies_true, List.length_cons, List.length_nil, List.drop_succ_cons, List.drop_zero, List.take_succ_cons, List.take_zero, List.map_cons, List.map_nil, List.getD_cons_zero, List.getD_cons_succ, List.all_cons, List.all_nil, Bool.and_true, Bool.and_self, decide_true, decide_false, Bool.not_true, Bool.not_false, Bool.true_or, Bool.false_or, Bool.or_true, Bool.or_false, Bool.true_and, Bool.false_and, Bool.and_false, bytesAV_length, beq_self_eq_true, and_self, List.append_assoc, List.cons_append, List.nil_append, h0, h9, h10, h11]
      refine VCond.dec (fun hlt => ?_) (fun hge => ?_)
      · have hlt' : k < l.length := by omega
        have hg := rulesAV_getD l k hlt'
        simp only [VC, VX, VV, SU, RC, VQ, VQ2, opW, ne_eq, not_false_eq_true, not_true_eq_false, Nat.le_refl, false_implies, reduceIte, Nat.reduceEqDiff, Nat.reduceAdd, Nat.reduceSub, Nat.reduceLeDiff, Nat.reduceLT, Nat.reduceMul, Nat.reduceBEq, reduceCtorEq, Int.natCast_nonneg, Int.toNat_natCast, true_implies, implies_true, List.length_cons, List.length_nil, List.drop_succ_cons, List.drop_zero, List.take_succ_cons, List.take_zero, List.map_cons, List.map_nil, List.getD_cons_zero, List.getD_cons_succ, List.all_cons, List.all_nil, Bool.and_true, Bool.and_self, decide_true, decide_false, Bool.not_true, Bool.not_false, Bool.true_or, Bool.false_or, Bool.or_true, Bool.or_false, Bool.true_and, Bool.false_and, Bool.and_false, bytesAV_length, beq_self_eq_true, and_self, List.append_assoc, List.cons_append, List.nil_append, h0, h9, h10, h11, hlt, hg, rulesAV_length]
        intro id hid
        have hle1 : st.le ((st'.upd id (.obj [.str [], .int .u8 0])).upd id (.obj [.str l[k].1, .int .u8 l[k].2.toNat])) := St.le_upd0 _ (St.le_upd0 _ hle (St.le_none hle hid)) (St.le_none hle hid)
        refine VDraw ?_
        simp only [VC, VX, VV, SU, RC, VQ, VQ2, opW, ne_eq, not_false_eq_true, not_true_eq_false, Nat.le_refl, false_implies, reduceIte, Nat.reduceEqDiff, Nat.reduceAdd, Nat.reduceSub, Nat.reduceLeDiff, Nat.reduceLT, Nat.reduceMul, Nat.reduceBEq, reduceCtorEq, Int.natCast_nonneg, Int.toNat_natCast, true_implies, implies_true, List.length_cons, List.length_nil, List.drop_succ_cons, List.drop_zero, List.take_succ_cons, List.take_zero, List.map_cons, List.map_nil, List.getD_cons_zero, List.getD_cons_succ, List.all_cons, List.all_nil, Bool.and_true, Bool.and_self, decide_true, decide_false, Bool.not_true, Bool.not_false, Bool.true_or, Bool.false_or, Bool.or_true, Bool.or_false, Bool.true_and, Bool.false_and, Bool.and_false, bytesAV_length, beq_self_eq_true, and_self, List.append_assoc, List.cons_append, List.nil_append, h0, h9, h10, h11]
        refine quiet_call _ (chk_ok w0 hM _ (hp _ (List.getElem_mem hlt'))) ?_
        have hkl : (k : Int) ≤ l.length := by omega
        have hstep := okL_drop l k hlt'
        have bad : okR (l.take k) l[k] = false → checkP l = false := fun h => by rw [ec, hok, hstep, h]; rfl
        cases h2 : (parts l[k].1).isSome with
        | false =>
          have hb : checkP l = false := bad (by simp [okR, h2])
          simp only [VC, VX, VV, SU, RC, VQ, VQ2, opW, ne_eq, not_false_eq_true, not_true_eq_false, Nat.le_refl, false_implies, reduceIte, Nat.reduceEqDiff, Nat.reduceAdd, Nat.reduceSub, Nat.reduceLeDiff, Nat.reduceLT, Nat.reduceMul, Nat.reduceBEq, reduceCtorEq, Int.natCast_nonneg, Int.toNat_natCast, true_implies, implies_true, List.length_cons, List.length_nil, List.drop_succ_cons, List.drop_zero, List.take_succ_cons, List.take_zero, List.map_cons, List.map_nil, List.getD_cons_zero, List.getD_cons_succ, List.all_cons, List.all_nil, Bool.and_true, Bool.and_self, decide_true, decide_false, Bool.not_true, Bool.not_false, Bool.true_or, Bool.false_or, Bool.or_true, Bool.or_false, Bool.true_and, Bool.false_and, Bool.and_false, bytesAV_length, beq_self_eq_true, and_self, List.append_assoc, List.cons_append, List.nil_append, errAV, eqW]
          intro st3 hle3
          rw [hb]
          exact ⟨rfl, St.le_trans hle1 hle3⟩
        | true =>
          simp only [VC, VX, VV, SU, RC, VQ, VQ2, opW, ne_eq, not_false_eq_true, not_true_eq_false, Nat.le_refl, false_implies, reduceIte, Nat.reduceEqDiff, Nat.reduceAdd, Nat.reduceSub, Nat.reduceLeDiff, Nat.reduceLT, Nat.reduceMul, Nat.reduceBEq, reduceCtorEq, Int.natCast_nonneg, Int.toNat_natCast, true_implies, implies_true, List.length_cons, List.length_nil, List.drop_succ_cons, List.drop_zero, List.take_succ_cons, List.take_zero, List.map_cons, List.map_nil, List.getD_cons_zero, List.getD_cons_succ, List.all_cons, List.all_nil, Bool.and_true, Bool.and_self, decide_true, decide_false, Bool.not_true, Bool.not_false, Bool.true_or, Bool.false_or, Bool.or_true, Bool.or_false, Bool.true_and, Bool.false_and, Bool.and_false, bytesAV_length, beq_self_eq_true, and_self, List.append_assoc, List.cons_append, List.nil_append, errAV, eqW, h0, h9, h10, h11, rulesAV_csize, rulesAV_length, hkl, Int.sub_zero]
          refine ⟨⟨by omega, by omega, by omega⟩, ?_⟩
          have ht : List.take (k - Int.toNat 0) (List.drop (Int.toNat 0) (rulesAV l)) = rulesAV (l.take k) := by simp [rulesAV]
          rw [ht]
          refine quiet_call _ (has_ok w0 .sh (l.take k) (by simp; omega) _) ?_
          cases h3 : hasP (l.take k) l[k].1 with
          | true =>
            have hb : checkP l = false := bad (by simp [okR, h3])
            simp only [VC, VX, VV, SU, RC, VQ, VQ2, opW, ne_eq, not_false_eq_true, not_true_eq_false, Nat.le_refl, false_implies, reduceIte, Nat.reduceEqDiff, Nat.reduceAdd, Nat.reduceSub, Nat.reduceLeDiff, Nat.reduceLT, Nat.reduceMul, Nat.reduceBEq, reduceCtorEq, Int.natCast_nonneg, Int.toNat_natCast, true_implies, implies_true, List.length_cons, List.length_nil, List.drop_succ_cons, List.drop_zero, List.take_succ_cons, List.take_zero, List.map_cons, List.map_nil, List.getD_cons_zero, List.getD_cons_succ, List.all_cons, List.all_nil, Bool.and_true, Bool.and_self, decide_true, decide_false, Bool.not_true, Bool.not_false, Bool.true_or, Bool.false_or, Bool.or_true, Bool.or_false, Bool.true_and, Bool.false_and, Bool.and_false, bytesAV_length, beq_self_eq_true, and_self, List.append_assoc, List.cons_append, List.nil_append]
            intro st3 hle3
            rw [hb]
            exact ⟨rfl, St.le_trans hle1 hle3⟩
          | false =>
            simp only [VC, VX, VV, SU, RC, VQ, VQ2, opW, ne_eq, not_false_eq_true, not_true_eq_false, Nat.le_refl, false_implies, reduceIte, Nat.reduceEqDiff, Nat.reduceAdd, Nat.reduceSub, Nat.reduceLeDiff, Nat.reduceLT, Nat.reduceMul, Nat.reduceBEq, reduceCtorEq, Int.natCast_nonneg, Int.toNat_natCast, true_implies, implies_true, List.length_cons, List.length_nil, List.drop_succ_cons, List.drop_zero, List.take_succ_cons, List.take_zero, List.map_cons, List.map_nil, List.getD_cons_zero, List.getD_cons_succ, List.all_cons, List.all_nil, Bool.and_true, Bool.and_self, decide_true, decide_false, Bool.not_true, Bool.not_false, Bool.true_or, Bool.false_or, Bool.or_true, Bool.or_false, Bool.true_and, Bool.false_and, Bool.and_false, bytesAV_length, beq_self_eq_true, and_self, List.append_assoc, List.cons_append, List.nil_append]
            refine quiet_call _ (may_ok w0 _) ?_
            simp only [VC, VX, VV, SU, RC, VQ, VQ2, opW, ne_eq, not_false_eq_true, not_true_eq_false, Nat.le_refl, false_implies, reduceIte, Nat.reduceEqDiff, Nat.reduceAdd, Nat.reduceSub, Nat.reduceLeDiff, Nat.reduceLT, Nat.reduceMul, Nat.reduceBEq, reduceCtorEq, Int.natCast_nonneg, Int.toNat_natCast, true_implies, implies_true, List.length_cons, List.length_nil, List.drop_succ_cons, List.drop_zero, List.take_succ_cons, List.take_zero, List.map_cons, List.map_nil, List.getD_cons_zero, List.getD_cons_succ, List.all_cons, List.all_nil, Bool.and_true, Bool.and_self, decide_true, decide_false, Bool.not_true, Bool.not_false, Bool.true_or, Bool.false_or, Bool.or_true, Bool.or_false, Bool.true_and, Bool.false_and, Bool.and_false, bytesAV_length, beq_self_eq_true, and_self, List.append_assoc, List.cons_append, List.nil_append]
            intro st3 hle3
            have hle3 := St.le_trans hle1 hle3
            cases h4 : mayC l[k].2 with
            | false =>
              have hb : checkP l = false := bad (by simp [okR, h4])
              simp only [VC, VX, VV, SU, RC, VQ, VQ2, opW, ne_eq, not_false_eq_true, not_true_eq_false, Nat.le_refl, false_implies, reduceIte, Nat.reduceEqDiff, Nat.reduceAdd, Nat.reduceSub, Nat.reduceLeDiff, Nat.reduceLT, Nat.reduceMul, Nat.reduceBEq, reduceCtorEq, Int.natCast_nonneg, Int.toNat_natCast, true_implies, implies_true, List.length_cons, List.length_nil, List.drop_succ_cons, List.drop_zero, List.take_succ_cons, List.take_zero, List.map_cons, List.map_nil, List.getD_cons_zero, List.getD_cons_succ, List.all_cons, List.all_nil, Bool.and_true, Bool.and_self, decide_true, decide_false, Bool.not_true, Bool.not_false, Bool.true_or, Bool.false_or, Bool.or_true, Bool.or_false, Bool.true_and, Bool.false_and, Bool.and_false, bytesAV_length, beq_self_eq_true, and_self, List.append_assoc, List.cons_append, List.nil_append]
              rw [hb]
              exact ⟨rfl, hle3⟩
            | true =>
              simp only [VC, VX, VV, SU, RC, VQ, VQ2, opW, ne_eq, not_false_eq_true, not_true_eq_false, Nat.le_refl, false_implies, reduceIte, Nat.reduceEqDiff, Nat.reduceAdd, Nat.reduceSub, Nat.reduceLeDiff, Nat.reduceLT, Nat.reduceMul, Nat.reduceBEq, reduceCtorEq, Int.natCast_nonneg, Int.toNat_natCast, true_implies, implies_true, List.length_cons, List.length_nil, List.drop_succ_cons, List.drop_zero, List.take_succ_cons, List.take_zero, List.map_cons, List.map_nil, List.getD_cons_zero, List.getD_cons_succ, List.all_cons, List.all_nil, Bool.and_true, Bool.and_self, decide_true, decide_false, Bool.not_true, Bool.not_false, Bool.true_or, Bool.false_or, Bool.or_true, Bool.or_false, Bool.true_and, Bool.false_and, Bool.and_false, bytesAV_length, beq_self_eq_true, and_self, List.append_assoc, List.cons_append, List.nil_append, h0, h9, h10, h11]
              refine ⟨hlt', ?_, by omega, ?_, hle3⟩
              · rw [wrap_nat (by omega)]
              · rw [hok, hstep]
                simp [okR, h2, h3, h4]
      · have hk' : k = l.length := by omega
        subst hk'
        unfold c_check_S0
        simp only [VC, VX, VV, SU, RC, VQ, VQ2, opW, ne_eq, not_false_eq_true, not_true_eq_false, Nat.le_refl, false_implies, reduceIte, Nat.reduceEqDiff, Nat.reduceAdd, Nat.reduceSub, Nat.reduceLeDiff, Nat.reduceLT, Nat.reduceMul, Nat.reduceBEq, reduceCtorEq, Int.natCast_nonneg, Int.toNat_natCast, true_implies, implies_true, List.length_cons, List.length_nil, List.drop_succ_cons, List.drop_zero, List.take_succ_cons, List.take_zero, List.map_cons, List.map_nil, List.getD_cons_zero, List.getD_cons_succ, List.all_cons, List.all_nil, Bool.and_true, Bool.and_self, decide_true, decide_false, Bool.not_true, Bool.not_false, Bool.true_or, Bool.false_or, Bool.or_true, Bool.or_false, Bool.true_and, Bool.false_and, Bool.and_false, bytesAV_length, beq_self_eq_true, and_self, List.append_assoc, List.cons_append, List.nil_append]
        have : checkP l = true := by rw [ec, hok, List.drop_length]; rfl
        rw [this]
        exact ⟨rfl, hle⟩

theorem words_ok (w0 : World) (st : St) : ACalls (cx w0) 175 [] st fun r st' => (∃ tk, r = .sl tk (strsAV wds)) ∧ st.le st' := by
  refine ACalls.of_vc (A := c_words) (is_words w0) (by simp) ?_
  unfold c_words
  simp only [VC, VX, VV, SU, RC, VQ, VQ2, opW, ne_eq, not_false_eq_true, not_true_eq_false, Nat.le_refl, false_implies, reduceIte, Nat.reduceEqDiff, Nat.reduceAdd, Nat.reduceSub, Nat.reduceLeDiff, Nat.reduceLT, Nat.reduceMul, Nat.reduceBEq, reduceCtorEq, Int.natCast_nonneg, Int.toNat_natCast, true_implies, implies_true, List.length_cons, List.length_nil, List.drop_succ_cons, List.drop_zero, List.take_succ_cons, List.take_zero, List.map_cons, List.map_nil, List.getD_cons_zero, List.getD_cons_succ, List.all_cons, List.all_nil, Bool.and_true, Bool.and_self, decide_true, decide_false, Bool.not_true, Bool.not_false, Bool.true_or, Bool.false_or, Bool.or_true, Bool.or_false, Bool.true_and, Bool.false_and, Bool.and_false, bytesAV_length, beq_self_eq_true, and_self, List.append_assoc, List.cons_append, List.nil_append]
  intro t ht
  exact ⟨⟨_, rfl⟩, St.le_upd _ _ _ ht⟩

theorem bit_shift (c : UInt8) (k : Nat) (hk : k < 6) : Int.fdiv (c.toNat : Int) (2 ^ (min k IntKind.u8.bits)) = ((c.toNat / 2 ^ k : Nat) : Int) := by
  have : min k IntKind.u8.bits = k := by simp [IntKind.bits]; omega
  rw [this]
  have h2 : (2 : Int) ^ k = ((2 ^ k : Nat) : Int) := by simp
  rw [h2]
  rw [Int.fdiv_eq_ediv_of_nonneg _ (Int.natCast_nonneg _)]
  exact (Int.natCast_ediv _ _).symm
theorem bit_and (c : UInt8) (k : Nat) : (bits .and .u8 ((c.toNat / 2 ^ k : Nat) : Int) 1 == 1) = bitOn c k := by
  have h : c.toNat / 2 ^ k < 256 := Nat.lt_of_le_of_lt (Nat.div_le_self _ _) c.toNat_lt
  have := u8_and_nat (c.toNat / 2 ^ k) 1 h (by decide)
  simp only [Nat.and_one_is_mod] at this
  rw [show ((1 : Nat) : Int) = 1 from rfl] at this
  rw [this, bitOn]
  exact ibeq _ 1

theorem wordsOf_ok (w0 : World) (c : UInt8) (st : St) : ACalls (cx w0) 84 [.int .u8 c.toNat] st fun r st' => (∃ tk, r = .sl tk (strsAV (wordsOf c))) ∧ st.le st' := by
  refine ACalls.of_vc (A := c_wordsOf) (is_wordsOf w0) (by simp) ?_
  unfold c_wordsOf
  simp only [VC, VX, VV, SU, RC, VQ, VQ2, opW, ne_eq, not_false_eq_true, not_true_eq_false, Nat.le_refl, false_implies, reduceIte, Nat.reduceEqDiff, Nat.reduceAdd, Nat.reduceSub, Nat.reduceLeDiff, Nat.reduceLT, Nat.reduceMul, Nat.reduceBEq, reduceCtorEq, Int.natCast_nonneg, Int.toNat_natCast, true_implies, implies_true, List.length_cons, List.length_nil, List.drop_succ_cons, List.drop_zero, List.take_succ_cons, List.take_zero, List.map_cons, List.map_nil, List.getD_cons_zero, List.getD_cons_succ, List.all_cons, List.all_nil, Bool.and_true, Bool.and_self, decide_true, decide_false, Bool.not_true, Bool.not_false, Bool.true_or, Bool.false_or, Bool.or_true, Bool.or_false, Bool.true_and, Bool.false_and, Bool.and_false, bytesAV_length, beq_self_eq_true, and_self, List.append_assoc, List.cons_append, List.nil_append]
  refine (words_ok w0 st).mono ?_
  rintro r st1 ⟨⟨tk, rfl⟩, hle⟩
  have h6 : (strsAV wds).length = 6 := rfl
  simp only [VC, VX, VV, SU, RC, VQ, VQ2, opW, ne_eq, not_false_eq_true, not_true_eq_false, Nat.le_refl, false_implies, reduceIte, Nat.reduceEqDiff, Nat.reduceAdd, Nat.reduceSub, Nat.reduceLeDiff, Nat.reduceLT, Nat.reduceMul, Nat.reduceBEq, reduceCtorEq, Int.natCast_nonneg, Int.toNat_natCast, true_implies, implies_true, List.length_cons, List.length_nil, List.drop_succ_cons, List.drop_zero, List.take_succ_cons, List.take_zero, List.map_cons, List.map_nil, List.getD_cons_zero, List.getD_cons_succ, List.all_cons, List.all_nil, Bool.and_true, Bool.and_self, decide_true, decide_false, Bool.not_true, Bool.not_false, Bool.true_or, Bool.false_or, Bool.or_true, Bool.or_false, Bool.true_and, Bool.false_and, Bool.and_false, bytesAV_length, beq_self_eq_true, and_self, List.append_assoc, List.cons_append, List.nil_append, h6]
  refine VLoop.up 6 (fun k e st' => e.get 0 = .int .u8 c.toNat ∧ e.get 6 = .sl tk (strsAV wds) ∧ e.get 7 = .int .i64 6 ∧ e.get 8 = .int .i64 k ∧ k ≤ 6 ∧ ∃ tk2, e.get 3 = .sl tk2 (strsAV (wordsN c k)) ∧ Acc 1 st tk2 st') ?_ ?_
  · simp only [VC, VX, VV, SU, RC, VQ, VQ2, opW, ne_eq, not_false_eq_true, not_true_eq_false, Nat.le_refl, false_implies, reduceIte, Nat.reduceEqDiff, Nat.reduceAdd, Nat.reduceSub, Nat.reduceLeDiff, Nat.reduceLT, Nat.reduceMul, Nat.reduceBEq, reduceCtorEq, Int.natCast_nonneg, Int.toNat_natCast, true_implies, implies_true, List.length_cons, List.length_nil, List.drop_succ_cons, List.drop_zero, List.take_succ_cons, List.take_zero, List.map_cons, List.map_nil, List.getD_cons_zero, List.getD_cons_succ, List.all_cons, List.all_nil, Bool.and_true, Bool.and_self, decide_true, decide_false, Bool.not_true, Bool.not_false, Bool.true_or, Bool.false_or, Bool.or_true, Bool.or_false, Bool.true_and, Bool.false_and, Bool.and_false, bytesAV_length, beq_self_eq_true, and_self, List.append_assoc, List.cons_append, List.nil_append]
    exact ⟨rfl, rfl, .nil, rfl, Acc.nil hle⟩
  · rintro k e st' ⟨h0, hh6, h7, h8, hk, tk2, h3, hacc⟩
    unfold c_wordsOf_L0
    simp only [VC, VX, VV, SU, RC, VQ, VQ2, opW, ne_eq, not_false_eq_true, not_true_eq_false, Nat.le_refl, false_implies, reduceIte, Nat.reduceEqDiff, Nat.reduceAdd, Nat.reduceSub, Nat.reduceLeDiff, Nat.reduceLT, Nat.reduceMul, Nat.reduceBEq, reduceCtorEq, Int.natCast_nonneg, Int.toNat_natCast, true_implies, implies_true, List.length_cons, List.length_nil, List.drop_succ_cons, List.drop_zero, List.take_succ_cons, List.take_zero, List.map_cons, List.map_nil, List.getD_cons_zero, List.getD_cons_succ, List.all_cons, List.all_nil, Bool.and_true, Bool.and_self, decide_true, decide_false, Bool.not_true, Bool.not_false, Bool.true_or, Bool.false_or, Bool.or_true, Bool.or_false, Bool.true_and, Bool.false_and, Bool.and_false, bytesAV_length, beq_self_eq_true, and_self, List.append_assoc, List.cons_append, List.nil_append, h0, hh6, h7, h8]
    refine VCond.dec (fun hlt => ?_) (fun hge => ?_)
    · have hlt' : k < 6 := by omega
      have hg : (strsAV wds).getD k .undef = .str (wds.getD k []) := by
        have : k < wds.length := hlt'
        simp [strsAV, List.getD_eq_getElem?_getD, this]
      have hN : ∀ b, bitOn c k = b → wordsN c (k + 1) = wordsN c k ++ (if b then [wds.getD k []] else []) := by
        intro b hb
        simp only [wordsN, List.range_succ, List.filter_append, List.map_append]
        cases b <;> simp [hb]
      have hbs := bit_shift c k hlt'
      simp only [VC, VX, VV, SU, RC, VQ, VQ2, opW, ne_eq, not_false_eq_true, not_true_eq_false, Nat.le_refl, false_implies, reduceIte, Nat.reduceEqDiff, Nat.reduceAdd, Nat.reduceSub, Nat.reduceLeDiff, Nat.reduceLT, Nat.reduceMul, Nat.reduceBEq, reduceCtorEq, Int.natCast_nonneg, Int.toNat_natCast, true_implies, implies_true, List.length_cons, List.length_nil, List.drop_succ_cons, List.drop_zero, List.take_succ_cons, List.take_zero, List.map_cons, List.map_nil, List.getD_cons_zero, List.getD_cons_succ, List.all_cons, List.all_nil, Bool.and_true, Bool.and_self, decide_true, decide_false, Bool.not_true, Bool.not_false, Bool.true_or, Bool.false_or, Bool.or_true, Bool.or_false, Bool.true_and, Bool.false_and, Bool.and_false, bytesAV_length, beq_self_eq_true, and_self, List.append_assoc, List.cons_append, List.nil_append, h0, hh6, h7, h8, hlt, hg, h6, hbs, bit_and]
      refine ⟨by omega, ?_⟩
      cases hb : bitOn c k with
      | true =>
        simp only [VC, VX, VV, SU, RC, VQ, VQ2, opW, ne_eq, not_false_eq_true, not_true_eq_false, Nat.le_refl, false_implies, reduceIte, Nat.reduceEqDiff, Nat.reduceAdd, Nat.reduceSub, Nat.reduceLeDiff, Nat.reduceLT, Nat.reduceMul, Nat.reduceBEq, reduceCtorEq, Int.natCast_nonneg, Int.toNat_natCast, true_implies, implies_true, List.length_cons, List.length_nil, List.drop_succ_cons, List.drop_zero, List.take_succ_cons, List.take_zero, List.map_cons, List.map_nil, List.getD_cons_zero, List.getD_cons_succ, List.all_cons, List.all_nil, Bool.and_true, Bool.and_self, decide_true, decide_false, Bool.not_true, Bool.not_false, Bool.true_or, Bool.false_or, Bool.or_true, Bool.or_false, Bool.true_and, Bool.false_and, Bool.and_false, bytesAV_length, beq_self_eq_true, and_self, List.append_assoc, List.cons_append, List.nil_append, h0, hh6, h7, h8, h3]
        intro t ht
        have hacc := hacc.new .tok ht
        refine ⟨hacc.1, by simp [strsAV, AV.csize, AV.cells], ⟨?_, ?_⟩, fun tk' st4 a1 a2 a3 => ⟨hlt', by rw [wrap_nat (by omega)], by omega, tk', ?_, hacc.app a1 a2 a3⟩⟩
        · have : (strsAV (wordsN c k)).length ≤ k := by
            simp only [strsAV, wordsN, List.length_map]
            exact Nat.le_trans (List.length_filter_le _ _) (by simp)
          omega
        · have : (strsAV (wordsN c k)).length ≤ k := by
            simp only [strsAV, wordsN, List.length_map]
            exact Nat.le_trans (List.length_filter_le _ _) (by simp)
          unfold maxLen
          omega
        · rw [hN true hb]; simp [strsAV]
      | false =>
        simp only [VC, VX, VV, SU, RC, VQ, VQ2, opW, ne_eq, not_false_eq_true, not_true_eq_false, Nat.le_refl, false_implies, reduceIte, Nat.reduceEqDiff, Nat.reduceAdd, Nat.reduceSub, Nat.reduceLeDiff, Nat.reduceLT, Nat.reduceMul, Nat.reduceBEq, reduceCtorEq, Int.natCast_nonneg, Int.toNat_natCast, true_implies, implies_true, List.length_cons, List.length_nil, List.drop_succ_cons, List.drop_zero, List.take_succ_cons, List.take_zero, List.map_cons, List.map_nil, List.getD_cons_zero, List.getD_cons_succ, List.all_cons, List.all_nil, Bool.and_true, Bool.and_self, decide_true, decide_false, Bool.not_true, Bool.not_false, Bool.true_or, Bool.false_or, Bool.or_true, Bool.or_false, Bool.true_and, Bool.false_and, Bool.and_false, bytesAV_length, beq_self_eq_true, and_self, List.append_assoc, List.cons_append, List.nil_append, h0, hh6, h7, h8, h3]
        refine ⟨hlt', by rw [wrap_nat (by omega)], by omega, tk2, ?_, hacc⟩
        rw [hN false hb]; simp
    · have hk' : k = 6 := by omega
      subst hk'
      unfold c_wordsOf_S0
      simp only [VC, VX, VV, SU, RC, VQ, VQ2, opW, ne_eq, not_false_eq_true, not_true_eq_false, Nat.le_refl, false_implies, reduceIte, Nat.reduceEqDiff, Nat.reduceAdd, Nat.reduceSub, Nat.reduceLeDiff, Nat.reduceLT, Nat.reduceMul, Nat.reduceBEq, reduceCtorEq, Int.natCast_nonneg, Int.toNat_natCast, true_implies, implies_true, List.length_cons, List.length_nil, List.drop_succ_cons, List.drop_zero, List.take_succ_cons, List.take_zero, List.map_cons, List.map_nil, List.getD_cons_zero, List.getD_cons_succ, List.all_cons, List.all_nil, Bool.and_true, Bool.and_self, decide_true, decide_false, Bool.not_true, Bool.not_false, Bool.true_or, Bool.false_or, Bool.or_true, Bool.or_false, Bool.true_and, Bool.false_and, Bool.and_false, bytesAV_length, beq_self_eq_true, and_self, List.append_assoc, List.cons_append, List.nil_append, h3]
      exact ⟨⟨tk2, rfl⟩, hacc.2.1⟩
end Go.Proofs.YtiipkbkoigcabaaDoor
