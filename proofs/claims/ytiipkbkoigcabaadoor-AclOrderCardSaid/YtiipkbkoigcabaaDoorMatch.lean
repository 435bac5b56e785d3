/- Package path: what a pattern means, and which says more. No condition. -/
import Derived.Test.YtiipkbkoigcabaaDoorPath
namespace Go.Proofs.YtiipkbkoigcabaaDoor
open Go Go.AW Go.RowKit Go.Proofs Go.Lib
set_option linter.unusedVariables false
set_option linter.unusedSimpArgs false

/-- (bursary/path.part).means: function 213. -/
def c_means : ACode := .seq (.ops [⟨some 2, .box 2 (.t 0), none⟩, ⟨some 4, .mv (.c (.bool false)), none⟩]) (.seq (.seq (.ops [⟨some 5, .faddr 0 (.t 2), none⟩, ⟨some 6, .load false 1 (.t 5), none⟩]) (.block 0 (.seq (.ops [⟨some 8, .cmp .eql (.t 6) (.c (.int .i64 2)), none⟩, ⟨some 7, .mv (.t 8), none⟩]) (.cond (.t 7) (.seq (.ops [⟨some 4, .mv (.c (.bool true)), none⟩]) .ret) (.seq (.ops [⟨some 10, .cmp .eql (.t 6) (.c (.int .i64 1)), none⟩, ⟨some 9, .mv (.t 10), none⟩]) (.cond (.t 9) (.seq (.ops [⟨some 11, .mv (.t 1), none⟩, ⟨some 12, .faddr 1 (.t 2), none⟩, ⟨some 13, .load false 1 (.t 12), none⟩, ⟨some 14, .call (.f 188) [.t 11, .t 13], none⟩, ⟨some 4, .mv (.t 14), none⟩]) .ret) .skip)))))) (.seq (.ops [⟨some 15, .faddr 1 (.t 2), none⟩, ⟨some 16, .load false 1 (.t 15), none⟩, ⟨some 17, .mv (.t 1), none⟩, ⟨some 18, .cmp .eql (.t 16) (.t 17), none⟩, ⟨some 4, .mv (.t 18), none⟩]) .ret))
theorem is_means (w0 : World) : fnComp (cx w0).P 213 = some (erase c_means, [.t 4], 19) := by kernel_rfl
/-- bursary/path.Match: function 155. -/
def c_match_L0 : ACode := .seq (.ops [⟨some 34, .cmp .lss (.t 33) (.t 32), none⟩]) (.seq (.cond (.t 34) .skip (.exit 0)) (.seq (.block 1 (.seq (.ops [⟨some 35, .mv (.t 33), none⟩, ⟨some 36, .iaddr 2 (.t 31) (.t 33), none⟩, ⟨some 37, .load true 2 (.t 36), none⟩, ⟨some 9, .alloc [.int .i64 0, .str []], none⟩, ⟨some 8, .mv (.t 35), none⟩, ⟨none, .store 2 (.t 9) (.t 37), none⟩]) (.seq (.draw [⟨some 38, .load true 2 (.t 9), none⟩, ⟨some 39, .mv (.t 7), none⟩, ⟨some 40, .mv (.t 8), none⟩, ⟨some 41, .iaddr 1 (.t 39) (.t 40), none⟩, ⟨some 42, .load false 1 (.t 41), none⟩, ⟨some 43, .call (.f 213) [.t 38, .t 42], none⟩, ⟨some 44, .un .not (.t 43), none⟩]) (.cond (.t 44) (.seq (.ops [⟨some 4, .mv (.c (.bool false)), none⟩]) .ret) .skip)))) (.ops [⟨some 45, .arith .add (.t 33) (.c (.int .i64 1)), none⟩, ⟨some 33, .mv (.t 45), none⟩])))
def c_match_S0 : ACode := .seq (.ops [⟨some 46, .mv (.t 7), none⟩, ⟨some 47, .len (.t 46), none⟩, ⟨some 48, .mv (.t 5), none⟩, ⟨some 49, .len (.t 48), none⟩, ⟨some 50, .cmp .eql (.t 47) (.t 49), none⟩, ⟨some 51, .mv (.t 50), none⟩, ⟨some 52, .mv (.t 5), some (51, false)⟩, ⟨some 53, .mv (.t 5), some (51, false)⟩, ⟨some 54, .len (.t 53), some (51, false)⟩, ⟨some 55, .arith .sub (.t 54) (.c (.int .i64 1)), some (51, false)⟩, ⟨some 56, .iaddr 2 (.t 52) (.t 55), some (51, false)⟩, ⟨some 57, .faddr 0 (.t 56), some (51, false)⟩, ⟨some 58, .load false 1 (.t 57), some (51, false)⟩, ⟨some 59, .cmp .eql (.t 58) (.c (.int .i64 1)), some (51, false)⟩, ⟨some 60, .pick (.t 51) (.c (.bool true)) (.t 59), none⟩, ⟨some 4, .mv (.t 60), none⟩]) .ret
def c_match : ACode := .seq (.ops [⟨some 4, .mv (.c (.bool false)), none⟩]) (.seq (.ops [⟨some 11, .mv (.t 0), none⟩, ⟨some 12, .call (.f 211) [.t 11], none⟩, ⟨some 10, .mv (.t 12), none⟩, ⟨some 13, .ext (.t 10) 0, none⟩, ⟨some 14, .ext (.t 10) 1, none⟩, ⟨some 5, .mv (.t 13), none⟩, ⟨some 6, .mv (.t 14), none⟩]) (.seq (.seq (.ops [⟨some 15, .mv (.t 6), none⟩, ⟨some 16, .eqv 4 true (.t 15) (.c .niliface), none⟩]) (.cond (.t 16) (.seq (.ops [⟨some 4, .mv (.c (.bool false)), none⟩]) .ret) .skip)) (.seq (.ops [⟨some 18, .mv (.t 1), none⟩, ⟨some 19, .call (.f 212) [.t 18], none⟩, ⟨some 17, .mv (.t 19), none⟩, ⟨some 20, .ext (.t 17) 0, none⟩, ⟨some 21, .ext (.t 17) 1, none⟩, ⟨some 7, .mv (.t 20), none⟩, ⟨some 6, .mv (.t 21), none⟩]) (.seq (.seq (.ops [⟨some 22, .mv (.t 6), none⟩, ⟨some 23, .eqv 4 true (.t 22) (.c .niliface), none⟩, ⟨some 24, .mv (.t 23), none⟩, ⟨some 25, .mv (.t 7), some (24, false)⟩, ⟨some 26, .len (.t 25), some (24, false)⟩, ⟨some 27, .mv (.t 5), some (24, false)⟩, ⟨some 28, .len (.t 27), some (24, false)⟩, ⟨some 29, .cmp .lss (.t 26) (.t 28), some (24, false)⟩, ⟨some 30, .pick (.t 24) (.c (.bool true)) (.t 29), none⟩]) (.cond (.t 30) (.seq (.ops [⟨some 4, .mv (.c (.bool false)), none⟩]) .ret) .skip)) (.seq (.seq (.ops [⟨some 31, .mv (.t 5), none⟩, ⟨some 32, .len (.t 31), none⟩, ⟨some 33, .mv (.c (.int .i64 0)), none⟩]) (.block 0 (.loop c_match_L0))) c_match_S0)))))
theorem is_match (w0 : World) : fnComp (cx w0).P 155 = some (erase c_match, [.t 4], 61) := by kernel_rfl
/-- bursary/path.at: function 215. -/
def c_at : ACode := .seq (.ops [⟨some 4, .mv (.c (.int .i64 0)), none⟩]) (.seq (.seq (.ops [⟨some 5, .mv (.t 1), none⟩, ⟨some 6, .mv (.t 0), none⟩, ⟨some 7, .len (.t 6), none⟩, ⟨some 8, .cmp .lss (.t 5) (.t 7), none⟩]) (.cond (.t 8) (.seq (.ops [⟨some 9, .mv (.t 0), none⟩, ⟨some 10, .mv (.t 1), none⟩, ⟨some 11, .iaddr 2 (.t 9) (.t 10), none⟩, ⟨some 12, .faddr 0 (.t 11), none⟩, ⟨some 13, .load false 1 (.t 12), none⟩, ⟨some 4, .mv (.t 13), none⟩]) .ret) .skip)) (.seq (.ops [⟨some 4, .mv (.c (.int .i64 0)), none⟩]) .ret))
theorem is_at (w0 : World) : fnComp (cx w0).P 215 = some (erase c_at, [.t 4], 14) := by kernel_rfl
/-- bursary/path.More: function 156. -/
def c_more_L0 : ACode := .seq (.ops [⟨some 30, .cmp .lss (.t 29) (.t 28), none⟩]) (.seq (.cond (.t 30) .skip (.exit 0)) (.seq (.block 1 (.seq (.ops [⟨some 31, .mv (.t 29), none⟩, ⟨some 8, .mv (.t 31), none⟩]) (.seq (.ops [⟨some 32, .mv (.t 5), none⟩, ⟨some 33, .mv (.t 8), none⟩, ⟨some 34, .call (.f 215) [.t 32, .t 33], none⟩, ⟨some 35, .mv (.t 7), none⟩, ⟨some 36, .mv (.t 8), none⟩, ⟨some 37, .call (.f 215) [.t 35, .t 36], none⟩, ⟨some 38, .call (.f 214) [.t 34, .t 37], none⟩, ⟨some 9, .mv (.t 38), none⟩]) (.seq (.ops [⟨some 39, .mv (.t 9), none⟩, ⟨some 40, .cmp .neq (.t 39) (.c (.int .i64 0)), none⟩]) (.cond (.t 40) (.seq (.ops [⟨some 41, .mv (.t 9), none⟩, ⟨some 4, .mv (.t 41), none⟩]) .ret) .skip))))) (.ops [⟨some 42, .arith .add (.t 29) (.c (.int .i64 1)), none⟩, ⟨some 29, .mv (.t 42), none⟩])))
def c_more_S0 : ACode := .seq (.seq (.ops [⟨some 43, .mv (.t 5), none⟩, ⟨some 44, .mv (.t 5), none⟩, ⟨some 45, .len (.t 44), none⟩, ⟨some 46, .arith .sub (.t 45) (.c (.int .i64 1)), none⟩, ⟨some 47, .iaddr 2 (.t 43) (.t 46), none⟩, ⟨some 48, .faddr 0 (.t 47), none⟩, ⟨some 49, .load false 1 (.t 48), none⟩, ⟨some 50, .cmp .neq (.t 49) (.c (.int .i64 1)), none⟩]) (.cond (.t 50) (.seq (.ops [⟨some 4, .mv (.c (.int .i64 0)), none⟩]) .ret) .skip)) (.seq (.draw [⟨some 51, .mv (.t 5), none⟩, ⟨some 52, .mv (.t 5), none⟩, ⟨some 53, .len (.t 52), none⟩, ⟨some 54, .arith .sub (.t 53) (.c (.int .i64 1)), none⟩, ⟨some 55, .iaddr 2 (.t 51) (.t 54), none⟩, ⟨some 56, .faddr 1 (.t 55), none⟩, ⟨some 57, .load false 1 (.t 56), none⟩, ⟨some 58, .lenS (.t 57), none⟩, ⟨some 59, .mv (.t 7), none⟩, ⟨some 60, .mv (.t 7), none⟩, ⟨some 61, .len (.t 60), none⟩, ⟨some 62, .arith .sub (.t 61) (.c (.int .i64 1)), none⟩, ⟨some 63, .iaddr 2 (.t 59) (.t 62), none⟩, ⟨some 64, .faddr 1 (.t 63), none⟩, ⟨some 65, .load false 1 (.t 64), none⟩, ⟨some 66, .lenS (.t 65), none⟩, ⟨some 67, .call (.f 214) [.t 58, .t 66], none⟩, ⟨some 4, .mv (.t 67), none⟩]) .ret)
def c_more : ACode := .seq (.ops [⟨some 4, .mv (.c (.int .i64 0)), none⟩]) (.seq (.ops [⟨some 11, .mv (.t 0), none⟩, ⟨some 12, .call (.f 211) [.t 11], none⟩, ⟨some 10, .mv (.t 12), none⟩, ⟨some 13, .ext (.t 10) 0, none⟩, ⟨some 14, .ext (.t 10) 1, none⟩, ⟨some 5, .mv (.t 13), none⟩, ⟨some 6, .mv (.t 14), none⟩]) (.seq (.seq (.ops [⟨some 15, .mv (.t 6), none⟩, ⟨some 16, .eqv 4 true (.t 15) (.c .niliface), none⟩]) (.cond (.t 16) (.seq (.ops [⟨some 4, .mv (.c (.int .i64 0)), none⟩]) .ret) .skip)) (.seq (.ops [⟨some 18, .mv (.t 1), none⟩, ⟨some 19, .call (.f 211) [.t 18], none⟩, ⟨some 17, .mv (.t 19), none⟩, ⟨some 20, .ext (.t 17) 0, none⟩, ⟨some 21, .ext (.t 17) 1, none⟩, ⟨some 7, .mv (.t 20), none⟩, ⟨some 6, .mv (.t 21), none⟩]) (.seq (.seq (.ops [⟨some 22, .mv (.t 6), none⟩, ⟨some 23, .eqv 4 true (.t 22) (.c .niliface), none⟩]) (.cond (.t 23) (.seq (.ops [⟨some 4, .mv (.c (.int .i64 0)), none⟩]) .ret) .skip)) (.seq (.seq (.ops [⟨some 24, .mv (.t 5), none⟩, ⟨some 25, .len (.t 24), none⟩, ⟨some 26, .mv (.t 7), none⟩, ⟨some 27, .len (.t 26), none⟩, ⟨some 28, .max2 (.t 25) (.t 27), none⟩, ⟨some 29, .mv (.c (.int .i64 0)), none⟩]) (.block 0 (.loop c_more_L0))) c_more_S0)))))
theorem is_more (w0 : World) : fnComp (cx w0).P 156 = some (erase c_more, [.t 4], 68) := by kernel_rfl

theorem means_ok (w0 : World) (x : Part) (s : Bs) : PC w0 213 [partAV x, .str s] (.bool (means x s)) := by
  intro st
  refine ACalls.of_vc (A := c_means) (is_means w0) (by simp) ?_
  unfold c_means
  simp only [partAV]
  simp only [VC, VX, VV, SU, RC, VQ, VQ2, opW, ne_eq, not_false_eq_true, not_true_eq_false, Nat.le_refl, false_implies, reduceIte, Nat.reduceEqDiff, Nat.reduceAdd, Nat.reduceSub, Nat.reduceLeDiff, Nat.reduceLT, Nat.reduceMul, Nat.reduceBEq, reduceCtorEq, Int.natCast_nonneg, Int.toNat_natCast, true_implies, implies_true, List.length_cons, List.length_nil, List.drop_succ_cons, List.drop_zero, List.take_succ_cons, List.take_zero, List.map_cons, List.map_nil, List.getD_cons_zero, List.getD_cons_succ, List.all_cons, List.all_nil, Bool.and_true, Bool.and_self, decide_true, decide_false, Bool.not_true, Bool.not_false, Bool.true_or, Bool.false_or, Bool.or_true, Bool.or_false, Bool.true_and, Bool.false_and, Bool.and_false, bytesAV_length, beq_self_eq_true, and_self, List.append_assoc, List.cons_append, List.nil_append]
  intro id hid
  by_cases h1 : x.1 = 2
  · have h1' : ((x.1 : Int) == 2) = true := by rw [h1]; rfl
    simp only [VC, VX, VV, SU, RC, VQ, VQ2, opW, ne_eq, not_false_eq_true, not_true_eq_false, Nat.le_refl, false_implies, reduceIte, Nat.reduceEqDiff, Nat.reduceAdd, Nat.reduceSub, Nat.reduceLeDiff, Nat.reduceLT, Nat.reduceMul, Nat.reduceBEq, reduceCtorEq, Int.natCast_nonneg, Int.toNat_natCast, true_implies, implies_true, List.length_cons, List.length_nil, List.drop_succ_cons, List.drop_zero, List.take_succ_cons, List.take_zero, List.map_cons, List.map_nil, List.getD_cons_zero, List.getD_cons_succ, List.all_cons, List.all_nil, Bool.and_true, Bool.and_self, decide_true, decide_false, Bool.not_true, Bool.not_false, Bool.true_or, Bool.false_or, Bool.or_true, Bool.or_false, Bool.true_and, Bool.false_and, Bool.and_false, bytesAV_length, beq_self_eq_true, and_self, List.append_assoc, List.cons_append, List.nil_append, h1']
    exact ⟨by simp [means, h1], St.le_upd _ _ _ hid⟩
  · have h1' : ((x.1 : Int) == 2) = false := by simp; omega
    simp only [VC, VX, VV, SU, RC, VQ, VQ2, opW, ne_eq, not_false_eq_true, not_true_eq_false, Nat.le_refl, false_implies, reduceIte, Nat.reduceEqDiff, Nat.reduceAdd, Nat.reduceSub, Nat.reduceLeDiff, Nat.reduceLT, Nat.reduceMul, Nat.reduceBEq, reduceCtorEq, Int.natCast_nonneg, Int.toNat_natCast, true_implies, implies_true, List.length_cons, List.length_nil, List.drop_succ_cons, List.drop_zero, List.take_succ_cons, List.take_zero, List.map_cons, List.map_nil, List.getD_cons_zero, List.getD_cons_succ, List.all_cons, List.all_nil, Bool.and_true, Bool.and_self, decide_true, decide_false, Bool.not_true, Bool.not_false, Bool.true_or, Bool.false_or, Bool.or_true, Bool.or_false, Bool.true_and, Bool.false_and, Bool.and_false, bytesAV_length, beq_self_eq_true, and_self, List.append_assoc, List.cons_append, List.nil_append, h1']
    by_cases h2 : x.1 = 1
    · have h2' : ((x.1 : Int) == 1) = true := by rw [h2]; rfl
      simp only [VC, VX, VV, SU, RC, VQ, VQ2, opW, ne_eq, not_false_eq_true, not_true_eq_false, Nat.le_refl, false_implies, reduceIte, Nat.reduceEqDiff, Nat.reduceAdd, Nat.reduceSub, Nat.reduceLeDiff, Nat.reduceLT, Nat.reduceMul, Nat.reduceBEq, reduceCtorEq, Int.natCast_nonneg, Int.toNat_natCast, true_implies, implies_true, List.length_cons, List.length_nil, List.drop_succ_cons, List.drop_zero, List.take_succ_cons, List.take_zero, List.map_cons, List.map_nil, List.getD_cons_zero, List.getD_cons_succ, List.all_cons, List.all_nil, Bool.and_true, Bool.and_self, decide_true, decide_false, Bool.not_true, Bool.not_false, Bool.true_or, Bool.false_or, Bool.or_true, Bool.or_false, Bool.true_and, Bool.false_and, Bool.and_false, bytesAV_length, beq_self_eq_true, and_self, List.append_assoc, List.cons_append, List.nil_append, h2']
      refine (hp_ok w0 _ _ _).mono ?_
      rintro r st1 ⟨rfl, hle⟩
      simp only [VC, VX, VV, SU, RC, VQ, VQ2, opW, ne_eq, not_false_eq_true, not_true_eq_false, Nat.le_refl, false_implies, reduceIte, Nat.reduceEqDiff, Nat.reduceAdd, Nat.reduceSub, Nat.reduceLeDiff, Nat.reduceLT, Nat.reduceMul, Nat.reduceBEq, reduceCtorEq, Int.natCast_nonneg, Int.toNat_natCast, true_implies, implies_true, List.length_cons, List.length_nil, List.drop_succ_cons, List.drop_zero, List.take_succ_cons, List.take_zero, List.map_cons, List.map_nil, List.getD_cons_zero, List.getD_cons_succ, List.all_cons, List.all_nil, Bool.and_true, Bool.and_self, decide_true, decide_false, Bool.not_true, Bool.not_false, Bool.true_or, Bool.false_or, Bool.or_true, Bool.or_false, Bool.true_and, Bool.false_and, Bool.and_false, bytesAV_length, beq_self_eq_true, and_self, List.append_assoc, List.cons_append, List.nil_append]
      exact ⟨by simp [means, h2], St.le_trans (St.le_upd _ _ _ hid) hle⟩
    · have h2' : ((x.1 : Int) == 1) = false := by simp; omega
      simp only [VC, VX, VV, SU, RC, VQ, VQ2, opW, ne_eq, not_false_eq_true, not_true_eq_false, Nat.le_refl, false_implies, reduceIte, Nat.reduceEqDiff, Nat.reduceAdd, Nat.reduceSub, Nat.reduceLeDiff, Nat.reduceLT, Nat.reduceMul, Nat.reduceBEq, reduceCtorEq, Int.natCast_nonneg, Int.toNat_natCast, true_implies, implies_true, List.length_cons, List.length_nil, List.drop_succ_cons, List.drop_zero, List.take_succ_cons, List.take_zero, List.map_cons, List.map_nil, List.getD_cons_zero, List.getD_cons_succ, List.all_cons, List.all_nil, Bool.and_true, Bool.and_self, decide_true, decide_false, Bool.not_true, Bool.not_false, Bool.true_or, Bool.false_or, Bool.or_true, Bool.or_false, Bool.true_and, Bool.false_and, Bool.and_false, bytesAV_length, beq_self_eq_true, and_self, List.append_assoc, List.cons_append, List.nil_append, h2']
      exact ⟨by simp [means, h1, h2], St.le_upd _ _ _ hid⟩
theorem at_ok (w0 : World) (tk : Tk) (l : List Part) (i : Nat) : PC w0 215 [.sl tk (l.map partAV), .int .i64 i] (.int .i64 (atP l i)) := by
  intro st
  refine ACalls.of_vc (A := c_at) (is_at w0) (by simp) ?_
  unfold c_at
  simp only [VC, VX, VV, SU, RC, VQ, VQ2, opW, ne_eq, not_false_eq_true, not_true_eq_false, Nat.le_refl, false_implies, reduceIte, Nat.reduceEqDiff, Nat.reduceAdd, Nat.reduceSub, Nat.reduceLeDiff, Nat.reduceLT, Nat.reduceMul, Nat.reduceBEq, reduceCtorEq, Int.natCast_nonneg, Int.toNat_natCast, true_implies, implies_true, List.length_cons, List.length_nil, List.drop_succ_cons, List.drop_zero, List.take_succ_cons, List.take_zero, List.map_cons, List.map_nil, List.getD_cons_zero, List.getD_cons_succ, List.all_cons, List.all_nil, Bool.and_true, Bool.and_self, decide_true, decide_false, Bool.not_true, Bool.not_false, Bool.true_or, Bool.false_or, Bool.or_true, Bool.or_false, Bool.true_and, Bool.false_and, Bool.and_false, bytesAV_length, beq_self_eq_true, and_self, List.append_assoc, List.cons_append, List.nil_append]
  refine VCond.dec (fun h => ?_) (fun h => ?_)
  · have h' : i < l.length := by simpa using h
    have hg : (l.map partAV).getD i .undef = partAV l[i] := by simp [List.getD_eq_getElem?_getD, h']
    simp only [VC, VX, VV, SU, RC, VQ, VQ2, opW, ne_eq, not_false_eq_true, not_true_eq_false, Nat.le_refl, false_implies, reduceIte, Nat.reduceEqDiff, Nat.reduceAdd, Nat.reduceSub, Nat.reduceLeDiff, Nat.reduceLT, Nat.reduceMul, Nat.reduceBEq, reduceCtorEq, Int.natCast_nonneg, Int.toNat_natCast, true_implies, implies_true, List.length_cons, List.length_nil, List.drop_succ_cons, List.drop_zero, List.take_succ_cons, List.take_zero, List.map_cons, List.map_nil, List.getD_cons_zero, List.getD_cons_succ, List.all_cons, List.all_nil, Bool.and_true, Bool.and_self, decide_true, decide_false, Bool.not_true, Bool.not_false, Bool.true_or, Bool.false_or, Bool.or_true, Bool.or_false, Bool.true_and, Bool.false_and, Bool.and_false, bytesAV_length, beq_self_eq_true, and_self, List.append_assoc, List.cons_append, List.nil_append, hg, partAV]
    refine ⟨by simpa using h', ?_, St.le_refl _⟩
    simp [atP, h']
  · have h' : ¬ i < l.length := by simpa using h
    simp only [VC, VX, VV, SU, RC, VQ, VQ2, opW, ne_eq, not_false_eq_true, not_true_eq_false, Nat.le_refl, false_implies, reduceIte, Nat.reduceEqDiff, Nat.reduceAdd, Nat.reduceSub, Nat.reduceLeDiff, Nat.reduceLT, Nat.reduceMul, Nat.reduceBEq, reduceCtorEq, Int.natCast_nonneg, Int.toNat_natCast, true_implies, implies_true, List.length_cons, List.length_nil, List.drop_succ_cons, List.drop_zero, List.take_succ_cons, List.take_zero, List.map_cons, List.map_nil, List.getD_cons_zero, List.getD_cons_succ, List.all_cons, List.all_nil, Bool.and_true, Bool.and_self, decide_true, decide_false, Bool.not_true, Bool.not_false, Bool.true_or, Bool.false_or, Bool.or_true, Bool.or_false, Bool.true_and, Bool.false_and, Bool.and_false, bytesAV_length, beq_self_eq_true, and_self, List.append_assoc, List.cons_append, List.nil_append]
    refine ⟨?_, St.le_refl _⟩
    simp [atP, List.getElem?_eq_none (Nat.le_of_not_lt h')]

theorem parts_ne {s : Bs} {l : List Part} (h : parts s = some l) : l ≠ [] := by
  unfold parts at h
  split at h
  · cases hc : cut 47 s with
    | nil => exact absurd hc (cut_ne 47 s)
    | cons a r =>
      rw [hc, partsL] at h
      split at h
      · cases hp : partsL r <;> simp [hp] at h
        subst h; simp
      · cases h
  · cases h
theorem partsL_len : ∀ {L : List Bs} {l : List Part}, partsL L = some l → l.length = L.length
  | [], l, h => by cases h; rfl
  | s :: r, l, h => by
    rw [partsL] at h
    split at h
    · cases hp : partsL r <;> simp [hp] at h
      subst h; simp [partsL_len hp]
    · cases h
theorem parts_len {s : Bs} {l : List Part} (h : parts s = some l) : l.length ≤ 6 ∧ l.length = (cut 47 s).length := by
  unfold parts at h
  split at h
  · rename_i h1
    have := partsL_len h
    omega
  · cases h
theorem splitP_len {s : Bs} {l : List Bs} (h : splitP s = some l) : l.length ≤ 6 ∧ l = cut 47 s := by
  unfold splitP at h
  split at h
  · rename_i h1
    cases h
    exact ⟨h1.1, rfl⟩
  · cases h

theorem match_ok (w0 : World) (hM : Mx w0) (s p : Bs) (hs : s.length < 4294967281) (hp : p.length < 4294967281) : PC w0 155 [.str s, .str p] (.bool (matchP s p)) := by
  intro st
  refine ACalls.of_vc (A := c_match) (is_match w0) (by simp) ?_
  unfold c_match
  simp only [VC, VX, VV, SU, RC, VQ, VQ2, opW, ne_eq, not_false_eq_true, not_true_eq_false, Nat.le_refl, false_implies, reduceIte, Nat.reduceEqDiff, Nat.reduceAdd, Nat.reduceSub, Nat.reduceLeDiff, Nat.reduceLT, Nat.reduceMul, Nat.reduceBEq, reduceCtorEq, Int.natCast_nonneg, Int.toNat_natCast, true_implies, implies_true, List.length_cons, List.length_nil, List.drop_succ_cons, List.drop_zero, List.take_succ_cons, List.take_zero, List.map_cons, List.map_nil, List.getD_cons_zero, List.getD_cons_succ, List.all_cons, List.all_nil, Bool.and_true, Bool.and_self, decide_true, decide_false, Bool.not_true, Bool.not_false, Bool.true_or, Bool.false_or, Bool.or_true, Bool.or_false, Bool.true_and, Bool.false_and, Bool.and_false, bytesAV_length, beq_self_eq_true, and_self, List.append_assoc, List.cons_append, List.nil_append]
  refine (parts_ok w0 hM s hs st).mono ?_
  rintro r st1 ⟨hle1, h⟩
  cases hps : parts s with
  | none =>
    rw [hps] at h
    subst h
    simp only [VC, VX, VV, SU, RC, VQ, VQ2, opW, ne_eq, not_false_eq_true, not_true_eq_false, Nat.le_refl, false_implies, reduceIte, Nat.reduceEqDiff, Nat.reduceAdd, Nat.reduceSub, Nat.reduceLeDiff, Nat.reduceLT, Nat.reduceMul, Nat.reduceBEq, reduceCtorEq, Int.natCast_nonneg, Int.toNat_natCast, true_implies, implies_true, List.length_cons, List.length_nil, List.drop_succ_cons, List.drop_zero, List.take_succ_cons, List.take_zero, List.map_cons, List.map_nil, List.getD_cons_zero, List.getD_cons_succ, List.all_cons, List.all_nil, Bool.and_true, Bool.and_self, decide_true, decide_false, Bool.not_true, Bool.not_false, Bool.true_or, Bool.false_or, Bool.or_true, Bool.or_false, Bool.true_and, Bool.false_and, Bool.and_false, bytesAV_length, beq_self_eq_true, and_self, List.append_assoc, List.cons_append, List.nil_append, errAV, eqW]
    exact ⟨by simp [matchP, hps], hle1⟩
  | some l =>
    rw [hps] at h
    obtain ⟨tk, rfl⟩ := h
    simp only [VC, VX, VV, SU, RC, VQ, VQ2, opW, ne_eq, not_false_eq_true, not_true_eq_false, Nat.le_refl, false_implies, reduceIte, Nat.reduceEqDiff, Nat.reduceAdd, Nat.reduceSub, Nat.reduceLeDiff, Nat.reduceLT, Nat.reduceMul, Nat.reduceBEq, reduceCtorEq, Int.natCast_nonneg, Int.toNat_natCast, true_implies, implies_true, List.length_cons, List.length_nil, List.drop_succ_cons, List.drop_zero, List.take_succ_cons, List.take_zero, List.map_cons, List.map_nil, List.getD_cons_zero, List.getD_cons_succ, List.all_cons, List.all_nil, Bool.and_true, Bool.and_self, decide_true, decide_false, Bool.not_true, Bool.not_false, Bool.true_or, Bool.false_or, Bool.or_true, Bool.or_false, Bool.true_and, Bool.false_and, Bool.and_false, bytesAV_length, beq_self_eq_true, and_self, List.append_assoc, List.cons_append, List.nil_append, errAV, eqW]
    refine (psplit_ok w0 hM p hp st1).mono ?_
    rintro r st2 ⟨rfl, hle2⟩
    have hle2 := St.le_trans hle1 hle2
    cases hpp : splitP p with
    | none =>
      simp only [VC, VX, VV, SU, RC, VQ, VQ2, opW, ne_eq, not_false_eq_true, not_true_eq_false, Nat.le_refl, false_implies, reduceIte, Nat.reduceEqDiff, Nat.reduceAdd, Nat.reduceSub, Nat.reduceLeDiff, Nat.reduceLT, Nat.reduceMul, Nat.reduceBEq, reduceCtorEq, Int.natCast_nonneg, Int.toNat_natCast, true_implies, implies_true, List.length_cons, List.length_nil, List.drop_succ_cons, List.drop_zero, List.take_succ_cons, List.take_zero, List.map_cons, List.map_nil, List.getD_cons_zero, List.getD_cons_succ, List.all_cons, List.all_nil, Bool.and_true, Bool.and_self, decide_true, decide_false, Bool.not_true, Bool.not_false, Bool.true_or, Bool.false_or, Bool.or_true, Bool.or_false, Bool.true_and, Bool.false_and, Bool.and_false, bytesAV_length, beq_self_eq_true, and_self, List.append_assoc, List.cons_append, List.nil_append, errAV, eqW]
      exact ⟨by simp [matchP, hps, hpp], hle2⟩
    | some names =>
      have hln := parts_ne hps
      have hl1 : 1 ≤ l.length := by cases l with
        | nil => exact absurd rfl hln
        | cons a b => simp
      have hl6 := (parts_len hps).1
      have hn6 := (splitP_len hpp).1
      have hll : (strsAV names).length = names.length := by simp [strsAV]
      have hl2 : (l.map partAV).length = l.length := by simp
      have em : matchP s p = (decide (l.length ≤ names.length) && ((l.zip names).all (fun q => means q.1 q.2) && (decide (names.length = l.length) || decide ((l.getLast?.map (·.1)) = some 1)))) := by simp [matchP, hps, hpp]
      by_cases h1 : (names.length : Int) < l.length
      · simp only [VC, VX, VV, SU, RC, VQ, VQ2, opW, ne_eq, not_false_eq_true, not_true_eq_false, Nat.le_refl, false_implies, reduceIte, Nat.reduceEqDiff, Nat.reduceAdd, Nat.reduceSub, Nat.reduceLeDiff, Nat.reduceLT, Nat.reduceMul, Nat.reduceBEq, reduceCtorEq, Int.natCast_nonneg, Int.toNat_natCast, true_implies, implies_true, List.length_cons, List.length_nil, List.drop_succ_cons, List.drop_zero, List.take_succ_cons, List.take_zero, List.map_cons, List.map_nil, List.getD_cons_zero, List.getD_cons_succ, List.all_cons, List.all_nil, Bool.and_true, Bool.and_self, decide_true, decide_false, Bool.not_true, Bool.not_false, Bool.true_or, Bool.false_or, Bool.or_true, Bool.or_false, Bool.true_and, Bool.false_and, Bool.and_false, bytesAV_length, beq_self_eq_true, and_self, List.append_assoc, List.cons_append, List.nil_append, eqW, hll, hl2, h1]
        refine ⟨?_, hle2⟩
        have : ¬ l.length ≤ names.length := by omega
        simp [em, this]
      · have h1' : l.length ≤ names.length := by omega
        have hbad : ∀ (k : Nat) (h : k < l.length), means l[k] (names[k]'(by omega)) = false → matchP s p = false := by
          intro k h hm
          have : (l.zip names).all (fun q => means q.1 q.2) = false := List.all_eq_false.2 ⟨(l[k], names[k]'(by omega)), by
            have hz : k < (l.zip names).length := by simp; omega
            have := List.getElem_mem hz
            rwa [List.getElem_zip] at this, by simp [hm]⟩
          rw [em, this]; simp
        simp only [VC, VX, VV, SU, RC, VQ, VQ2, opW, ne_eq, not_false_eq_true, not_true_eq_false, Nat.le_refl, false_implies, reduceIte, Nat.reduceEqDiff, Nat.reduceAdd, Nat.reduceSub, Nat.reduceLeDiff, Nat.reduceLT, Nat.reduceMul, Nat.reduceBEq, reduceCtorEq, Int.natCast_nonneg, Int.toNat_natCast, true_implies, implies_true, List.length_cons, List.length_nil, List.drop_succ_cons, List.drop_zero, List.take_succ_cons, List.take_zero, List.map_cons, List.map_nil, List.getD_cons_zero, List.getD_cons_succ, List.all_cons, List.all_nil, Bool.and_true, Bool.and_self, decide_true, decide_false, Bool.not_true, Bool.not_false, Bool.true_or, Bool.false_or, Bool.or_true, Bool.or_false, Bool.true_and, Bool.false_and, Bool.and_false, bytesAV_length, beq_self_eq_true, and_self, List.append_assoc, List.cons_append, List.nil_append, eqW, hll, hl2, h1]
        refine VLoop.up l.length (fun k e st' => e.get 5 = .sl tk (l.map partAV) ∧ e.get 7 = .sl .sh (strsAV names) ∧ e.get 31 = .sl tk (l.map partAV) ∧ e.get 32 = .int .i64 l.length ∧ e.get 33 = .int .i64 k ∧ k ≤ l.length ∧ ((l.zip names).take k).all (fun q => means q.1 q.2) = true ∧ st.le st') ?_ ?_
        · simp only [VC, VX, VV, SU, RC, VQ, VQ2, opW, ne_eq, not_false_eq_true, not_true_eq_false, Nat.le_refl, false_implies, reduceIte, Nat.reduceEqDiff, Nat.reduceAdd, Nat.reduceSub, Nat.reduceLeDiff, Nat.reduceLT, Nat.reduceMul, Nat.reduceBEq, reduceCtorEq, Int.natCast_nonneg, Int.toNat_natCast, true_implies, implies_true, List.length_cons, List.length_nil, List.drop_succ_cons, List.drop_zero, List.take_succ_cons, List.take_zero, List.map_cons, List.map_nil, List.getD_cons_zero, List.getD_cons_succ, List.all_cons, List.all_nil, Bool.and_true, Bool.and_self, decide_true, decide_false, Bool.not_true, Bool.not_false, Bool.true_or, Bool.false_or, Bool.or_true, Bool.or_false, Bool.true_and, Bool.false_and, Bool.and_false, bytesAV_length, beq_self_eq_true, and_self, List.append_assoc, List.cons_append, List.nil_append, hl2]
          exact ⟨rfl, Nat.zero_le _, hle2⟩
        · rintro k e st' ⟨h5, h7, h31, h32, h33, hk, hall, hle⟩
          unfold c_match_L0
          simp only [VC, VX, VV, SU, RC, VQ, VQ2, opW, ne_eq, not_false_eq_true, not_true_eq_false, Nat.le_refl, false_implies, reduceIte, Nat.reduceEqDiff, Nat.reduceAdd, Nat.reduceSub, Nat.reduceLeDiff, Nat.reduceLT, Nat.reduceMul, Nat.reduceBEq, reduceCtorEq, Int.natCast_nonneg, Int.toNat_natCast, true_implies, implies_true, List.length_cons, List.length_nil, List.drop_succ_cons, List.drop_zero, List.take_succ_cons, List.take_zero, List.map_cons, List.map_nil, List.getD_cons_zero, List.getD_cons_succ, List.all_cons, List.all_nil, Bool.and_true, Bool.and_self, decide_true, decide_false, Bool.not_true, Bool.not_false, Bool.true_or, Bool.false_or, Bool.or_true, Bool.or_false, Bool.true_and, Bool.false_and, Bool.and_false, bytesAV_length, beq_self_eq_true, and_self, List.append_assoc, List.cons_append, List.nil_append, h5, h7, h31, h32, h33]
          refine VCond.dec (fun hlt => ?_) (fun hge => ?_)
          · have hlt' : k < l.length := by omega
            have hg : (l.map partAV).getD k .undef = partAV l[k] := by simp [List.getD_eq_getElem?_getD, hlt']
            have hg2 : (strsAV names).getD k .undef = .str (names[k]'(by omega)) := by
              have : k < names.length := by omega
              simp [strsAV, List.getD_eq_getElem?_getD, this]
            have hnl : (k : Int) < names.length := by omega
            simp only [VC, VX, VV, SU, RC, VQ, VQ2, opW, ne_eq, not_false_eq_true, not_true_eq_false, Nat.le_refl, false_implies, reduceIte, Nat.reduceEqDiff, Nat.reduceAdd, Nat.reduceSub, Nat.reduceLeDiff, Nat.reduceLT, Nat.reduceMul, Nat.reduceBEq, reduceCtorEq, Int.natCast_nonneg, Int.toNat_natCast, true_implies, implies_true, List.length_cons, List.length_nil, List.drop_succ_cons, List.drop_zero, List.take_succ_cons, List.take_zero, List.map_cons, List.map_nil, List.getD_cons_zero, List.getD_cons_succ, List.all_cons, List.all_nil, Bool.and_true, Bool.and_self, decide_true, decide_false, Bool.not_true, Bool.not_false, Bool.true_or, Bool.false_or, Bool.or_true, Bool.or_false, Bool.true_and, Bool.false_and, Bool.and_false, bytesAV_length, beq_self_eq_true, and_self, List.append_assoc, List.cons_append, List.nil_append, h5, h7, h31, h32, h33, hlt, hg, hg2, hl2, hll, partAV]
            intro id hid
            refine VDraw ?_
            simp only [VC, VX, VV, SU, RC, VQ, VQ2, opW, ne_eq, not_false_eq_true, not_true_eq_false, Nat.le_refl, false_implies, reduceIte, Nat.reduceEqDiff, Nat.reduceAdd, Nat.reduceSub, Nat.reduceLeDiff, Nat.reduceLT, Nat.reduceMul, Nat.reduceBEq, reduceCtorEq, Int.natCast_nonneg, Int.toNat_natCast, true_implies, implies_true, List.length_cons, List.length_nil, List.drop_succ_cons, List.drop_zero, List.take_succ_cons, List.take_zero, List.map_cons, List.map_nil, List.getD_cons_zero, List.getD_cons_succ, List.all_cons, List.all_nil, Bool.and_true, Bool.and_self, decide_true, decide_false, Bool.not_true, Bool.not_false, Bool.true_or, Bool.false_or, Bool.or_true, Bool.or_false, Bool.true_and, Bool.false_and, Bool.and_false, bytesAV_length, beq_self_eq_true, and_self, List.append_assoc, List.cons_append, List.nil_append, h5, h7, h31, h32, h33, hlt, hg, hg2, hl2, hll, hnl]
            refine quiet_call _ (means_ok w0 l[k] _) ?_
            simp only [VC, VX, VV, SU, RC, VQ, VQ2, opW, ne_eq, not_false_eq_true, not_true_eq_false, Nat.le_refl, false_implies, reduceIte, Nat.reduceEqDiff, Nat.reduceAdd, Nat.reduceSub, Nat.reduceLeDiff, Nat.reduceLT, Nat.reduceMul, Nat.reduceBEq, reduceCtorEq, Int.natCast_nonneg, Int.toNat_natCast, true_implies, implies_true, List.length_cons, List.length_nil, List.drop_succ_cons, List.drop_zero, List.take_succ_cons, List.take_zero, List.map_cons, List.map_nil, List.getD_cons_zero, List.getD_cons_succ, List.all_cons, List.all_nil, Bool.and_true, Bool.and_self, decide_true, decide_false, Bool.not_true, Bool.not_false, Bool.true_or, Bool.false_or, Bool.or_true, Bool.or_false, Bool.true_and, Bool.false_and, Bool.and_false, bytesAV_length, beq_self_eq_true, and_self, List.append_assoc, List.cons_append, List.nil_append]
            intro st3 hle3
            have hle3 := St.le_trans (St.le_upd0 _ (St.le_upd0 _ hle (St.le_none hle hid)) (St.le_none hle hid)) hle3
            by_cases hm : means l[k] (names[k]'(by omega)) = true
            · simp only [VC, VX, VV, SU, RC, VQ, VQ2, opW, ne_eq, not_false_eq_true, not_true_eq_false, Nat.le_refl, false_implies, reduceIte, Nat.reduceEqDiff, Nat.reduceAdd, Nat.reduceSub, Nat.reduceLeDiff, Nat.reduceLT, Nat.reduceMul, Nat.reduceBEq, reduceCtorEq, Int.natCast_nonneg, Int.toNat_natCast, true_implies, implies_true, List.length_cons, List.length_nil, List.drop_succ_cons, List.drop_zero, List.take_succ_cons, List.take_zero, List.map_cons, List.map_nil, List.getD_cons_zero, List.getD_cons_succ, List.all_cons, List.all_nil, Bool.and_true, Bool.and_self, decide_true, decide_false, Bool.not_true, Bool.not_false, Bool.true_or, Bool.false_or, Bool.or_true, Bool.or_false, Bool.true_and, Bool.false_and, Bool.and_false, bytesAV_length, beq_self_eq_true, and_self, List.append_assoc, List.cons_append, List.nil_append, hm, h5, h7, h31, h32, h33]
              refine ⟨hlt', ?_, by omega, ?_, hle3⟩
              · rw [wrap_nat (by omega)]
              · have hz : k < (l.zip names).length := by simp; omega
                rw [List.take_succ_eq_append_getElem hz, List.all_append, hall]
                simp [hm]
            · have hm : means l[k] (names[k]'(by omega)) = false := by simpa using hm
              simp only [VC, VX, VV, SU, RC, VQ, VQ2, opW, ne_eq, not_false_eq_true, not_true_eq_false, Nat.le_refl, false_implies, reduceIte, Nat.reduceEqDiff, Nat.reduceAdd, Nat.reduceSub, Nat.reduceLeDiff, Nat.reduceLT, Nat.reduceMul, Nat.reduceBEq, reduceCtorEq, Int.natCast_nonneg, Int.toNat_natCast, true_implies, implies_true, List.length_cons, List.length_nil, List.drop_succ_cons, List.drop_zero, List.take_succ_cons, List.take_zero, List.map_cons, List.map_nil, List.getD_cons_zero, List.getD_cons_succ, List.all_cons, List.all_nil, Bool.and_true, Bool.and_self, decide_true, decide_false, Bool.not_true, Bool.not_false, Bool.true_or, Bool.false_or, Bool.or_true, Bool.or_false, Bool.true_and, Bool.false_and, Bool.and_false, bytesAV_length, beq_self_eq_true, and_self, List.append_assoc, List.cons_append, List.nil_append, hm]
              exact ⟨by rw [hbad k hlt' hm], hle3⟩
          · have hk' : k = l.length := by omega
            subst hk'
            have hz : (l.zip names).length = l.length := by simp; omega
            rw [← hz, List.take_length] at hall
            unfold c_match_S0
            have hw : IntKind.i64.wrap ((l.length : Int) - 1) = ((l.length - 1 : Nat) : Int) := by rw [wrap_id (by omega) (by omega)]; omega
            have hg : (l.map partAV).getD (l.length - 1) .undef = partAV (l.getLast hln) := by
              have : l.length - 1 < l.length := by omega
              simp [List.getD_eq_getElem?_getD, this, List.getLast_eq_getElem]
            have hgl : l.getLast?.map (·.1) = some (l.getLast hln).1 := by rw [List.getLast?_eq_some_getLast hln]; rfl
            by_cases h2 : names.length = l.length
            · have h2' : ((names.length : Int) == l.length) = true := by simp; omega
              simp only [VC, VX, VV, SU, RC, VQ, VQ2, opW, ne_eq, not_false_eq_true, not_true_eq_false, Nat.le_refl, false_implies, reduceIte, Nat.reduceEqDiff, Nat.reduceAdd, Nat.reduceSub, Nat.reduceLeDiff, Nat.reduceLT, Nat.reduceMul, Nat.reduceBEq, reduceCtorEq, Int.natCast_nonneg, Int.toNat_natCast, true_implies, implies_true, List.length_cons, List.length_nil, List.drop_succ_cons, List.drop_zero, List.take_succ_cons, List.take_zero, List.map_cons, List.map_nil, List.getD_cons_zero, List.getD_cons_succ, List.all_cons, List.all_nil, Bool.and_true, Bool.and_self, decide_true, decide_false, Bool.not_true, Bool.not_false, Bool.true_or, Bool.false_or, Bool.or_true, Bool.or_false, Bool.true_and, Bool.false_and, Bool.and_false, bytesAV_length, beq_self_eq_true, and_self, List.append_assoc, List.cons_append, List.nil_append, h5, h7, hll, hl2, h2']
              refine ⟨?_, hle⟩
              rw [em]
              simp [hall, h2]
            · have h2' : ((names.length : Int) == l.length) = false := by simp; omega
              simp only [VC, VX, VV, SU, RC, VQ, VQ2, opW, ne_eq, not_false_eq_true, not_true_eq_false, Nat.le_refl, false_implies, reduceIte, Nat.reduceEqDiff, Nat.reduceAdd, Nat.reduceSub, Nat.reduceLeDiff, Nat.reduceLT, Nat.reduceMul, Nat.reduceBEq, reduceCtorEq, Int.natCast_nonneg, Int.toNat_natCast, true_implies, implies_true, List.length_cons, List.length_nil, List.drop_succ_cons, List.drop_zero, List.take_succ_cons, List.take_zero, List.map_cons, List.map_nil, List.getD_cons_zero, List.getD_cons_succ, List.all_cons, List.all_nil, Bool.and_true, Bool.and_self, decide_true, decide_false, Bool.not_true, Bool.not_false, Bool.true_or, Bool.false_or, Bool.or_true, Bool.or_false, Bool.true_and, Bool.false_and, Bool.and_false, bytesAV_length, beq_self_eq_true, and_self, List.append_assoc, List.cons_append, List.nil_append, h5, h7, hll, hl2, h2', hw, hg, partAV]
              refine ⟨by omega, ?_, hle⟩
              rw [em, hgl]
              have h2'' : ¬ names.length = l.length := h2
              simp [hall, h2, h1']
              exact ibeq _ 1

theorem cmpZ_nat (a b : Nat) : cmpZ (a : Int) (b : Int) = cmpN a b := by
  unfold cmpZ cmpN
  by_cases h1 : a < b
  · have : (a : Int) < b := by omega
    simp [h1, this]
  · have : ¬ (a : Int) < b := by omega
    simp only [h1, this, if_false]
    by_cases h2 : b < a
    · have : (a : Int) > b := by omega
      simp [h2, this]
    · have : ¬ (a : Int) > b := by omega
      simp [h2, this]

theorem more_ok (w0 : World) (hM : Mx w0) (a b : Bs) (ha : a.length < 4294967281) (hb : b.length < 4294967281) : PC w0 156 [.str a, .str b] (.int .i64 (more a b)) := by
  intro st
  refine ACalls.of_vc (A := c_more) (is_more w0) (by simp) ?_
  unfold c_more
  simp only [VC, VX, VV, SU, RC, VQ, VQ2, opW, ne_eq, not_false_eq_true, not_true_eq_false, Nat.le_refl, false_implies, reduceIte, Nat.reduceEqDiff, Nat.reduceAdd, Nat.reduceSub, Nat.reduceLeDiff, Nat.reduceLT, Nat.reduceMul, Nat.reduceBEq, reduceCtorEq, Int.natCast_nonneg, Int.toNat_natCast, true_implies, implies_true, List.length_cons, List.length_nil, List.drop_succ_cons, List.drop_zero, List.take_succ_cons, List.take_zero, List.map_cons, List.map_nil, List.getD_cons_zero, List.getD_cons_succ, List.all_cons, List.all_nil, Bool.and_true, Bool.and_self, decide_true, decide_false, Bool.not_true, Bool.not_false, Bool.true_or, Bool.false_or, Bool.or_true, Bool.or_false, Bool.true_and, Bool.false_and, Bool.and_false, bytesAV_length, beq_self_eq_true, and_self, List.append_assoc, List.cons_append, List.nil_append]
  refine (parts_ok w0 hM a ha st).mono ?_
  rintro r st1 ⟨hle1, h⟩
  cases hps : parts a with
  | none =>
    rw [hps] at h
    subst h
    simp only [VC, VX, VV, SU, RC, VQ, VQ2, opW, ne_eq, not_false_eq_true, not_true_eq_false, Nat.le_refl, false_implies, reduceIte, Nat.reduceEqDiff, Nat.reduceAdd, Nat.reduceSub, Nat.reduceLeDiff, Nat.reduceLT, Nat.reduceMul, Nat.reduceBEq, reduceCtorEq, Int.natCast_nonneg, Int.toNat_natCast, true_implies, implies_true, List.length_cons, List.length_nil, List.drop_succ_cons, List.drop_zero, List.take_succ_cons, List.take_zero, List.map_cons, List.map_nil, List.getD_cons_zero, List.getD_cons_succ, List.all_cons, List.all_nil, Bool.and_true, Bool.and_self, decide_true, decide_false, Bool.not_true, Bool.not_false, Bool.true_or, Bool.false_or, Bool.or_true, Bool.or_false, Bool.true_and, Bool.false_and, Bool.and_false, bytesAV_length, beq_self_eq_true, and_self, List.append_assoc, List.cons_append, List.nil_append, errAV, eqW]
    exact ⟨by simp [more, hps], hle1⟩
  | some x =>
    rw [hps] at h
    obtain ⟨tk, rfl⟩ := h
    simp only [VC, VX, VV, SU, RC, VQ, VQ2, opW, ne_eq, not_false_eq_true, not_true_eq_false, Nat.le_refl, false_implies, reduceIte, Nat.reduceEqDiff, Nat.reduceAdd, Nat.reduceSub, Nat.reduceLeDiff, Nat.reduceLT, Nat.reduceMul, Nat.reduceBEq, reduceCtorEq, Int.natCast_nonneg, Int.toNat_natCast, true_implies, implies_true, List.length_cons, List.length_nil, List.drop_succ_cons, List.drop_zero, List.take_succ_cons, List.take_zero, List.map_cons, List.map_nil, List.getD_cons_zero, List.getD_cons_succ, List.all_cons, List.all_nil, Bool.and_true, Bool.and_self, decide_true, decide_false, Bool.not_true, Bool.not_false, Bool.true_or, Bool.false_or, Bool.or_true, Bool.or_false, Bool.true_and, Bool.false_and, Bool.and_false, bytesAV_length, beq_self_eq_true, and_self, List.append_assoc, List.cons_append, List.nil_append, errAV, eqW]
    refine (parts_ok w0 hM b hb st1).mono ?_
    rintro r st2 ⟨hle2, h⟩
    have hle2 := St.le_trans hle1 hle2
    cases hpp : parts b with
    | none =>
      rw [hpp] at h
      subst h
      simp only [VC, VX, VV, SU, RC, VQ, VQ2, opW, ne_eq, not_false_eq_true, not_true_eq_false, Nat.le_refl, false_implies, reduceIte, Nat.reduceEqDiff, Nat.reduceAdd, Nat.reduceSub, Nat.reduceLeDiff, Nat.reduceLT, Nat.reduceMul, Nat.reduceBEq, reduceCtorEq, Int.natCast_nonneg, Int.toNat_natCast, true_implies, implies_true, List.length_cons, List.length_nil, List.drop_succ_cons, List.drop_zero, List.take_succ_cons, List.take_zero, List.map_cons, List.map_nil, List.getD_cons_zero, List.getD_cons_succ, List.all_cons, List.all_nil, Bool.and_true, Bool.and_self, decide_true, decide_false, Bool.not_true, Bool.not_false, Bool.true_or, Bool.false_or, Bool.or_true, Bool.or_false, Bool.true_and, Bool.false_and, Bool.and_false, bytesAV_length, beq_self_eq_true, and_self, List.append_assoc, List.cons_append, List.nil_append, errAV, eqW]
      exact ⟨by simp [more, hps, hpp], hle2⟩
    | some y =>
      rw [hpp] at h
      obtain ⟨tk2, rfl⟩ := h
      have hxn := parts_ne hps
      have hyn := parts_ne hpp
      have hx6 := (parts_len hps).1
      have hy6 := (parts_len hpp).1
      have hx1 : 1 ≤ x.length := by cases x with
        | nil => exact absurd rfl hxn
        | cons a b => simp
      have hy1 : 1 ≤ y.length := by cases y with
        | nil => exact absurd rfl hyn
        | cons a b => simp
      have hlx : (x.map partAV).length = x.length := by simp
      have hly : (y.map partAV).length = y.length := by simp
      have em : more a b = moreL x y := by simp [more, hps, hpp]
      obtain ⟨M, hMM⟩ : ∃ M, M = max x.length y.length := ⟨_, rfl⟩
      have hM6 : M ≤ 6 := by omega
      have hmax : (if (y.length : Int) > x.length then (y.length : Int) else x.length) = (M : Int) := by
        split <;> omega
      simp only [VC, VX, VV, SU, RC, VQ, VQ2, opW, ne_eq, not_false_eq_true, not_true_eq_false, Nat.le_refl, false_implies, reduceIte, Nat.reduceEqDiff, Nat.reduceAdd, Nat.reduceSub, Nat.reduceLeDiff, Nat.reduceLT, Nat.reduceMul, Nat.reduceBEq, reduceCtorEq, Int.natCast_nonneg, Int.toNat_natCast, true_implies, implies_true, List.length_cons, List.length_nil, List.drop_succ_cons, List.drop_zero, List.take_succ_cons, List.take_zero, List.map_cons, List.map_nil, List.getD_cons_zero, List.getD_cons_succ, List.all_cons, List.all_nil, Bool.and_true, Bool.and_self, decide_true, decide_false, Bool.not_true, Bool.not_false, Bool.true_or, Bool.false_or, Bool.or_true, Bool.or_false, Bool.true_and, Bool.false_and, Bool.and_false, bytesAV_length, beq_self_eq_true, and_self, List.append_assoc, List.cons_append, List.nil_append, eqW, hlx, hly, hmax]
      refine VLoop.up M (fun k e st' => e.get 5 = .sl tk (x.map partAV) ∧ e.get 7 = .sl tk2 (y.map partAV) ∧ e.get 28 = .int .i64 M ∧ e.get 29 = .int .i64 k ∧ k ≤ M ∧ cmpAt x y 0 M = cmpAt x y k (M - k) ∧ st.le st') ?_ ?_
      · simp only [VC, VX, VV, SU, RC, VQ, VQ2, opW, ne_eq, not_false_eq_true, not_true_eq_false, Nat.le_refl, false_implies, reduceIte, Nat.reduceEqDiff, Nat.reduceAdd, Nat.reduceSub, Nat.reduceLeDiff, Nat.reduceLT, Nat.reduceMul, Nat.reduceBEq, reduceCtorEq, Int.natCast_nonneg, Int.toNat_natCast, true_implies, implies_true, List.length_cons, List.length_nil, List.drop_succ_cons, List.drop_zero, List.take_succ_cons, List.take_zero, List.map_cons, List.map_nil, List.getD_cons_zero, List.getD_cons_succ, List.all_cons, List.all_nil, Bool.and_true, Bool.and_self, decide_true, decide_false, Bool.not_true, Bool.not_false, Bool.true_or, Bool.false_or, Bool.or_true, Bool.or_false, Bool.true_and, Bool.false_and, Bool.and_false, bytesAV_length, beq_self_eq_true, and_self, List.append_assoc, List.cons_append, List.nil_append]
        exact ⟨rfl, Nat.zero_le _, by simp, hle2⟩
      · rintro k e st' ⟨h5, h7, h28, h29, hk, hc, hle⟩
        unfold c_more_L0
        simp only [VC, VX, VV, SU, RC, VQ, VQ2, opW, ne_eq, not_false_eq_true, not_true_eq_false, Nat.le_refl, false_implies, reduceIte, Nat.reduceEqDiff, Nat.reduceAdd, Nat.reduceSub, Nat.reduceLeDiff, Nat.reduceLT, Nat.reduceMul, Nat.reduceBEq, reduceCtorEq, Int.natCast_nonneg, Int.toNat_natCast, true_implies, implies_true, List.length_cons, List.length_nil, List.drop_succ_cons, List.drop_zero, List.take_succ_cons, List.take_zero, List.map_cons, List.map_nil, List.getD_cons_zero, List.getD_cons_succ, List.all_cons, List.all_nil, Bool.and_true, Bool.and_self, decide_true, decide_false, Bool.not_true, Bool.not_false, Bool.true_or, Bool.false_or, Bool.or_true, Bool.or_false, Bool.true_and, Bool.false_and, Bool.and_false, bytesAV_length, beq_self_eq_true, and_self, List.append_assoc, List.cons_append, List.nil_append, h5, h7, h28, h29]
        refine VCond.dec (fun hlt => ?_) (fun hge => ?_)
        · have hlt' : k < M := by omega
          simp only [VC, VX, VV, SU, RC, VQ, VQ2, opW, ne_eq, not_false_eq_true, not_true_eq_false, Nat.le_refl, false_implies, reduceIte, Nat.reduceEqDiff, Nat.reduceAdd, Nat.reduceSub, Nat.reduceLeDiff, Nat.reduceLT, Nat.reduceMul, Nat.reduceBEq, reduceCtorEq, Int.natCast_nonneg, Int.toNat_natCast, true_implies, implies_true, List.length_cons, List.length_nil, List.drop_succ_cons, List.drop_zero, List.take_succ_cons, List.take_zero, List.map_cons, List.map_nil, List.getD_cons_zero, List.getD_cons_succ, List.all_cons, List.all_nil, Bool.and_true, Bool.and_self, decide_true, decide_false, Bool.not_true, Bool.not_false, Bool.true_or, Bool.false_or, Bool.or_true, Bool.or_false, Bool.true_and, Bool.false_and, Bool.and_false, bytesAV_length, beq_self_eq_true, and_self, List.append_assoc, List.cons_append, List.nil_append, h5, h7, h28, h29]
          refine (at_ok w0 tk x k st').mono ?_
          rintro r st3 ⟨rfl, hle3⟩
          simp only [VC, VX, VV, SU, RC, VQ, VQ2, opW, ne_eq, not_false_eq_true, not_true_eq_false, Nat.le_refl, false_implies, reduceIte, Nat.reduceEqDiff, Nat.reduceAdd, Nat.reduceSub, Nat.reduceLeDiff, Nat.reduceLT, Nat.reduceMul, Nat.reduceBEq, reduceCtorEq, Int.natCast_nonneg, Int.toNat_natCast, true_implies, implies_true, List.length_cons, List.length_nil, List.drop_succ_cons, List.drop_zero, List.take_succ_cons, List.take_zero, List.map_cons, List.map_nil, List.getD_cons_zero, List.getD_cons_succ, List.all_cons, List.all_nil, Bool.and_true, Bool.and_self, decide_true, decide_false, Bool.not_true, Bool.not_false, Bool.true_or, Bool.false_or, Bool.or_true, Bool.or_false, Bool.true_and, Bool.false_and, Bool.and_false, bytesAV_length, beq_self_eq_true, and_self, List.append_assoc, List.cons_append, List.nil_append, h5, h7, h28, h29]
          refine (at_ok w0 tk2 y k st3).mono ?_
          rintro r st4 ⟨rfl, hle4⟩
          simp only [VC, VX, VV, SU, RC, VQ, VQ2, opW, ne_eq, not_false_eq_true, not_true_eq_false, Nat.le_refl, false_implies, reduceIte, Nat.reduceEqDiff, Nat.reduceAdd, Nat.reduceSub, Nat.reduceLeDiff, Nat.reduceLT, Nat.reduceMul, Nat.reduceBEq, reduceCtorEq, Int.natCast_nonneg, Int.toNat_natCast, true_implies, implies_true, List.length_cons, List.length_nil, List.drop_succ_cons, List.drop_zero, List.take_succ_cons, List.take_zero, List.map_cons, List.map_nil, List.getD_cons_zero, List.getD_cons_succ, List.all_cons, List.all_nil, Bool.and_true, Bool.and_self, decide_true, decide_false, Bool.not_true, Bool.not_false, Bool.true_or, Bool.false_or, Bool.or_true, Bool.or_false, Bool.true_and, Bool.false_and, Bool.and_false, bytesAV_length, beq_self_eq_true, and_self, List.append_assoc, List.cons_append, List.nil_append, h5, h7, h28, h29]
          refine (cmp_ok w0 _ _ st4).mono ?_
          rintro r st5 ⟨rfl, hle5⟩
          rw [cmpZ_nat]
          have hle5 := St.le_trans (St.le_trans (St.le_trans hle hle3) hle4) hle5
          have hstep : cmpAt x y k (M - k) = if cmpN (atP x k) (atP y k) = 0 then cmpAt x y (k + 1) (M - (k + 1)) else cmpN (atP x k) (atP y k) := by
            have : M - k = (M - (k + 1)) + 1 := by omega
            rw [this, cmpAt]
          by_cases hz : cmpN (atP x k) (atP y k) = 0
          · rw [if_pos hz] at hstep
            have hz' : (cmpN (atP x k) (atP y k) != 0) = false := by simp [hz]
            simp only [VC, VX, VV, SU, RC, VQ, VQ2, opW, ne_eq, not_false_eq_true, not_true_eq_false, Nat.le_refl, false_implies, reduceIte, Nat.reduceEqDiff, Nat.reduceAdd, Nat.reduceSub, Nat.reduceLeDiff, Nat.reduceLT, Nat.reduceMul, Nat.reduceBEq, reduceCtorEq, Int.natCast_nonneg, Int.toNat_natCast, true_implies, implies_true, List.length_cons, List.length_nil, List.drop_succ_cons, List.drop_zero, List.take_succ_cons, List.take_zero, List.map_cons, List.map_nil, List.getD_cons_zero, List.getD_cons_succ, List.all_cons, List.all_nil, Bool.and_true, Bool.and_self, decide_true, decide_false, Bool.not_true, Bool.not_false, Bool.true_or, Bool.false_or, Bool.or_true, Bool.or_false, Bool.true_and, Bool.false_and, Bool.and_false, bytesAV_length, beq_self_eq_true, and_self, List.append_assoc, List.cons_append, List.nil_append, hz', h5, h7, h28, h29]
            refine ⟨hlt', ?_, by omega, by rw [hc, hstep], hle5⟩
            rw [wrap_nat (by omega)]
          · rw [if_neg hz] at hstep
            have hz' : (cmpN (atP x k) (atP y k) != 0) = true := by simp [hz]
            simp only [VC, VX, VV, SU, RC, VQ, VQ2, opW, ne_eq, not_false_eq_true, not_true_eq_false, Nat.le_refl, false_implies, reduceIte, Nat.reduceEqDiff, Nat.reduceAdd, Nat.reduceSub, Nat.reduceLeDiff, Nat.reduceLT, Nat.reduceMul, Nat.reduceBEq, reduceCtorEq, Int.natCast_nonneg, Int.toNat_natCast, true_implies, implies_true, List.length_cons, List.length_nil, List.drop_succ_cons, List.drop_zero, List.take_succ_cons, List.take_zero, List.map_cons, List.map_nil, List.getD_cons_zero, List.getD_cons_succ, List.all_cons, List.all_nil, Bool.and_true, Bool.and_self, decide_true, decide_false, Bool.not_true, Bool.not_false, Bool.true_or, Bool.false_or, Bool.or_true, Bool.or_false, Bool.true_and, Bool.false_and, Bool.and_false, bytesAV_length, beq_self_eq_true, and_self, List.append_assoc, List.cons_append, List.nil_append, hz', h5, h7, h28, h29]
            refine ⟨?_, hle5⟩
            rw [em, moreL, ← hMM, hc, hstep, if_neg hz]
        · have hk' : k = M := by omega
          subst hk'
          have hc0 : cmpAt x y 0 k = 0 := by rw [hc]; simp [cmpAt]
          unfold c_more_S0
          have hwx : IntKind.i64.wrap ((x.length : Int) - 1) = ((x.length - 1 : Nat) : Int) := by rw [wrap_id (by omega) (by omega)]; omega
          have hwy : IntKind.i64.wrap ((y.length : Int) - 1) = ((y.length - 1 : Nat) : Int) := by rw [wrap_id (by omega) (by omega)]; omega
          have hgx : (x.map partAV).getD (x.length - 1) .undef = partAV (x.getLast hxn) := by
            have : x.length - 1 < x.length := by omega
            simp [List.getD_eq_getElem?_getD, this, List.getLast_eq_getElem]
          have hgy : (y.map partAV).getD (y.length - 1) .undef = partAV (y.getLast hyn) := by
            have : y.length - 1 < y.length := by omega
            simp [List.getD_eq_getElem?_getD, this, List.getLast_eq_getElem]
          have hlx' : x.getLast? = some (x.getLast hxn) := List.getLast?_eq_some_getLast hxn
          have hly' : y.getLast? = some (y.getLast hyn) := List.getLast?_eq_some_getLast hyn
          simp only [VC, VX, VV, SU, RC, VQ, VQ2, opW, ne_eq, not_false_eq_true, not_true_eq_false, Nat.le_refl, false_implies, reduceIte, Nat.reduceEqDiff, Nat.reduceAdd, Nat.reduceSub, Nat.reduceLeDiff, Nat.reduceLT, Nat.reduceMul, Nat.reduceBEq, reduceCtorEq, Int.natCast_nonneg, Int.toNat_natCast, true_implies, implies_true, List.length_cons, List.length_nil, List.drop_succ_cons, List.drop_zero, List.take_succ_cons, List.take_zero, List.map_cons, List.map_nil, List.getD_cons_zero, List.getD_cons_succ, List.all_cons, List.all_nil, Bool.and_true, Bool.and_self, decide_true, decide_false, Bool.not_true, Bool.not_false, Bool.true_or, Bool.false_or, Bool.or_true, Bool.or_false, Bool.true_and, Bool.false_and, Bool.and_false, bytesAV_length, beq_self_eq_true, and_self, List.append_assoc, List.cons_append, List.nil_append, h5, h7, hlx, hly, hwx, hwy, hgx, hgy, partAV]
          refine ⟨by omega, ?_⟩
          have hb1 : (((x.getLast hxn).1 : Int) != 1) = !(decide ((x.getLast hxn).1 = 1)) := by
            show (!(((x.getLast hxn).1 : Int) == ((1 : Nat) : Int))) = _
            rw [ibeq]
          by_cases h1 : (x.getLast hxn).1 = 1
          · have hb2 : (((x.getLast hxn).1 : Int) != 1) = false := by rw [hb1]; simp [h1]
            simp only [VC, VX, VV, SU, RC, VQ, VQ2, opW, ne_eq, not_false_eq_true, not_true_eq_false, Nat.le_refl, false_implies, reduceIte, Nat.reduceEqDiff, Nat.reduceAdd, Nat.reduceSub, Nat.reduceLeDiff, Nat.reduceLT, Nat.reduceMul, Nat.reduceBEq, reduceCtorEq, Int.natCast_nonneg, Int.toNat_natCast, true_implies, implies_true, List.length_cons, List.length_nil, List.drop_succ_cons, List.drop_zero, List.take_succ_cons, List.take_zero, List.map_cons, List.map_nil, List.getD_cons_zero, List.getD_cons_succ, List.all_cons, List.all_nil, Bool.and_true, Bool.and_self, decide_true, decide_false, Bool.not_true, Bool.not_false, Bool.true_or, Bool.false_or, Bool.or_true, Bool.or_false, Bool.true_and, Bool.false_and, Bool.and_false, bytesAV_length, beq_self_eq_true, and_self, List.append_assoc, List.cons_append, List.nil_append, hb2, h5, h7, hlx, hly, hwx, hwy, hgx, hgy, partAV]
            refine VDraw ?_
            simp only [VC, VX, VV, SU, RC, VQ, VQ2, opW, ne_eq, not_false_eq_true, not_true_eq_false, Nat.le_refl, false_implies, reduceIte, Nat.reduceEqDiff, Nat.reduceAdd, Nat.reduceSub, Nat.reduceLeDiff, Nat.reduceLT, Nat.reduceMul, Nat.reduceBEq, reduceCtorEq, Int.natCast_nonneg, Int.toNat_natCast, true_implies, implies_true, List.length_cons, List.length_nil, List.drop_succ_cons, List.drop_zero, List.take_succ_cons, List.take_zero, List.map_cons, List.map_nil, List.getD_cons_zero, List.getD_cons_succ, List.all_cons, List.all_nil, Bool.and_true, Bool.and_self, decide_true, decide_false, Bool.not_true, Bool.not_false, Bool.true_or, Bool.false_or, Bool.or_true, Bool.or_false, Bool.true_and, Bool.false_and, Bool.and_false, bytesAV_length, beq_self_eq_true, and_self, List.append_assoc, List.cons_append, List.nil_append, hb2, h5, h7, hlx, hly, hwx, hwy, hgx, hgy, partAV]
            refine ⟨by omega, by omega, quiet_call _ (cmp_ok w0 _ _) ?_⟩
            intro st3 hle3
            refine ⟨?_, St.le_trans hle hle3⟩
            rw [em, moreL, ← hMM, if_pos hc0, hlx', hly']
            simp [h1, cmpZ_nat]
          · have hb2 : (((x.getLast hxn).1 : Int) != 1) = true := by rw [hb1]; simp [h1]
            simp only [VC, VX, VV, SU, RC, VQ, VQ2, opW, ne_eq, not_false_eq_true, not_true_eq_false, Nat.le_refl, false_implies, reduceIte, Nat.reduceEqDiff, Nat.reduceAdd, Nat.reduceSub, Nat.reduceLeDiff, Nat.reduceLT, Nat.reduceMul, Nat.reduceBEq, reduceCtorEq, Int.natCast_nonneg, Int.toNat_natCast, true_implies, implies_true, List.length_cons, List.length_nil, List.drop_succ_cons, List.drop_zero, List.take_succ_cons, List.take_zero, List.map_cons, List.map_nil, List.getD_cons_zero, List.getD_cons_succ, List.all_cons, List.all_nil, Bool.and_true, Bool.and_self, decide_true, decide_false, Bool.not_true, Bool.not_false, Bool.true_or, Bool.false_or, Bool.or_true, Bool.or_false, Bool.true_and, Bool.false_and, Bool.and_false, bytesAV_length, beq_self_eq_true, and_self, List.append_assoc, List.cons_append, List.nil_append, hb2, h5, h7, hlx, hly, hwx, hwy, hgx, hgy, partAV]
            refine ⟨?_, hle⟩
            rw [em, moreL, ← hMM, if_pos hc0, hlx']
            simp [h1]
end Go.Proofs.YtiipkbkoigcabaaDoor
