/- Package acl: what rules allow. No condition. -/
import Derived.Test.YtiipkbkoigcabaaDoorPol
import Derived.Test.YtiipkbkoigcabaaDoorGrw
namespace Go.Proofs.YtiipkbkoigcabaaDoor
open Go Go.AW Go.RowKit Go.Proofs Go.Lib
set_option linter.unusedVariables false
set_option linter.unusedSimpArgs false

/-- bursary/acl.rules$1: function 210. -/
def c_rules1 : ACode := .seq (.ops [⟨some 2, .mv (.c (.bool false)), none⟩]) (.seq (.ops [⟨some 3, .mv (.t 0), none⟩, ⟨some 4, .call (.f 83) [.t 3], none⟩, ⟨some 5, .eqv 4 false (.t 4) (.c .niliface), none⟩, ⟨some 2, .mv (.t 5), none⟩]) .ret)
theorem is_rules1 (w0 : World) : fnComp (cx w0).P 210 = some (erase c_rules1, [.t 2], 6) := by kernel_rfl
/-- bursary/acl.kept[[]bursary/policy.Rule]: function 209. -/
def c_kept_L0 : ACode := .seq (.ops [⟨some 11, .cmp .lss (.t 10) (.t 9), none⟩]) (.seq (.cond (.t 11) .skip (.exit 0)) (.seq (.block 1 (.seq (.ops [⟨some 12, .iaddr 1 (.t 8) (.t 10), none⟩, ⟨some 13, .load false 1 (.t 12), none⟩, ⟨some 7, .mv (.t 13), none⟩]) (.seq (.ops [⟨some 14, .mv (.t 1), none⟩, ⟨some 15, .mv (.t 7), none⟩, ⟨some 16, .call (.t 14) [.t 15], none⟩]) (.cond (.t 16) (.ops [⟨some 17, .mv (.t 5), none⟩, ⟨some 18, .mv (.t 7), none⟩, ⟨some 19, .mk (.sl .nil []) 1 [(0, .t 18)], none⟩, ⟨some 20, .app 1 24 (.t 17) (.t 19), none⟩, ⟨some 5, .mv (.t 20), none⟩]) .skip)))) (.ops [⟨some 21, .arith .add (.t 10) (.c (.int .i64 1)), none⟩, ⟨some 10, .mv (.t 21), none⟩])))
def c_kept_S0 : ACode := .seq (.ops [⟨some 22, .mv (.t 5), none⟩, ⟨some 4, .mv (.t 22), none⟩]) .ret
def c_kept : ACode := .seq (.ops [⟨some 4, .mv (.c (.sl .nil [])), none⟩]) (.seq (.ops [⟨some 5, .mv (.c (.sl .nil [])), none⟩]) (.seq (.seq (.ops [⟨some 8, .mv (.t 0), none⟩, ⟨some 9, .len (.t 8), none⟩, ⟨some 10, .mv (.c (.int .i64 0)), none⟩]) (.block 0 (.loop c_kept_L0))) c_kept_S0))
theorem is_kept (w0 : World) : fnComp (cx w0).P 209 = some (erase c_kept, [.t 4], 23) := by kernel_rfl
/-- slices.Grow[[]bursary/policy.Rule,bursary/policy.Rule]: function 244. -/
def c_grow : ACode := .seq (.ops [⟨some 4, .mv (.c (.sl .nil [])), none⟩]) (.seq (.seq (.ops [⟨some 5, .mv (.t 1), none⟩, ⟨some 6, .cmp .lss (.t 5) (.c (.int .i64 0)), none⟩]) (.cond (.t 6) (.ops [⟨some 7, .mkif 9 (.c (.str [99, 97, 110, 110, 111, 116, 32, 98, 101, 32, 110, 101, 103, 97, 116, 105, 118, 101])), none⟩, ⟨none, .bad, none⟩]) .skip)) (.seq (.seq (.ops [⟨some 8, .mv (.t 1), none⟩, ⟨some 9, .mv (.t 0), none⟩, ⟨some 10, .cap (.t 9), none⟩, ⟨some 11, .mv (.t 0), none⟩, ⟨some 12, .len (.t 11), none⟩, ⟨some 13, .arith .sub (.t 10) (.t 12), none⟩, ⟨some 14, .arith .sub (.t 8) (.t 13), none⟩, ⟨some 1, .mv (.t 14), none⟩]) (.seq (.ops [⟨some 15, .mv (.t 1), none⟩, ⟨some 16, .cmp .gtr (.t 15) (.c (.int .i64 0)), none⟩]) (.cond (.t 16) (.ops [⟨some 17, .mv (.t 0), none⟩, ⟨some 18, .mv (.t 0), none⟩, ⟨some 19, .cap (.t 18), none⟩, ⟨some 20, .sl 2 (.t 17) none (some (.t 19)) none, none⟩, ⟨some 21, .mv (.t 1), none⟩, ⟨some 22, .bad, none⟩, ⟨some 23, .mv (.t 0), none⟩, ⟨some 24, .len (.t 23), none⟩, ⟨some 25, .sl 2 (.t 22) none (some (.t 24)) none, none⟩, ⟨some 0, .mv (.t 25), none⟩]) .skip))) (.seq (.ops [⟨some 26, .mv (.t 0), none⟩, ⟨some 4, .mv (.t 26), none⟩]) .ret)))
theorem is_grow (w0 : World) : fnComp (cx w0).P 244 = some (erase c_grow, [.t 4], 27) := by kernel_rfl
/-- slices.Concat[[]bursary/policy.Rule,bursary/policy.Rule]: function 208. -/
def c_concat_L0 : ACode := .seq (.ops [⟨some 12, .cmp .lss (.t 11) (.t 10), none⟩]) (.seq (.cond (.t 12) .skip (.exit 0)) (.seq (.block 1 (.seq (.ops [⟨some 13, .iaddr 1 (.t 9) (.t 11), none⟩, ⟨some 14, .load false 1 (.t 13), none⟩, ⟨some 5, .mv (.t 14), none⟩]) (.seq (.ops [⟨some 15, .mv (.t 3), none⟩, ⟨some 16, .mv (.t 5), none⟩, ⟨some 17, .len (.t 16), none⟩, ⟨some 18, .arith .add (.t 15) (.t 17), none⟩, ⟨some 3, .mv (.t 18), none⟩]) (.seq (.ops [⟨some 19, .mv (.t 3), none⟩, ⟨some 20, .cmp .lss (.t 19) (.c (.int .i64 0)), none⟩]) (.cond (.t 20) (.ops [⟨some 21, .mkif 9 (.c (.str [108, 101, 110, 32, 111, 117, 116, 32, 111, 102, 32, 114, 97, 110, 103, 101])), none⟩, ⟨none, .bad, none⟩]) .skip))))) (.ops [⟨some 22, .arith .add (.t 11) (.c (.int .i64 1)), none⟩, ⟨some 11, .mv (.t 22), none⟩])))
def c_concat_L1 : ACode := .seq (.ops [⟨some 28, .cmp .lss (.t 27) (.t 26), none⟩]) (.seq (.cond (.t 28) .skip (.exit 2)) (.seq (.block 3 (.seq (.ops [⟨some 29, .iaddr 1 (.t 25) (.t 27), none⟩, ⟨some 30, .load false 1 (.t 29), none⟩, ⟨some 8, .mv (.t 30), none⟩]) (.ops [⟨some 31, .mv (.t 6), none⟩, ⟨some 32, .mv (.t 8), none⟩, ⟨some 33, .app 2 24 (.t 31) (.t 32), none⟩, ⟨some 6, .mv (.t 33), none⟩]))) (.ops [⟨some 34, .arith .add (.t 27) (.c (.int .i64 1)), none⟩, ⟨some 27, .mv (.t 34), none⟩])))
def c_concat_S0 : ACode := .seq (.ops [⟨some 35, .mv (.t 6), none⟩, ⟨some 2, .mv (.t 35), none⟩]) .ret
def c_concat_S1 : ACode := .seq (.ops [⟨some 23, .mv (.t 3), none⟩, ⟨some 24, .call (.f 244) [.c (.sl .nil []), .t 23], none⟩, ⟨some 6, .mv (.t 24), none⟩]) (.seq (.seq (.ops [⟨some 25, .mv (.t 0), none⟩, ⟨some 26, .len (.t 25), none⟩, ⟨some 27, .mv (.c (.int .i64 0)), none⟩]) (.block 2 (.loop c_concat_L1))) c_concat_S0)
def c_concat : ACode := .seq (.ops [⟨some 2, .mv (.c (.sl .nil [])), none⟩]) (.seq (.ops [⟨some 3, .mv (.c (.int .i64 0)), none⟩]) (.seq (.seq (.ops [⟨some 9, .mv (.t 0), none⟩, ⟨some 10, .len (.t 9), none⟩, ⟨some 11, .mv (.c (.int .i64 0)), none⟩]) (.block 0 (.loop c_concat_L0))) c_concat_S1))
theorem is_concat (w0 : World) : fnComp (cx w0).P 208 = some (erase c_concat, [.t 2], 36) := by kernel_rfl
/-- bursary/acl.rules: function 154. -/
def c_rules : ACode := .seq (.ops [⟨some 2, .mv (.c (.sl .nil [])), none⟩]) (.seq (.ops [⟨some 3, .mv (.t 0), none⟩, ⟨some 4, .call (.f 209) [.t 3, .f 210], none⟩, ⟨some 5, .call (.f 208) [.t 4], none⟩, ⟨some 2, .mv (.t 5), none⟩]) .ret)
theorem is_rules (w0 : World) : fnComp (cx w0).P 154 = some (erase c_rules, [.t 2], 6) := by kernel_rfl
/-- bursary/acl.Says: function 70. -/
def c_says_L0 : ACode := .seq (.ops [⟨some 17, .cmp .lss (.t 16) (.t 15), none⟩]) (.seq (.cond (.t 17) .skip (.exit 0)) (.seq (.block 1 (.seq (.ops [⟨some 18, .iaddr 2 (.t 14) (.t 16), none⟩, ⟨some 19, .load true 2 (.t 18), none⟩, ⟨some 11, .alloc [.str [], .int .u8 0], none⟩, ⟨none, .store 2 (.t 11) (.t 19), none⟩]) (.seq (.seq (.ops [⟨some 20, .faddr 0 (.t 11), none⟩, ⟨some 21, .load false 1 (.t 20), none⟩, ⟨some 22, .mv (.t 1), none⟩, ⟨some 23, .call (.f 155) [.t 21, .t 22], none⟩, ⟨some 24, .un .not (.t 23), none⟩]) (.cond (.t 24) (.exit 1) .skip)) (.seq (.ops [⟨some 25, .faddr 0 (.t 11), none⟩, ⟨some 26, .load false 1 (.t 25), none⟩, ⟨some 27, .mv (.t 7), none⟩, ⟨some 28, .call (.f 156) [.t 26, .t 27], none⟩, ⟨some 12, .mv (.t 28), none⟩]) (.block 2 (.seq (.ops [⟨some 30, .mv (.t 9), none⟩, ⟨some 31, .un .not (.t 30), none⟩, ⟨some 32, .mv (.t 31), none⟩, ⟨some 33, .mv (.t 12), some (32, false)⟩, ⟨some 34, .cmp .gtr (.t 33) (.c (.int .i64 0)), some (32, false)⟩, ⟨some 35, .pick (.t 32) (.c (.bool true)) (.t 34), none⟩, ⟨some 29, .mv (.t 35), none⟩]) (.cond (.t 29) (.draw [⟨some 36, .faddr 0 (.t 11), none⟩, ⟨some 37, .load false 1 (.t 36), none⟩, ⟨some 38, .faddr 1 (.t 11), none⟩, ⟨some 39, .load false 1 (.t 38), none⟩, ⟨some 7, .mv (.t 37), none⟩, ⟨some 8, .mv (.t 39), none⟩, ⟨some 9, .mv (.c (.bool true)), none⟩]) (.seq (.ops [⟨some 41, .faddr 0 (.t 11), none⟩, ⟨some 42, .load false 1 (.t 41), none⟩, ⟨some 43, .mv (.t 7), none⟩, ⟨some 44, .cmp .eql (.t 42) (.t 43), none⟩, ⟨some 40, .mv (.t 44), none⟩]) (.cond (.t 40) (.ops [⟨some 45, .mv (.t 8), none⟩, ⟨some 46, .faddr 1 (.t 11), none⟩, ⟨some 47, .load false 1 (.t 46), none⟩, ⟨some 48, .arith .or (.t 45) (.t 47), none⟩, ⟨some 8, .mv (.t 48), none⟩]) .skip))))))))) (.ops [⟨some 49, .arith .add (.t 16) (.c (.int .i64 1)), none⟩, ⟨some 16, .mv (.t 49), none⟩])))
def c_says_S0 : ACode := .seq (.seq (.ops [⟨some 50, .mv (.t 8), none⟩, ⟨some 51, .arith .and (.t 50) (.c (.int .u8 32)), none⟩, ⟨some 52, .cmp .neq (.t 51) (.c (.int .u8 0)), none⟩]) (.cond (.t 52) (.ops [⟨some 8, .mv (.c (.int .u8 32)), none⟩]) .skip)) (.seq (.ops [⟨some 53, .mv (.t 7), none⟩, ⟨some 54, .mv (.t 8), none⟩, ⟨some 55, .mv (.t 9), none⟩, ⟨some 4, .mv (.t 53), none⟩, ⟨some 5, .mv (.t 54), none⟩, ⟨some 6, .mv (.t 55), none⟩]) .ret)
def c_says : ACode := .seq (.ops [⟨some 4, .mv (.c (.str [])), none⟩, ⟨some 5, .mv (.c (.int .u8 0)), none⟩, ⟨some 6, .mv (.c (.bool false)), none⟩]) (.seq (.ops [⟨some 7, .mv (.c (.str [])), none⟩, ⟨some 8, .mv (.c (.int .u8 0)), none⟩, ⟨some 9, .mv (.c (.bool false)), none⟩]) (.seq (.seq (.ops [⟨some 13, .mv (.t 0), none⟩, ⟨some 14, .call (.f 154) [.t 13], none⟩, ⟨some 15, .len (.t 14), none⟩, ⟨some 16, .mv (.c (.int .i64 0)), none⟩]) (.block 0 (.loop c_says_L0))) c_says_S0))
theorem is_says (w0 : World) : fnComp (cx w0).P 70 = some (erase c_says, [.t 4, .t 5, .t 6], 56) := by kernel_rfl
/-- bursary/acl.Allows: function 69. -/
def c_allows : ACode := .seq (.ops [⟨some 6, .mv (.c (.bool false)), none⟩]) (.seq (.ops [⟨some 11, .mv (.t 0), none⟩, ⟨some 12, .mv (.t 1), none⟩, ⟨some 13, .call (.f 70) [.t 11, .t 12], none⟩, ⟨some 10, .mv (.t 13), none⟩, ⟨some 14, .ext (.t 10) 0, none⟩, ⟨some 15, .ext (.t 10) 1, none⟩, ⟨some 16, .ext (.t 10) 2, none⟩, ⟨some 7, .mv (.t 14), none⟩, ⟨some 8, .mv (.t 15), none⟩, ⟨some 9, .mv (.t 16), none⟩]) (.seq (.ops [⟨some 17, .mv (.t 2), none⟩, ⟨some 18, .call (.f 84) [.t 17], none⟩, ⟨some 19, .len (.t 18), none⟩, ⟨some 20, .cmp .eql (.t 19) (.c (.int .i64 1)), none⟩, ⟨some 21, .mv (.t 20), none⟩, ⟨some 22, .mv (.t 2), some (21, true)⟩, ⟨some 23, .arith .and (.t 22) (.c (.int .u8 31)), some (21, true)⟩, ⟨some 24, .mv (.t 2), some (21, true)⟩, ⟨some 25, .cmp .eql (.t 23) (.t 24), some (21, true)⟩, ⟨some 26, .pick (.t 21) (.t 25) (.c (.bool false)), none⟩, ⟨some 27, .mv (.t 26), none⟩, ⟨some 28, .mv (.t 8), some (27, true)⟩, ⟨some 29, .mv (.t 2), some (27, true)⟩, ⟨some 30, .arith .and (.t 28) (.t 29), some (27, true)⟩, ⟨some 31, .cmp .neq (.t 30) (.c (.int .u8 0)), some (27, true)⟩, ⟨some 32, .pick (.t 27) (.t 31) (.c (.bool false)), none⟩, ⟨some 6, .mv (.t 32), none⟩]) .ret))
theorem is_allows (w0 : World) : fnComp (cx w0).P 69 = some (erase c_allows, [.t 6], 33) := by kernel_rfl
/-- bursary/acl.Root: function 73. -/
def c_root : ACode := .seq (.ops [⟨some 0, .mv (.c (.sl .nil [])), none⟩]) (.seq (.ops [⟨some 1, .build [.str [], .int .u8 0] [(0, (1, .c (.str [42]))), (1, (1, .c (.int .u8 31)))], none⟩, ⟨some 2, .mk (.agg [.str [], .int .u8 0]) 1 [(0, .t 1)], none⟩, ⟨some 0, .mv (.t 2), none⟩]) .ret)
theorem is_root (w0 : World) : fnComp (cx w0).P 73 = some (erase c_root, [.t 0], 3) := by kernel_rfl

def polsAV (l : List (List Rule)) : List AV := l.map fun p => .sl .sh (rulesAV p)
/-- Not more, and not longer, than is looked at. -/
def Small (l : List (List Rule)) : Prop := l.length ≤ 100 ∧ ∀ p ∈ l, p.length ≤ 1000 ∧ ∀ r ∈ p, r.1.length < 4294967281

theorem rules1_ok (w0 : World) (hM : Mx w0) (l : List Rule) (hl : l.length ≤ 1000000) (hp : ∀ r ∈ l, r.1.length < 4294967281) : PC w0 210 [.sl .sh (rulesAV l)] (.bool (checkP l)) := by
  intro st
  refine ACalls.of_vc (A := c_rules1) (is_rules1 w0) (by simp) ?_
  unfold c_rules1
  simp only [VC, VX, VV, SU, RC, VQ, VQ2, opW, ne_eq, not_false_eq_true, not_true_eq_false, Nat.le_refl, false_implies, reduceIte, Nat.reduceEqDiff, Nat.reduceAdd, Nat.reduceSub, Nat.reduceLeDiff, Nat.reduceLT, Nat.reduceMul, Nat.reduceBEq, reduceCtorEq, Int.natCast_nonneg, Int.toNat_natCast, true_implies, implies_true, List.length_cons, List.length_nil, List.drop_succ_cons, List.drop_zero, List.take_succ_cons, List.take_zero, List.map_cons, List.map_nil, List.getD_cons_zero, List.getD_cons_succ, List.all_cons, List.all_nil, Bool.and_true, Bool.and_self, decide_true, decide_false, Bool.not_true, Bool.not_false, Bool.true_or, Bool.false_or, Bool.or_true, Bool.or_false, Bool.true_and, Bool.false_and, Bool.and_false, bytesAV_length, beq_self_eq_true, and_self, List.append_assoc, List.cons_append, List.nil_append]
  refine (check_ok w0 hM .sh l hl hp st).mono ?_
  rintro r st2 ⟨rfl, hle2⟩
  cases h : checkP l with
  | true =>
    simp only [VC, VX, VV, SU, RC, VQ, VQ2, opW, ne_eq, not_false_eq_true, not_true_eq_false, Nat.le_refl, false_implies, reduceIte, Nat.reduceEqDiff, Nat.reduceAdd, Nat.reduceSub, Nat.reduceLeDiff, Nat.reduceLT, Nat.reduceMul, Nat.reduceBEq, reduceCtorEq, Int.natCast_nonneg, Int.toNat_natCast, true_implies, implies_true, List.length_cons, List.length_nil, List.drop_succ_cons, List.drop_zero, List.take_succ_cons, List.take_zero, List.map_cons, List.map_nil, List.getD_cons_zero, List.getD_cons_succ, List.all_cons, List.all_nil, Bool.and_true, Bool.and_self, decide_true, decide_false, Bool.not_true, Bool.not_false, Bool.true_or, Bool.false_or, Bool.or_true, Bool.or_false, Bool.true_and, Bool.false_and, Bool.and_false, bytesAV_length, beq_self_eq_true, and_self, List.append_assoc, List.cons_append, List.nil_append, eqW]
    first | exact hle2 | exact ⟨rfl, hle2⟩ | exact ⟨by simp, hle2⟩
  | false =>
    simp only [VC, VX, VV, SU, RC, VQ, VQ2, opW, ne_eq, not_false_eq_true, not_true_eq_false, Nat.le_refl, false_implies, reduceIte, Nat.reduceEqDiff, Nat.reduceAdd, Nat.reduceSub, Nat.reduceLeDiff, Nat.reduceLT, Nat.reduceMul, Nat.reduceBEq, reduceCtorEq, Int.natCast_nonneg, Int.toNat_natCast, true_implies, implies_true, List.length_cons, List.length_nil, List.drop_succ_cons, List.drop_zero, List.take_succ_cons, List.take_zero, List.map_cons, List.map_nil, List.getD_cons_zero, List.getD_cons_succ, List.all_cons, List.all_nil, Bool.and_true, Bool.and_self, decide_true, decide_false, Bool.not_true, Bool.not_false, Bool.true_or, Bool.false_or, Bool.or_true, Bool.or_false, Bool.true_and, Bool.false_and, Bool.and_false, bytesAV_length, beq_self_eq_true, and_self, List.append_assoc, List.cons_append, List.nil_append, eqW, errAV]
    first | exact hle2 | exact ⟨rfl, hle2⟩ | exact ⟨by simp, hle2⟩

theorem kept_ok (w0 : World) (hM : Mx w0) (tk : Tk) (l : List (List Rule)) (hs : Small l) (st : St) : ACalls (cx w0) 209 [.sl tk (polsAV l), .fn (.func 210) [] []] st fun r st' => (∃ tk2, r = .sl tk2 (polsAV (l.filter checkP))) ∧ st.le st' := by
  refine ACalls.of_vc (A := c_kept) (is_kept w0) (by simp) ?_
  unfold c_kept
  have hl : (polsAV l).length = l.length := by simp [polsAV]
  have h100 := hs.1
  simp only [VC, VX, VV, SU, RC, VQ, VQ2, opW, ne_eq, not_false_eq_true, not_true_eq_false, Nat.le_refl, false_implies, reduceIte, Nat.reduceEqDiff, Nat.reduceAdd, Nat.reduceSub, Nat.reduceLeDiff, Nat.reduceLT, Nat.reduceMul, Nat.reduceBEq, reduceCtorEq, Int.natCast_nonneg, Int.toNat_natCast, true_implies, implies_true, List.length_cons, List.length_nil, List.drop_succ_cons, List.drop_zero, List.take_succ_cons, List.take_zero, List.map_cons, List.map_nil, List.getD_cons_zero, List.getD_cons_succ, List.all_cons, List.all_nil, Bool.and_true, Bool.and_self, decide_true, decide_false, Bool.not_true, Bool.not_false, Bool.true_or, Bool.false_or, Bool.or_true, Bool.or_false, Bool.true_and, Bool.false_and, Bool.and_false, bytesAV_length, beq_self_eq_true, and_self, List.append_assoc, List.cons_append, List.nil_append, hl]
  refine VLoop.up l.length (fun k e st' => e.get 1 = .fn (.func 210) [] [] ∧ e.get 8 = .sl tk (polsAV l) ∧ e.get 9 = .int .i64 l.length ∧ e.get 10 = .int .i64 k ∧ k ≤ l.length ∧ ∃ tk2, e.get 5 = .sl tk2 (polsAV ((l.take k).filter checkP)) ∧ Acc 1 st tk2 st') ?_ ?_
  · simp only [VC, VX, VV, SU, RC, VQ, VQ2, opW, ne_eq, not_false_eq_true, not_true_eq_false, Nat.le_refl, false_implies, reduceIte, Nat.reduceEqDiff, Nat.reduceAdd, Nat.reduceSub, Nat.reduceLeDiff, Nat.reduceLT, Nat.reduceMul, Nat.reduceBEq, reduceCtorEq, Int.natCast_nonneg, Int.toNat_natCast, true_implies, implies_true, List.length_cons, List.length_nil, List.drop_succ_cons, List.drop_zero, List.take_succ_cons, List.take_zero, List.map_cons, List.map_nil, List.getD_cons_zero, List.getD_cons_succ, List.all_cons, List.all_nil, Bool.and_true, Bool.and_self, decide_true, decide_false, Bool.not_true, Bool.not_false, Bool.true_or, Bool.false_or, Bool.or_true, Bool.or_false, Bool.true_and, Bool.false_and, Bool.and_false, bytesAV_length, beq_self_eq_true, and_self, List.append_assoc, List.cons_append, List.nil_append]
    exact ⟨rfl, Nat.zero_le _, .nil, rfl, Acc.nil (St.le_refl _)⟩
  · rintro k e st' ⟨h1, h8, h9, h10, hk, tk2, h5, hacc⟩
    unfold c_kept_L0
    simp only [VC, VX, VV, SU, RC, VQ, VQ2, opW, ne_eq, not_false_eq_true, not_true_eq_false, Nat.le_refl, false_implies, reduceIte, Nat.reduceEqDiff, Nat.reduceAdd, Nat.reduceSub, Nat.reduceLeDiff, Nat.reduceLT, Nat.reduceMul, Nat.reduceBEq, reduceCtorEq, Int.natCast_nonneg, Int.toNat_natCast, true_implies, implies_true, List.length_cons, List.length_nil, List.drop_succ_cons, List.drop_zero, List.take_succ_cons, List.take_zero, List.map_cons, List.map_nil, List.getD_cons_zero, List.getD_cons_succ, List.all_cons, List.all_nil, Bool.and_true, Bool.and_self, decide_true, decide_false, Bool.not_true, Bool.not_false, Bool.true_or, Bool.false_or, Bool.or_true, Bool.or_false, Bool.true_and, Bool.false_and, Bool.and_false, bytesAV_length, beq_self_eq_true, and_self, List.append_assoc, List.cons_append, List.nil_append, h1, h8, h9, h10]
    refine VCond.dec (fun hlt => ?_) (fun hge => ?_)
    · have hlt' : k < l.length := by omega
      have hg : (polsAV l).getD k .undef = .sl .sh (rulesAV l[k]) := by simp [polsAV, List.getD_eq_getElem?_getD, hlt']
      have hsk := hs.2 _ (List.getElem_mem hlt')
      have hfl : (polsAV ((l.take k).filter checkP)).length ≤ k := by
        simp only [polsAV, List.length_map]
        exact Nat.le_trans (List.length_filter_le _ _) (by simp; omega)
      simp only [VC, VX, VV, SU, RC, VQ, VQ2, opW, ne_eq, not_false_eq_true, not_true_eq_false, Nat.le_refl, false_implies, reduceIte, Nat.reduceEqDiff, Nat.reduceAdd, Nat.reduceSub, Nat.reduceLeDiff, Nat.reduceLT, Nat.reduceMul, Nat.reduceBEq, reduceCtorEq, Int.natCast_nonneg, Int.toNat_natCast, true_implies, implies_true, List.length_cons, List.length_nil, List.drop_succ_cons, List.drop_zero, List.take_succ_cons, List.take_zero, List.map_cons, List.map_nil, List.getD_cons_zero, List.getD_cons_succ, List.all_cons, List.all_nil, Bool.and_true, Bool.and_self, decide_true, decide_false, Bool.not_true, Bool.not_false, Bool.true_or, Bool.false_or, Bool.or_true, Bool.or_false, Bool.true_and, Bool.false_and, Bool.and_false, bytesAV_length, beq_self_eq_true, and_self, List.append_assoc, List.cons_append, List.nil_append, h1, h8, h9, h10, hlt, hg, hl]
      refine (rules1_ok w0 hM _ (by omega) hsk.2 st').mono ?_
      rintro r st2 ⟨rfl, hle2⟩
      have hacc := hacc.le hle2
      cases hc : checkP l[k] with
      | true =>
        simp only [VC, VX, VV, SU, RC, VQ, VQ2, opW, ne_eq, not_false_eq_true, not_true_eq_false, Nat.le_refl, false_implies, reduceIte, Nat.reduceEqDiff, Nat.reduceAdd, Nat.reduceSub, Nat.reduceLeDiff, Nat.reduceLT, Nat.reduceMul, Nat.reduceBEq, reduceCtorEq, Int.natCast_nonneg, Int.toNat_natCast, true_implies, implies_true, List.length_cons, List.length_nil, List.drop_succ_cons, List.drop_zero, List.take_succ_cons, List.take_zero, List.map_cons, List.map_nil, List.getD_cons_zero, List.getD_cons_succ, List.all_cons, List.all_nil, Bool.and_true, Bool.and_self, decide_true, decide_false, Bool.not_true, Bool.not_false, Bool.true_or, Bool.false_or, Bool.or_true, Bool.or_false, Bool.true_and, Bool.false_and, Bool.and_false, bytesAV_length, beq_self_eq_true, and_self, List.append_assoc, List.cons_append, List.nil_append, h1, h8, h9, h10, h5]
        intro t ht
        have hacc := hacc.new .tok ht
        refine ⟨hacc.1, by simp [polsAV, AV.csize, AV.cells], ⟨by omega, by unfold maxLen; omega⟩, fun tk' st4 a1 a2 a3 => ⟨hlt', by rw [wrap_nat (by omega)], by omega, tk', ?_, hacc.app a1 a2 a3⟩⟩
        rw [List.take_succ_eq_append_getElem hlt', List.filter_append]
        simp [polsAV, hc]
      | false =>
        simp only [VC, VX, VV, SU, RC, VQ, VQ2, opW, ne_eq, not_false_eq_true, not_true_eq_false, Nat.le_refl, false_implies, reduceIte, Nat.reduceEqDiff, Nat.reduceAdd, Nat.reduceSub, Nat.reduceLeDiff, Nat.reduceLT, Nat.reduceMul, Nat.reduceBEq, reduceCtorEq, Int.natCast_nonneg, Int.toNat_natCast, true_implies, implies_true, List.length_cons, List.length_nil, List.drop_succ_cons, List.drop_zero, List.take_succ_cons, List.take_zero, List.map_cons, List.map_nil, List.getD_cons_zero, List.getD_cons_succ, List.all_cons, List.all_nil, Bool.and_true, Bool.and_self, decide_true, decide_false, Bool.not_true, Bool.not_false, Bool.true_or, Bool.false_or, Bool.or_true, Bool.or_false, Bool.true_and, Bool.false_and, Bool.and_false, bytesAV_length, beq_self_eq_true, and_self, List.append_assoc, List.cons_append, List.nil_append, h1, h8, h9, h10, h5]
        refine ⟨hlt', by rw [wrap_nat (by omega)], by omega, tk2, ?_, hacc⟩
        rw [List.take_succ_eq_append_getElem hlt', List.filter_append]
        simp [hc]
    · have hk' : k = l.length := by omega
      subst hk'
      unfold c_kept_S0
      simp only [VC, VX, VV, SU, RC, VQ, VQ2, opW, ne_eq, not_false_eq_true, not_true_eq_false, Nat.le_refl, false_implies, reduceIte, Nat.reduceEqDiff, Nat.reduceAdd, Nat.reduceSub, Nat.reduceLeDiff, Nat.reduceLT, Nat.reduceMul, Nat.reduceBEq, reduceCtorEq, Int.natCast_nonneg, Int.toNat_natCast, true_implies, implies_true, List.length_cons, List.length_nil, List.drop_succ_cons, List.drop_zero, List.take_succ_cons, List.take_zero, List.map_cons, List.map_nil, List.getD_cons_zero, List.getD_cons_succ, List.all_cons, List.all_nil, Bool.and_true, Bool.and_self, decide_true, decide_false, Bool.not_true, Bool.not_false, Bool.true_or, Bool.false_or, Bool.or_true, Bool.or_false, Bool.true_and, Bool.false_and, Bool.and_false, bytesAV_length, beq_self_eq_true, and_self, List.append_assoc, List.cons_append, List.nil_append, h5]
      exact ⟨⟨tk2, by simp⟩, hacc.2.1⟩

theorem grow_ok (w0 : World) (n : Nat) (hn : n ≤ 1000000) (st : St) : ACalls (cx w0) 244 [.sl .nil [], .int .i64 n] st fun r st' => ∃ tk, r = .sl tk [] ∧ Acc 2 st tk st' := by
  have hi : ((cx w0).P.info? (Tryd.grow244_ren.t 25)).map (fun i => (i.zero, i.size, i.bytes)) = some (some (.agg #[.string ⟨#[]⟩, .int .u8 0]), 2, 24) := by kernel_rfl
  have h := ACalls.grow (C := cx w0) (st := st) (ρ := Tryd.grow244_ren) Tryd.grow244 (is_grow w0) (.agg #[.string ⟨#[]⟩, .int .u8 0]) 2 24 hi (by decide) rfl n (by omega) (by omega)
  refine h.mono ?_
  rintro r st' (⟨rfl, rfl⟩ | ⟨t, ht, rfl, rfl⟩)
  · exact ⟨_, rfl, Acc.nil (St.le_refl _)⟩
  · exact ⟨_, rfl, Acc.tip (St.le_refl _) ht⟩

theorem concat_ok (w0 : World) (tk : Tk) (l : List (List Rule)) (hs : l.length ≤ 100 ∧ ∀ p ∈ l, p.length ≤ 1000) (st : St) : ACalls (cx w0) 208 [.sl tk (polsAV l)] st fun r st' => (∃ tk2, r = .sl tk2 (rulesAV l.flatten)) ∧ st.le st' := by
  refine ACalls.of_vc (A := c_concat) (is_concat w0) (by simp) ?_
  unfold c_concat
  have hl : (polsAV l).length = l.length := by simp [polsAV]
  have hsum : ∀ k, k ≤ l.length → (l.take k).flatten.length ≤ 1000 * k := by
    intro k
    induction k with
    | zero => simp
    | succ k ih =>
      intro hk
      have hlt : k < l.length := hk
      have := hs.2 _ (List.getElem_mem hlt)
      rw [List.take_succ_eq_append_getElem hlt, List.flatten_append, List.length_append]
      have := ih (by omega)
      simp only [List.flatten_cons, List.flatten_nil, List.append_nil]
      omega
  have hstep : ∀ k (h : k < l.length), (l.take (k + 1)).flatten = (l.take k).flatten ++ l[k] := by
    intro k h
    rw [List.take_succ_eq_append_getElem h, List.flatten_append]
    simp
  simp only [VC, VX, VV, SU, RC, VQ, VQ2, opW, ne_eq, not_false_eq_true, not_true_eq_false, Nat.le_refl, false_implies, reduceIte, Nat.reduceEqDiff, Nat.reduceAdd, Nat.reduceSub, Nat.reduceLeDiff, Nat.reduceLT, Nat.reduceMul, Nat.reduceBEq, reduceCtorEq, Int.natCast_nonneg, Int.toNat_natCast, true_implies, implies_true, List.length_cons, List.length_nil, List.drop_succ_cons, List.drop_zero, List.take_succ_cons, List.take_zero, List.map_cons, List.map_nil, List.getD_cons_zero, List.getD_cons_succ, List.all_cons, List.all_nil, Bool.and_true, Bool.and_self, decide_true, decide_false, Bool.not_true, Bool.not_false, Bool.true_or, Bool.false_or, Bool.or_true, Bool.or_false, Bool.true_and, Bool.false_and, Bool.and_false, bytesAV_length, beq_self_eq_true, and_self, List.append_assoc, List.cons_append, List.nil_append, hl]
  refine VLoop.up l.length (fun k e st' => e.get 0 = .sl tk (polsAV l) ∧ e.get 9 = .sl tk (polsAV l) ∧ e.get 10 = .int .i64 l.length ∧ e.get 11 = .int .i64 k ∧ k ≤ l.length ∧ e.get 3 = .int .i64 (l.take k).flatten.length ∧ st.le st') ?_ ?_
  · simp only [VC, VX, VV, SU, RC, VQ, VQ2, opW, ne_eq, not_false_eq_true, not_true_eq_false, Nat.le_refl, false_implies, reduceIte, Nat.reduceEqDiff, Nat.reduceAdd, Nat.reduceSub, Nat.reduceLeDiff, Nat.reduceLT, Nat.reduceMul, Nat.reduceBEq, reduceCtorEq, Int.natCast_nonneg, Int.toNat_natCast, true_implies, implies_true, List.length_cons, List.length_nil, List.drop_succ_cons, List.drop_zero, List.take_succ_cons, List.take_zero, List.map_cons, List.map_nil, List.getD_cons_zero, List.getD_cons_succ, List.all_cons, List.all_nil, Bool.and_true, Bool.and_self, decide_true, decide_false, Bool.not_true, Bool.not_false, Bool.true_or, Bool.false_or, Bool.or_true, Bool.or_false, Bool.true_and, Bool.false_and, Bool.and_false, bytesAV_length, beq_self_eq_true, and_self, List.append_assoc, List.cons_append, List.nil_append]
    exact ⟨rfl, Nat.zero_le _, rfl, St.le_refl _⟩
  · rintro k e st' ⟨h0, h9, h10, h11, hk, h3, hle⟩
    unfold c_concat_L0
    simp only [VC, VX, VV, SU, RC, VQ, VQ2, opW, ne_eq, not_false_eq_true, not_true_eq_false, Nat.le_refl, false_implies, reduceIte, Nat.reduceEqDiff, Nat.reduceAdd, Nat.reduceSub, Nat.reduceLeDiff, Nat.reduceLT, Nat.reduceMul, Nat.reduceBEq, reduceCtorEq, Int.natCast_nonneg, Int.toNat_natCast, true_implies, implies_true, List.length_cons, List.length_nil, List.drop_succ_cons, List.drop_zero, List.take_succ_cons, List.take_zero, List.map_cons, List.map_nil, List.getD_cons_zero, List.getD_cons_succ, List.all_cons, List.all_nil, Bool.and_true, Bool.and_self, decide_true, decide_false, Bool.not_true, Bool.not_false, Bool.true_or, Bool.false_or, Bool.or_true, Bool.or_false, Bool.true_and, Bool.false_and, Bool.and_false, bytesAV_length, beq_self_eq_true, and_self, List.append_assoc, List.cons_append, List.nil_append, h0, h9, h10, h11, h3]
    refine VCond.dec (fun hlt => ?_) (fun hge => ?_)
    · have hlt' : k < l.length := by omega
      have hg : (polsAV l).getD k .undef = .sl .sh (rulesAV l[k]) := by simp [polsAV, List.getD_eq_getElem?_getD, hlt']
      have h1 := hs.2 _ (List.getElem_mem hlt')
      have h2 := hsum k hk
      have hw : IntKind.i64.wrap (((l.take k).flatten.length : Int) + (l[k].length : Int)) = (((l.take k).flatten.length + l[k].length : Nat) : Int) := by rw [wrap_id (by omega) (by omega)]; omega
      have hn : ¬ ((((l.take k).flatten.length + l[k].length : Nat) : Int) < 0) := by omega
      simp only [VC, VX, VV, SU, RC, VQ, VQ2, opW, ne_eq, not_false_eq_true, not_true_eq_false, Nat.le_refl, false_implies, reduceIte, Nat.reduceEqDiff, Nat.reduceAdd, Nat.reduceSub, Nat.reduceLeDiff, Nat.reduceLT, Nat.reduceMul, Nat.reduceBEq, reduceCtorEq, Int.natCast_nonneg, Int.toNat_natCast, true_implies, implies_true, List.length_cons, List.length_nil, List.drop_succ_cons, List.drop_zero, List.take_succ_cons, List.take_zero, List.map_cons, List.map_nil, List.getD_cons_zero, List.getD_cons_succ, List.all_cons, List.all_nil, Bool.and_true, Bool.and_self, decide_true, decide_false, Bool.not_true, Bool.not_false, Bool.true_or, Bool.false_or, Bool.or_true, Bool.or_false, Bool.true_and, Bool.false_and, Bool.and_false, bytesAV_length, beq_self_eq_true, and_self, List.append_assoc, List.cons_append, List.nil_append, h0, h9, h10, h11, h3, hlt, hg, hl, rulesAV_length, hw, hn]
      refine ⟨hlt', by rw [wrap_nat (by omega)], by omega, ?_, hle⟩
      rw [hstep k hlt', List.length_append]
    · have hk' : k = l.length := by omega
      subst hk'
      unfold c_concat_S1
      have h2 := hsum _ hk
      simp only [VC, VX, VV, SU, RC, VQ, VQ2, opW, ne_eq, not_false_eq_true, not_true_eq_false, Nat.le_refl, false_implies, reduceIte, Nat.reduceEqDiff, Nat.reduceAdd, Nat.reduceSub, Nat.reduceLeDiff, Nat.reduceLT, Nat.reduceMul, Nat.reduceBEq, reduceCtorEq, Int.natCast_nonneg, Int.toNat_natCast, true_implies, implies_true, List.length_cons, List.length_nil, List.drop_succ_cons, List.drop_zero, List.take_succ_cons, List.take_zero, List.map_cons, List.map_nil, List.getD_cons_zero, List.getD_cons_succ, List.all_cons, List.all_nil, Bool.and_true, Bool.and_self, decide_true, decide_false, Bool.not_true, Bool.not_false, Bool.true_or, Bool.false_or, Bool.or_true, Bool.or_false, Bool.true_and, Bool.false_and, Bool.and_false, bytesAV_length, beq_self_eq_true, and_self, List.append_assoc, List.cons_append, List.nil_append, h0, h9, h10, h11, h3]
      refine (grow_ok w0 _ (by omega) st').mono ?_
      rintro r st2 ⟨tk2, rfl, hacc⟩
      have hacc : Acc 2 st tk2 st2 := ⟨hacc.1, St.le_trans hle hacc.2.1, fun i hi => St.le_none hle (hacc.2.2 i hi)⟩
      simp only [VC, VX, VV, SU, RC, VQ, VQ2, opW, ne_eq, not_false_eq_true, not_true_eq_false, Nat.le_refl, false_implies, reduceIte, Nat.reduceEqDiff, Nat.reduceAdd, Nat.reduceSub, Nat.reduceLeDiff, Nat.reduceLT, Nat.reduceMul, Nat.reduceBEq, reduceCtorEq, Int.natCast_nonneg, Int.toNat_natCast, true_implies, implies_true, List.length_cons, List.length_nil, List.drop_succ_cons, List.drop_zero, List.take_succ_cons, List.take_zero, List.map_cons, List.map_nil, List.getD_cons_zero, List.getD_cons_succ, List.all_cons, List.all_nil, Bool.and_true, Bool.and_self, decide_true, decide_false, Bool.not_true, Bool.not_false, Bool.true_or, Bool.false_or, Bool.or_true, Bool.or_false, Bool.true_and, Bool.false_and, Bool.and_false, bytesAV_length, beq_self_eq_true, and_self, List.append_assoc, List.cons_append, List.nil_append, h0, h9, h10, h11, h3, hl]
      refine VLoop.up l.length (fun k e st' => e.get 25 = .sl tk (polsAV l) ∧ e.get 26 = .int .i64 l.length ∧ e.get 27 = .int .i64 k ∧ k ≤ l.length ∧ ∃ tk2, e.get 6 = .sl tk2 (rulesAV (l.take k).flatten) ∧ Acc 2 st tk2 st') ?_ ?_
      · simp only [VC, VX, VV, SU, RC, VQ, VQ2, opW, ne_eq, not_false_eq_true, not_true_eq_false, Nat.le_refl, false_implies, reduceIte, Nat.reduceEqDiff, Nat.reduceAdd, Nat.reduceSub, Nat.reduceLeDiff, Nat.reduceLT, Nat.reduceMul, Nat.reduceBEq, reduceCtorEq, Int.natCast_nonneg, Int.toNat_natCast, true_implies, implies_true, List.length_cons, List.length_nil, List.drop_succ_cons, List.drop_zero, List.take_succ_cons, List.take_zero, List.map_cons, List.map_nil, List.getD_cons_zero, List.getD_cons_succ, List.all_cons, List.all_nil, Bool.and_true, Bool.and_self, decide_true, decide_false, Bool.not_true, Bool.not_false, Bool.true_or, Bool.false_or, Bool.or_true, Bool.or_false, Bool.true_and, Bool.false_and, Bool.and_false, bytesAV_length, beq_self_eq_true, and_self, List.append_assoc, List.cons_append, List.nil_append]
        exact ⟨rfl, Nat.zero_le _, tk2, rfl, hacc⟩
      · rintro k e st' ⟨h25, h26, h27, hk, tk2, h6, hacc⟩
        unfold c_concat_L1
        simp only [VC, VX, VV, SU, RC, VQ, VQ2, opW, ne_eq, not_false_eq_true, not_true_eq_false, Nat.le_refl, false_implies, reduceIte, Nat.reduceEqDiff, Nat.reduceAdd, Nat.reduceSub, Nat.reduceLeDiff, Nat.reduceLT, Nat.reduceMul, Nat.reduceBEq, reduceCtorEq, Int.natCast_nonneg, Int.toNat_natCast, true_implies, implies_true, List.length_cons, List.length_nil, List.drop_succ_cons, List.drop_zero, List.take_succ_cons, List.take_zero, List.map_cons, List.map_nil, List.getD_cons_zero, List.getD_cons_succ, List.all_cons, List.all_nil, Bool.and_true, Bool.and_self, decide_true, decide_false, Bool.not_true, Bool.not_false, Bool.true_or, Bool.false_or, Bool.or_true, Bool.or_false, Bool.true_and, Bool.false_and, Bool.and_false, bytesAV_length, beq_self_eq_true, and_self, List.append_assoc, List.cons_append, List.nil_append, h25, h26, h27, h6]
        refine VCond.dec (fun hlt => ?_) (fun hge => ?_)
        · have hlt' : k < l.length := by omega
          have hg : (polsAV l).getD k .undef = .sl .sh (rulesAV l[k]) := by simp [polsAV, List.getD_eq_getElem?_getD, hlt']
          have h1 := hs.2 _ (List.getElem_mem hlt')
          have h2 := hsum k hk
          simp only [VC, VX, VV, SU, RC, VQ, VQ2, opW, ne_eq, not_false_eq_true, not_true_eq_false, Nat.le_refl, false_implies, reduceIte, Nat.reduceEqDiff, Nat.reduceAdd, Nat.reduceSub, Nat.reduceLeDiff, Nat.reduceLT, Nat.reduceMul, Nat.reduceBEq, reduceCtorEq, Int.natCast_nonneg, Int.toNat_natCast, true_implies, implies_true, List.length_cons, List.length_nil, List.drop_succ_cons, List.drop_zero, List.take_succ_cons, List.take_zero, List.map_cons, List.map_nil, List.getD_cons_zero, List.getD_cons_succ, List.all_cons, List.all_nil, Bool.and_true, Bool.and_self, decide_true, decide_false, Bool.not_true, Bool.not_false, Bool.true_or, Bool.false_or, Bool.or_true, Bool.or_false, Bool.true_and, Bool.false_and, Bool.and_false, bytesAV_length, beq_self_eq_true, and_self, List.append_assoc, List.cons_append, List.nil_append, h25, h26, h27, h6, hlt, hg, hl, rulesAV_length, rulesAV_csize]
          refine ⟨hacc.1, ⟨by omega, by unfold maxLen; omega⟩, fun tk' st4 a1 a2 a3 => ⟨hlt', by rw [wrap_nat (by omega)], by omega, tk', ?_, hacc.app a1 a2 a3⟩⟩
          rw [hstep k hlt']
          simp [rulesAV, ruleAV, AV.sh, AV.sh1]
        · have hk' : k = l.length := by omega
          subst hk'
          unfold c_concat_S0
          simp only [VC, VX, VV, SU, RC, VQ, VQ2, opW, ne_eq, not_false_eq_true, not_true_eq_false, Nat.le_refl, false_implies, reduceIte, Nat.reduceEqDiff, Nat.reduceAdd, Nat.reduceSub, Nat.reduceLeDiff, Nat.reduceLT, Nat.reduceMul, Nat.reduceBEq, reduceCtorEq, Int.natCast_nonneg, Int.toNat_natCast, true_implies, implies_true, List.length_cons, List.length_nil, List.drop_succ_cons, List.drop_zero, List.take_succ_cons, List.take_zero, List.map_cons, List.map_nil, List.getD_cons_zero, List.getD_cons_succ, List.all_cons, List.all_nil, Bool.and_true, Bool.and_self, decide_true, decide_false, Bool.not_true, Bool.not_false, Bool.true_or, Bool.false_or, Bool.or_true, Bool.or_false, Bool.true_and, Bool.false_and, Bool.and_false, bytesAV_length, beq_self_eq_true, and_self, List.append_assoc, List.cons_append, List.nil_append, h6]
          exact ⟨⟨tk2, by rw [List.take_length]⟩, hacc.2.1⟩

theorem rules_ok (w0 : World) (hM : Mx w0) (tk : Tk) (l : List (List Rule)) (hs : Small l) (st : St) : ACalls (cx w0) 154 [.sl tk (polsAV l)] st fun r st' => (∃ tk2, r = .sl tk2 (rulesAV (rulesP l))) ∧ st.le st' := by
  refine ACalls.of_vc (A := c_rules) (is_rules w0) (by simp) ?_
  unfold c_rules
  simp only [VC, VX, VV, SU, RC, VQ, VQ2, opW, ne_eq, not_false_eq_true, not_true_eq_false, Nat.le_refl, false_implies, reduceIte, Nat.reduceEqDiff, Nat.reduceAdd, Nat.reduceSub, Nat.reduceLeDiff, Nat.reduceLT, Nat.reduceMul, Nat.reduceBEq, reduceCtorEq, Int.natCast_nonneg, Int.toNat_natCast, true_implies, implies_true, List.length_cons, List.length_nil, List.drop_succ_cons, List.drop_zero, List.take_succ_cons, List.take_zero, List.map_cons, List.map_nil, List.getD_cons_zero, List.getD_cons_succ, List.all_cons, List.all_nil, Bool.and_true, Bool.and_self, decide_true, decide_false, Bool.not_true, Bool.not_false, Bool.true_or, Bool.false_or, Bool.or_true, Bool.or_false, Bool.true_and, Bool.false_and, Bool.and_false, bytesAV_length, beq_self_eq_true, and_self, List.append_assoc, List.cons_append, List.nil_append]
  refine (kept_ok w0 hM tk l hs st).mono ?_
  rintro r st2 ⟨⟨tk2, rfl⟩, hle⟩
  simp only [VC, VX, VV, SU, RC, VQ, VQ2, opW, ne_eq, not_false_eq_true, not_true_eq_false, Nat.le_refl, false_implies, reduceIte, Nat.reduceEqDiff, Nat.reduceAdd, Nat.reduceSub, Nat.reduceLeDiff, Nat.reduceLT, Nat.reduceMul, Nat.reduceBEq, reduceCtorEq, Int.natCast_nonneg, Int.toNat_natCast, true_implies, implies_true, List.length_cons, List.length_nil, List.drop_succ_cons, List.drop_zero, List.take_succ_cons, List.take_zero, List.map_cons, List.map_nil, List.getD_cons_zero, List.getD_cons_succ, List.all_cons, List.all_nil, Bool.and_true, Bool.and_self, decide_true, decide_false, Bool.not_true, Bool.not_false, Bool.true_or, Bool.false_or, Bool.or_true, Bool.or_false, Bool.true_and, Bool.false_and, Bool.and_false, bytesAV_length, beq_self_eq_true, and_self, List.append_assoc, List.cons_append, List.nil_append]
  refine (concat_ok w0 tk2 _ ⟨Nat.le_trans (List.length_filter_le _ _) hs.1, fun p hp => (hs.2 p (List.mem_filter.1 hp).1).1⟩ st2).mono ?_
  rintro r st3 ⟨⟨tk3, rfl⟩, hle3⟩
  simp only [VC, VX, VV, SU, RC, VQ, VQ2, opW, ne_eq, not_false_eq_true, not_true_eq_false, Nat.le_refl, false_implies, reduceIte, Nat.reduceEqDiff, Nat.reduceAdd, Nat.reduceSub, Nat.reduceLeDiff, Nat.reduceLT, Nat.reduceMul, Nat.reduceBEq, reduceCtorEq, Int.natCast_nonneg, Int.toNat_natCast, true_implies, implies_true, List.length_cons, List.length_nil, List.drop_succ_cons, List.drop_zero, List.take_succ_cons, List.take_zero, List.map_cons, List.map_nil, List.getD_cons_zero, List.getD_cons_succ, List.all_cons, List.all_nil, Bool.and_true, Bool.and_self, decide_true, decide_false, Bool.not_true, Bool.not_false, Bool.true_or, Bool.false_or, Bool.or_true, Bool.or_false, Bool.true_and, Bool.false_and, Bool.and_false, bytesAV_length, beq_self_eq_true, and_self, List.append_assoc, List.cons_append, List.nil_append]
  exact ⟨⟨tk3, rfl⟩, St.le_trans hle hle3⟩

theorem rulesP_small {l : List (List Rule)} (hs : Small l) : (rulesP l).length ≤ 100000 ∧ ∀ r ∈ rulesP l, r.1.length < 4294967281 := by
  refine ⟨?_, fun r hr => ?_⟩
  · have h : ∀ (m : List (List Rule)), (∀ p ∈ m, p.length ≤ 1000) → m.flatten.length ≤ 1000 * m.length := by
      intro m hm
      induction m with
      | nil => simp
      | cons a b ih =>
        have h1 := hm a (by simp)
        have h2 := ih fun p hp => hm p (by simp [hp])
        rw [List.flatten_cons, List.length_append, List.length_cons]
        omega
    have h1 := h (l.filter checkP) fun p hp => (hs.2 p (List.mem_filter.1 hp).1).1
    have h2 := List.length_filter_le checkP l
    have h3 := hs.1
    unfold rulesP
    omega
  · obtain ⟨p, hp, hr⟩ := List.mem_flatten.1 hr
    exact (hs.2 p (List.mem_filter.1 hp).1).2 r hr

theorem sayAll_take (l : List Rule) (p : Bs) (k : Nat) (hk : k < l.length) : sayAll (l.take (k + 1)) p = sayStep p (sayAll (l.take k) p) l[k] := by
  unfold sayAll
  rw [List.take_succ_eq_append_getElem hk, List.foldl_append]
  rfl

theorem best_len (l : List Rule) (h : ∀ r ∈ l, r.1.length < 4294967281) (p : Bs) : (sayAll l p).best.length < 4294967281 := by
  have : ∀ (l : List Rule) (s : Said), (∀ r ∈ l, r.1.length < 4294967281) → s.best.length < 4294967281 → (l.foldl (sayStep p) s).best.length < 4294967281 := by
    intro l
    induction l with
    | nil => intro s _ h; exact h
    | cons a b ih =>
      intro s h1 h2
      refine ih _ (fun r hr => h1 r (by simp [hr])) ?_
      unfold sayStep
      have := h1 a (by simp)
      split
      · exact h2
      · split
        · exact this
        · split <;> exact h2
  exact this l _ h (by simp)

theorem says_ok (w0 : World) (hM : Mx w0) (tk : Tk) (l : List (List Rule)) (hs : Small l) (p : Bs) (hp : p.length < 4294967281) : PC w0 70 [.sl tk (polsAV l), .str p] (.tup [.str (saysP l p).best, .int .u8 (saysP l p).caps.toNat, .bool (saysP l p).is]) := by
  intro st
  refine ACalls.of_vc (A := c_says) (is_says w0) (by simp) ?_
  unfold c_says
  simp only [VC, VX, VV, SU, RC, VQ, VQ2, opW, ne_eq, not_false_eq_true, not_true_eq_false, Nat.le_refl, false_implies, reduceIte, Nat.reduceEqDiff, Nat.reduceAdd, Nat.reduceSub, Nat.reduceLeDiff, Nat.reduceLT, Nat.reduceMul, Nat.reduceBEq, reduceCtorEq, Int.natCast_nonneg, Int.toNat_natCast, true_implies, implies_true, List.length_cons, List.length_nil, List.drop_succ_cons, List.drop_zero, List.take_succ_cons, List.take_zero, List.map_cons, List.map_nil, List.getD_cons_zero, List.getD_cons_succ, List.all_cons, List.all_nil, Bool.and_true, Bool.and_self, decide_true, decide_false, Bool.not_true, Bool.not_false, Bool.true_or, Bool.false_or, Bool.or_true, Bool.or_false, Bool.true_and, Bool.false_and, Bool.and_false, bytesAV_length, beq_self_eq_true, and_self, List.append_assoc, List.cons_append, List.nil_append]
  refine (rules_ok w0 hM tk l hs st).mono ?_
  rintro r st1 ⟨⟨tk2, rfl⟩, hle⟩
  obtain ⟨hr1, hr2⟩ := rulesP_small hs
  obtain ⟨L, hL⟩ : ∃ L, L = rulesP l := ⟨_, rfl⟩
  have hsp : saysP l p = ⟨(sayAll L p).best, denied (sayAll L p).caps, (sayAll L p).is⟩ := by rw [hL]; rfl
  rw [hsp]
  rw [← hL] at hr1 hr2 ⊢
  clear hsp hL
  simp only [VC, VX, VV, SU, RC, VQ, VQ2, opW, ne_eq, not_false_eq_true, not_true_eq_false, Nat.le_refl, false_implies, reduceIte, Nat.reduceEqDiff, Nat.reduceAdd, Nat.reduceSub, Nat.reduceLeDiff, Nat.reduceLT, Nat.reduceMul, Nat.reduceBEq, reduceCtorEq, Int.natCast_nonneg, Int.toNat_natCast, true_implies, implies_true, List.length_cons, List.length_nil, List.drop_succ_cons, List.drop_zero, List.take_succ_cons, List.take_zero, List.map_cons, List.map_nil, List.getD_cons_zero, List.getD_cons_succ, List.all_cons, List.all_nil, Bool.and_true, Bool.and_self, decide_true, decide_false, Bool.not_true, Bool.not_false, Bool.true_or, Bool.false_or, Bool.or_true, Bool.or_false, Bool.true_and, Bool.false_and, Bool.and_false, bytesAV_length, beq_self_eq_true, and_self, List.append_assoc, List.cons_append, List.nil_append, rulesAV_length]
  refine VLoop.up L.length (fun k e st' => e.get 1 = .str p ∧ e.get 14 = .sl tk2 (rulesAV L) ∧ e.get 15 = .int .i64 L.length ∧ e.get 16 = .int .i64 k ∧ k ≤ L.length ∧ e.get 7 = .str (sayAll (L.take k) p).best ∧ e.get 8 = .int .u8 (sayAll (L.take k) p).caps.toNat ∧ e.get 9 = .bool (sayAll (L.take k) p).is ∧ st.le st') ?_ ?_
  · simp only [VC, VX, VV, SU, RC, VQ, VQ2, opW, ne_eq, not_false_eq_true, not_true_eq_false, Nat.le_refl, false_implies, reduceIte, Nat.reduceEqDiff, Nat.reduceAdd, Nat.reduceSub, Nat.reduceLeDiff, Nat.reduceLT, Nat.reduceMul, Nat.reduceBEq, reduceCtorEq, Int.natCast_nonneg, Int.toNat_natCast, true_implies, implies_true, List.length_cons, List.length_nil, List.drop_succ_cons, List.drop_zero, List.take_succ_cons, List.take_zero, List.map_cons, List.map_nil, List.getD_cons_zero, List.getD_cons_succ, List.all_cons, List.all_nil, Bool.and_true, Bool.and_self, decide_true, decide_false, Bool.not_true, Bool.not_false, Bool.true_or, Bool.false_or, Bool.or_true, Bool.or_false, Bool.true_and, Bool.false_and, Bool.and_false, bytesAV_length, beq_self_eq_true, and_self, List.append_assoc, List.cons_append, List.nil_append]
    exact ⟨rfl, Nat.zero_le _, rfl, rfl, rfl, hle⟩
  · rintro k e st' ⟨h1, h14, h15, h16, hk, h7, h8, h9, hle⟩
    unfold c_says_L0
    simp only [VC, VX, VV, SU, RC, VQ, VQ2, opW, ne_eq, not_false_eq_true, not_true_eq_false, Nat.le_refl, false_implies, reduceIte, Nat.reduceEqDiff, Nat.reduceAdd, Nat.reduceSub, Nat.reduceLeDiff, Nat.reduceLT, Nat.reduceMul, Nat.reduceBEq, reduceCtorEq, Int.natCast_nonneg, Int.toNat_natCast, true_implies, implies_true, List.length_cons, List.length_nil, List.drop_succ_cons, List.drop_zero, List.take_succ_cons, List.take_zero, List.map_cons, List.map_nil, List.getD_cons_zero, List.getD_cons_succ, List.all_cons, List.all_nil, Bool.and_true, Bool.and_self, decide_true, decide_false, Bool.not_true, Bool.not_false, Bool.true_or, Bool.false_or, Bool.or_true, Bool.or_false, Bool.true_and, Bool.false_and, Bool.and_false, bytesAV_length, beq_self_eq_true, and_self, List.append_assoc, List.cons_append, List.nil_append, h1, h14, h15, h16]
    refine VCond.dec (fun hlt => ?_) (fun hge => ?_)
    · have hlt' : k < L.length := by omega
      have hg := rulesAV_getD L k hlt'
      have hst := sayAll_take L p k hlt'
      have hbl := best_len (L.take k) (fun r hr => hr2 r (List.mem_of_mem_take hr)) p
      generalize sayAll (L.take k) p = s at h7 h8 h9 hst hbl
      obtain ⟨best, caps, is⟩ := s
      simp only at h7 h8 h9 hbl
      simp only [VC, VX, VV, SU, RC, VQ, VQ2, opW, ne_eq, not_false_eq_true, not_true_eq_false, Nat.le_refl, false_implies, reduceIte, Nat.reduceEqDiff, Nat.reduceAdd, Nat.reduceSub, Nat.reduceLeDiff, Nat.reduceLT, Nat.reduceMul, Nat.reduceBEq, reduceCtorEq, Int.natCast_nonneg, Int.toNat_natCast, true_implies, implies_true, List.length_cons, List.length_nil, List.drop_succ_cons, List.drop_zero, List.take_succ_cons, List.take_zero, List.map_cons, List.map_nil, List.getD_cons_zero, List.getD_cons_succ, List.all_cons, List.all_nil, Bool.and_true, Bool.and_self, decide_true, decide_false, Bool.not_true, Bool.not_false, Bool.true_or, Bool.false_or, Bool.or_true, Bool.or_false, Bool.true_and, Bool.false_and, Bool.and_false, bytesAV_length, beq_self_eq_true, and_self, List.append_assoc, List.cons_append, List.nil_append, h1, h14, h15, h16, hlt, hg, rulesAV_length]
      intro id hid
      have hle1 : st.le ((st'.upd id (.obj [.str [], .int .u8 0])).upd id (.obj [.str L[k].1, .int .u8 L[k].2.toNat])) := St.le_upd0 _ (St.le_upd0 _ hle (St.le_none hle hid)) (St.le_none hle hid)
      have hob : ((st'.upd id (.obj [.str [], .int .u8 0])).upd id (.obj [.str L[k].1, .int .u8 L[k].2.toNat])) id = some (.obj [.str L[k].1, .int .u8 L[k].2.toNat]) := St.upd_same _ _ _
      generalize ((st'.upd id (.obj [.str [], .int .u8 0])).upd id (.obj [.str L[k].1, .int .u8 L[k].2.toNat])) = st2 at hle1 hob ⊢
      refine (match_ok w0 hM _ p (hr2 _ (List.getElem_mem hlt')) hp st2).mono ?_
      rintro r st3 ⟨rfl, hle3⟩
      have hle4 := St.le_trans hle1 hle3
      have hob := hle3 _ _ hob
      cases hm : matchP L[k].1 p with
      | false =>
        have hst : sayAll (L.take (k + 1)) p = ⟨best, caps, is⟩ := by rw [hst, sayStep, if_pos hm]
        simp only [VC, VX, VV, SU, RC, VQ, VQ2, opW, ne_eq, not_false_eq_true, not_true_eq_false, Nat.le_refl, false_implies, reduceIte, Nat.reduceEqDiff, Nat.reduceAdd, Nat.reduceSub, Nat.reduceLeDiff, Nat.reduceLT, Nat.reduceMul, Nat.reduceBEq, reduceCtorEq, Int.natCast_nonneg, Int.toNat_natCast, true_implies, implies_true, List.length_cons, List.length_nil, List.drop_succ_cons, List.drop_zero, List.take_succ_cons, List.take_zero, List.map_cons, List.map_nil, List.getD_cons_zero, List.getD_cons_succ, List.all_cons, List.all_nil, Bool.and_true, Bool.and_self, decide_true, decide_false, Bool.not_true, Bool.not_false, Bool.true_or, Bool.false_or, Bool.or_true, Bool.or_false, Bool.true_and, Bool.false_and, Bool.and_false, bytesAV_length, beq_self_eq_true, and_self, List.append_assoc, List.cons_append, List.nil_append, h1, h14, h15, h16, h7, h8, h9, hst]
        exact ⟨hlt', by rw [wrap_nat (by omega)], by omega, hle4⟩
      | true =>
        simp only [VC, VX, VV, SU, RC, VQ, VQ2, opW, ne_eq, not_false_eq_true, not_true_eq_false, Nat.le_refl, false_implies, reduceIte, Nat.reduceEqDiff, Nat.reduceAdd, Nat.reduceSub, Nat.reduceLeDiff, Nat.reduceLT, Nat.reduceMul, Nat.reduceBEq, reduceCtorEq, Int.natCast_nonneg, Int.toNat_natCast, true_implies, implies_true, List.length_cons, List.length_nil, List.drop_succ_cons, List.drop_zero, List.take_succ_cons, List.take_zero, List.map_cons, List.map_nil, List.getD_cons_zero, List.getD_cons_succ, List.all_cons, List.all_nil, Bool.and_true, Bool.and_self, decide_true, decide_false, Bool.not_true, Bool.not_false, Bool.true_or, Bool.false_or, Bool.or_true, Bool.or_false, Bool.true_and, Bool.false_and, Bool.and_false, bytesAV_length, beq_self_eq_true, and_self, List.append_assoc, List.cons_append, List.nil_append, h1, h14, h15, h16, h7, h8, h9, hob]
        refine (more_ok w0 hM _ best (hr2 _ (List.getElem_mem hlt')) hbl st3).mono ?_
        rintro r st4 ⟨rfl, hle5⟩
        have hle5' := St.le_trans hle4 hle5
        have hob := hle5 _ _ hob
        have take : (is = false ∨ more L[k].1 best > 0) → sayAll (L.take (k + 1)) p = ⟨L[k].1, L[k].2, true⟩ := fun h => by
          rw [hst, sayStep, if_neg (by simp [hm]), if_pos h]
        cases is with
        | false =>
          have hst := take (.inl rfl)
          simp only [VC, VX, VV, SU, RC, VQ, VQ2, opW, ne_eq, not_false_eq_true, not_true_eq_false, Nat.le_refl, false_implies, reduceIte, Nat.reduceEqDiff, Nat.reduceAdd, Nat.reduceSub, Nat.reduceLeDiff, Nat.reduceLT, Nat.reduceMul, Nat.reduceBEq, reduceCtorEq, Int.natCast_nonneg, Int.toNat_natCast, true_implies, implies_true, List.length_cons, List.length_nil, List.drop_succ_cons, List.drop_zero, List.take_succ_cons, List.take_zero, List.map_cons, List.map_nil, List.getD_cons_zero, List.getD_cons_succ, List.all_cons, List.all_nil, Bool.and_true, Bool.and_self, decide_true, decide_false, Bool.not_true, Bool.not_false, Bool.true_or, Bool.false_or, Bool.or_true, Bool.or_false, Bool.true_and, Bool.false_and, Bool.and_false, bytesAV_length, beq_self_eq_true, and_self, List.append_assoc, List.cons_append, List.nil_append, h1, h14, h15, h16, h7, h8, h9, hob]
          refine VDraw ?_
          simp only [VC, VX, VV, SU, RC, VQ, VQ2, opW, ne_eq, not_false_eq_true, not_true_eq_false, Nat.le_refl, false_implies, reduceIte, Nat.reduceEqDiff, Nat.reduceAdd, Nat.reduceSub, Nat.reduceLeDiff, Nat.reduceLT, Nat.reduceMul, Nat.reduceBEq, reduceCtorEq, Int.natCast_nonneg, Int.toNat_natCast, true_implies, implies_true, List.length_cons, List.length_nil, List.drop_succ_cons, List.drop_zero, List.take_succ_cons, List.take_zero, List.map_cons, List.map_nil, List.getD_cons_zero, List.getD_cons_succ, List.all_cons, List.all_nil, Bool.and_true, Bool.and_self, decide_true, decide_false, Bool.not_true, Bool.not_false, Bool.true_or, Bool.false_or, Bool.or_true, Bool.or_false, Bool.true_and, Bool.false_and, Bool.and_false, bytesAV_length, beq_self_eq_true, and_self, List.append_assoc, List.cons_append, List.nil_append, h1, h14, h15, h16, h7, h8, h9, hob, hst]
          intro st5 hle6
          exact ⟨hlt', by rw [wrap_nat (by omega)], by omega, St.le_trans hle5' hle6⟩
        | true =>
          by_cases hgt : more L[k].1 best > 0
          · have hst := take (.inr hgt)
            simp only [VC, VX, VV, SU, RC, VQ, VQ2, opW, ne_eq, not_false_eq_true, not_true_eq_false, Nat.le_refl, false_implies, reduceIte, Nat.reduceEqDiff, Nat.reduceAdd, Nat.reduceSub, Nat.reduceLeDiff, Nat.reduceLT, Nat.reduceMul, Nat.reduceBEq, reduceCtorEq, Int.natCast_nonneg, Int.toNat_natCast, true_implies, implies_true, List.length_cons, List.length_nil, List.drop_succ_cons, List.drop_zero, List.take_succ_cons, List.take_zero, List.map_cons, List.map_nil, List.getD_cons_zero, List.getD_cons_succ, List.all_cons, List.all_nil, Bool.and_true, Bool.and_self, decide_true, decide_false, Bool.not_true, Bool.not_false, Bool.true_or, Bool.false_or, Bool.or_true, Bool.or_false, Bool.true_and, Bool.false_and, Bool.and_false, bytesAV_length, beq_self_eq_true, and_self, List.append_assoc, List.cons_append, List.nil_append, h1, h14, h15, h16, h7, h8, h9, hob, hgt]
            refine VDraw ?_
            simp only [VC, VX, VV, SU, RC, VQ, VQ2, opW, ne_eq, not_false_eq_true, not_true_eq_false, Nat.le_refl, false_implies, reduceIte, Nat.reduceEqDiff, Nat.reduceAdd, Nat.reduceSub, Nat.reduceLeDiff, Nat.reduceLT, Nat.reduceMul, Nat.reduceBEq, reduceCtorEq, Int.natCast_nonneg, Int.toNat_natCast, true_implies, implies_true, List.length_cons, List.length_nil, List.drop_succ_cons, List.drop_zero, List.take_succ_cons, List.take_zero, List.map_cons, List.map_nil, List.getD_cons_zero, List.getD_cons_succ, List.all_cons, List.all_nil, Bool.and_true, Bool.and_self, decide_true, decide_false, Bool.not_true, Bool.not_false, Bool.true_or, Bool.false_or, Bool.or_true, Bool.or_false, Bool.true_and, Bool.false_and, Bool.and_false, bytesAV_length, beq_self_eq_true, and_self, List.append_assoc, List.cons_append, List.nil_append, h1, h14, h15, h16, h7, h8, h9, hob, hst]
            intro st5 hle6
            exact ⟨hlt', by rw [wrap_nat (by omega)], by omega, St.le_trans hle5' hle6⟩
          · have hn : ¬ (true = false ∨ more L[k].1 best > 0) := by simp; omega
            by_cases he : L[k].1 = best
            · have hst : sayAll (L.take (k + 1)) p = ⟨best, caps ||| L[k].2, true⟩ := by
                rw [hst, sayStep, if_neg (by simp [hm]), if_neg hn, if_pos he]
              have he' : (L[k].1 == best) = true := by simpa using he
              simp only [VC, VX, VV, SU, RC, VQ, VQ2, opW, ne_eq, not_false_eq_true, not_true_eq_false, Nat.le_refl, false_implies, reduceIte, Nat.reduceEqDiff, Nat.reduceAdd, Nat.reduceSub, Nat.reduceLeDiff, Nat.reduceLT, Nat.reduceMul, Nat.reduceBEq, reduceCtorEq, Int.natCast_nonneg, Int.toNat_natCast, true_implies, implies_true, List.length_cons, List.length_nil, List.drop_succ_cons, List.drop_zero, List.take_succ_cons, List.take_zero, List.map_cons, List.map_nil, List.getD_cons_zero, List.getD_cons_succ, List.all_cons, List.all_nil, Bool.and_true, Bool.and_self, decide_true, decide_false, Bool.not_true, Bool.not_false, Bool.true_or, Bool.false_or, Bool.or_true, Bool.or_false, Bool.true_and, Bool.false_and, Bool.and_false, bytesAV_length, beq_self_eq_true, and_self, List.append_assoc, List.cons_append, List.nil_append, h1, h14, h15, h16, h7, h8, h9, hob, hgt, he', u8or, hst]
              exact ⟨hlt', by rw [wrap_nat (by omega)], by omega, hle5'⟩
            · have hst : sayAll (L.take (k + 1)) p = ⟨best, caps, true⟩ := by
                rw [hst, sayStep, if_neg (by simp [hm]), if_neg hn, if_neg he]
              have he' : (L[k].1 == best) = false := by simpa using he
              simp only [VC, VX, VV, SU, RC, VQ, VQ2, opW, ne_eq, not_false_eq_true, not_true_eq_false, Nat.le_refl, false_implies, reduceIte, Nat.reduceEqDiff, Nat.reduceAdd, Nat.reduceSub, Nat.reduceLeDiff, Nat.reduceLT, Nat.reduceMul, Nat.reduceBEq, reduceCtorEq, Int.natCast_nonneg, Int.toNat_natCast, true_implies, implies_true, List.length_cons, List.length_nil, List.drop_succ_cons, List.drop_zero, List.take_succ_cons, List.take_zero, List.map_cons, List.map_nil, List.getD_cons_zero, List.getD_cons_succ, List.all_cons, List.all_nil, Bool.and_true, Bool.and_self, decide_true, decide_false, Bool.not_true, Bool.not_false, Bool.true_or, Bool.false_or, Bool.or_true, Bool.or_false, Bool.true_and, Bool.false_and, Bool.and_false, bytesAV_length, beq_self_eq_true, and_self, List.append_assoc, List.cons_append, List.nil_append, h1, h14, h15, h16, h7, h8, h9, hob, hgt, he', hst]
              exact ⟨hlt', by rw [wrap_nat (by omega)], by omega, hle5'⟩
    · have hk' : k = L.length := by omega
      subst hk'
      rw [List.take_length] at h7 h8 h9
      unfold c_says_S0
      have hand : bits .and .u8 ((sayAll L p).caps.toNat : Int) 32 = (((sayAll L p).caps &&& 32).toNat : Int) := u8and _ 32
      have hz : (((((sayAll L p).caps &&& 32).toNat : Int)) != 0) = !((sayAll L p).caps &&& 32 == 0) := by
        have := u8beq ((sayAll L p).caps &&& 32) 0
        show (!(((((sayAll L p).caps &&& 32).toNat : Int)) == ((0 : UInt8).toNat : Int))) = _
        rw [this]
      by_cases h : (sayAll L p).caps &&& 32 = 0
      · have h' : ((sayAll L p).caps &&& 32 == 0) = true := by simpa using h
        simp only [VC, VX, VV, SU, RC, VQ, VQ2, opW, ne_eq, not_false_eq_true, not_true_eq_false, Nat.le_refl, false_implies, reduceIte, Nat.reduceEqDiff, Nat.reduceAdd, Nat.reduceSub, Nat.reduceLeDiff, Nat.reduceLT, Nat.reduceMul, Nat.reduceBEq, reduceCtorEq, Int.natCast_nonneg, Int.toNat_natCast, true_implies, implies_true, List.length_cons, List.length_nil, List.drop_succ_cons, List.drop_zero, List.take_succ_cons, List.take_zero, List.map_cons, List.map_nil, List.getD_cons_zero, List.getD_cons_succ, List.all_cons, List.all_nil, Bool.and_true, Bool.and_self, decide_true, decide_false, Bool.not_true, Bool.not_false, Bool.true_or, Bool.false_or, Bool.or_true, Bool.or_false, Bool.true_and, Bool.false_and, Bool.and_false, bytesAV_length, beq_self_eq_true, and_self, List.append_assoc, List.cons_append, List.nil_append, h7, h8, h9, hand, hz, h']
        exact ⟨by simp [denied, h], hle⟩
      · have h' : ((sayAll L p).caps &&& 32 == 0) = false := by simpa using h
        simp only [VC, VX, VV, SU, RC, VQ, VQ2, opW, ne_eq, not_false_eq_true, not_true_eq_false, Nat.le_refl, false_implies, reduceIte, Nat.reduceEqDiff, Nat.reduceAdd, Nat.reduceSub, Nat.reduceLeDiff, Nat.reduceLT, Nat.reduceMul, Nat.reduceBEq, reduceCtorEq, Int.natCast_nonneg, Int.toNat_natCast, true_implies, implies_true, List.length_cons, List.length_nil, List.drop_succ_cons, List.drop_zero, List.take_succ_cons, List.take_zero, List.map_cons, List.map_nil, List.getD_cons_zero, List.getD_cons_succ, List.all_cons, List.all_nil, Bool.and_true, Bool.and_self, decide_true, decide_false, Bool.not_true, Bool.not_false, Bool.true_or, Bool.false_or, Bool.or_true, Bool.or_false, Bool.true_and, Bool.false_and, Bool.and_false, bytesAV_length, beq_self_eq_true, and_self, List.append_assoc, List.cons_append, List.nil_append, h7, h8, h9, hand, hz, h']
        exact ⟨by simp [denied, h], hle⟩

theorem allows_ok (w0 : World) (hM : Mx w0) (tk : Tk) (l : List (List Rule)) (hs : Small l) (p : Bs) (hp : p.length < 4294967281) (c : UInt8) : PC w0 69 [.sl tk (polsAV l), .str p, .int .u8 c.toNat] (.bool (allowsP l p c)) := by
  intro st
  refine ACalls.of_vc (A := c_allows) (is_allows w0) (by simp) ?_
  unfold c_allows
  simp only [VC, VX, VV, SU, RC, VQ, VQ2, opW, ne_eq, not_false_eq_true, not_true_eq_false, Nat.le_refl, false_implies, reduceIte, Nat.reduceEqDiff, Nat.reduceAdd, Nat.reduceSub, Nat.reduceLeDiff, Nat.reduceLT, Nat.reduceMul, Nat.reduceBEq, reduceCtorEq, Int.natCast_nonneg, Int.toNat_natCast, true_implies, implies_true, List.length_cons, List.length_nil, List.drop_succ_cons, List.drop_zero, List.take_succ_cons, List.take_zero, List.map_cons, List.map_nil, List.getD_cons_zero, List.getD_cons_succ, List.all_cons, List.all_nil, Bool.and_true, Bool.and_self, decide_true, decide_false, Bool.not_true, Bool.not_false, Bool.true_or, Bool.false_or, Bool.or_true, Bool.or_false, Bool.true_and, Bool.false_and, Bool.and_false, bytesAV_length, beq_self_eq_true, and_self, List.append_assoc, List.cons_append, List.nil_append]
  refine (says_ok w0 hM tk l hs p hp st).mono ?_
  rintro r st1 ⟨rfl, hle⟩
  simp only [VC, VX, VV, SU, RC, VQ, VQ2, opW, ne_eq, not_false_eq_true, not_true_eq_false, Nat.le_refl, false_implies, reduceIte, Nat.reduceEqDiff, Nat.reduceAdd, Nat.reduceSub, Nat.reduceLeDiff, Nat.reduceLT, Nat.reduceMul, Nat.reduceBEq, reduceCtorEq, Int.natCast_nonneg, Int.toNat_natCast, true_implies, implies_true, List.length_cons, List.length_nil, List.drop_succ_cons, List.drop_zero, List.take_succ_cons, List.take_zero, List.map_cons, List.map_nil, List.getD_cons_zero, List.getD_cons_succ, List.all_cons, List.all_nil, Bool.and_true, Bool.and_self, decide_true, decide_false, Bool.not_true, Bool.not_false, Bool.true_or, Bool.false_or, Bool.or_true, Bool.or_false, Bool.true_and, Bool.false_and, Bool.and_false, bytesAV_length, beq_self_eq_true, and_self, List.append_assoc, List.cons_append, List.nil_append]
  refine (wordsOf_ok w0 c st1).mono ?_
  rintro r st2 ⟨⟨tk2, rfl⟩, hle2⟩
  have hle := St.le_trans hle hle2
  have hl : (strsAV (wordsOf c)).length = (wordsOf c).length := by simp [strsAV]
  have hb : (((wordsOf c).length : Int) == 1) = decide ((wordsOf c).length = 1) := ibeq _ 1
  have h31 : bits .and .u8 (c.toNat : Int) 31 = ((c &&& 31).toNat : Int) := u8and c 31
  have hz : (((((saysP l p).caps &&& c).toNat : Int)) != 0) = !((saysP l p).caps &&& c == 0) := by
    have := u8beq ((saysP l p).caps &&& c) 0
    show (!(((((saysP l p).caps &&& c).toNat : Int)) == ((0 : UInt8).toNat : Int))) = _
    rw [this]
  simp only [VC, VX, VV, SU, RC, VQ, VQ2, opW, ne_eq, not_false_eq_true, not_true_eq_false, Nat.le_refl, false_implies, reduceIte, Nat.reduceEqDiff, Nat.reduceAdd, Nat.reduceSub, Nat.reduceLeDiff, Nat.reduceLT, Nat.reduceMul, Nat.reduceBEq, reduceCtorEq, Int.natCast_nonneg, Int.toNat_natCast, true_implies, implies_true, List.length_cons, List.length_nil, List.drop_succ_cons, List.drop_zero, List.take_succ_cons, List.take_zero, List.map_cons, List.map_nil, List.getD_cons_zero, List.getD_cons_succ, List.all_cons, List.all_nil, Bool.and_true, Bool.and_self, decide_true, decide_false, Bool.not_true, Bool.not_false, Bool.true_or, Bool.false_or, Bool.or_true, Bool.or_false, Bool.true_and, Bool.false_and, Bool.and_false, bytesAV_length, beq_self_eq_true, and_self, List.append_assoc, List.cons_append, List.nil_append, hl, hb]
  by_cases h1 : (wordsOf c).length = 1
  · by_cases h2 : (c &&& 31) = c
    · have h2' : ((c &&& 31) == c) = true := by simpa using h2
      simp only [VC, VX, VV, SU, RC, VQ, VQ2, opW, ne_eq, not_false_eq_true, not_true_eq_false, Nat.le_refl, false_implies, reduceIte, Nat.reduceEqDiff, Nat.reduceAdd, Nat.reduceSub, Nat.reduceLeDiff, Nat.reduceLT, Nat.reduceMul, Nat.reduceBEq, reduceCtorEq, Int.natCast_nonneg, Int.toNat_natCast, true_implies, implies_true, List.length_cons, List.length_nil, List.drop_succ_cons, List.drop_zero, List.take_succ_cons, List.take_zero, List.map_cons, List.map_nil, List.getD_cons_zero, List.getD_cons_succ, List.all_cons, List.all_nil, Bool.and_true, Bool.and_self, decide_true, decide_false, Bool.not_true, Bool.not_false, Bool.true_or, Bool.false_or, Bool.or_true, Bool.or_false, Bool.true_and, Bool.false_and, Bool.and_false, bytesAV_length, beq_self_eq_true, and_self, List.append_assoc, List.cons_append, List.nil_append, hb, h1, h31, u8beq, h2', u8and, hz]
      refine ⟨?_, hle⟩
      simp [allowsP, h1, h2]
    · have h2' : ((c &&& 31) == c) = false := by simpa using h2
      simp only [VC, VX, VV, SU, RC, VQ, VQ2, opW, ne_eq, not_false_eq_true, not_true_eq_false, Nat.le_refl, false_implies, reduceIte, Nat.reduceEqDiff, Nat.reduceAdd, Nat.reduceSub, Nat.reduceLeDiff, Nat.reduceLT, Nat.reduceMul, Nat.reduceBEq, reduceCtorEq, Int.natCast_nonneg, Int.toNat_natCast, true_implies, implies_true, List.length_cons, List.length_nil, List.drop_succ_cons, List.drop_zero, List.take_succ_cons, List.take_zero, List.map_cons, List.map_nil, List.getD_cons_zero, List.getD_cons_succ, List.all_cons, List.all_nil, Bool.and_true, Bool.and_self, decide_true, decide_false, Bool.not_true, Bool.not_false, Bool.true_or, Bool.false_or, Bool.or_true, Bool.or_false, Bool.true_and, Bool.false_and, Bool.and_false, bytesAV_length, beq_self_eq_true, and_self, List.append_assoc, List.cons_append, List.nil_append, hb, h1, h31, u8beq, h2', u8and, hz]
      refine ⟨?_, hle⟩
      simp [allowsP, h2]
  · simp only [VC, VX, VV, SU, RC, VQ, VQ2, opW, ne_eq, not_false_eq_true, not_true_eq_false, Nat.le_refl, false_implies, reduceIte, Nat.reduceEqDiff, Nat.reduceAdd, Nat.reduceSub, Nat.reduceLeDiff, Nat.reduceLT, Nat.reduceMul, Nat.reduceBEq, reduceCtorEq, Int.natCast_nonneg, Int.toNat_natCast, true_implies, implies_true, List.length_cons, List.length_nil, List.drop_succ_cons, List.drop_zero, List.take_succ_cons, List.take_zero, List.map_cons, List.map_nil, List.getD_cons_zero, List.getD_cons_succ, List.all_cons, List.all_nil, Bool.and_true, Bool.and_self, decide_true, decide_false, Bool.not_true, Bool.not_false, Bool.true_or, Bool.false_or, Bool.or_true, Bool.or_false, Bool.true_and, Bool.false_and, Bool.and_false, bytesAV_length, beq_self_eq_true, and_self, List.append_assoc, List.cons_append, List.nil_append, hb, h1]
    refine ⟨?_, hle⟩
    simp [allowsP, h1]

theorem root_ok (w0 : World) (st : St) : ACalls (cx w0) 73 [] st fun r st' => (∃ tk, r = .sl tk (rulesAV [([42], 31)])) ∧ st.le st' := by
  refine ACalls.of_vc (A := c_root) (is_root w0) (by simp) ?_
  unfold c_root
  simp only [VC, VX, VV, SU, RC, VQ, VQ2, opW, ne_eq, not_false_eq_true, not_true_eq_false, Nat.le_refl, false_implies, reduceIte, Nat.reduceEqDiff, Nat.reduceAdd, Nat.reduceSub, Nat.reduceLeDiff, Nat.reduceLT, Nat.reduceMul, Nat.reduceBEq, reduceCtorEq, Int.natCast_nonneg, Int.toNat_natCast, true_implies, implies_true, List.length_cons, List.length_nil, List.drop_succ_cons, List.drop_zero, List.take_succ_cons, List.take_zero, List.map_cons, List.map_nil, List.getD_cons_zero, List.getD_cons_succ, List.all_cons, List.all_nil, Bool.and_true, Bool.and_self, decide_true, decide_false, Bool.not_true, Bool.not_false, Bool.true_or, Bool.false_or, Bool.or_true, Bool.or_false, Bool.true_and, Bool.false_and, Bool.and_false, bytesAV_length, beq_self_eq_true, and_self, List.append_assoc, List.cons_append, List.nil_append]
  intro t ht
  exact ⟨⟨_, rfl⟩, St.le_upd _ _ _ ht⟩
end Go.Proofs.YtiipkbkoigcabaaDoor
