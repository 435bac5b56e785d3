/- The statement AclOrder and its card: the row. No condition. -/
import Derived.Test.YtiipkbkoigcabaaDoorAclCard
namespace Go.Proofs.YtiipkbkoigcabaaDoor
open Go Go.AW Go.RowKit Go.Proofs Go.Lib

theorem aclOrder_named : Tryd.prog.funcNamed Rows.aclOrderRow.func = some 10 := by kernel_rfl
theorem aclOrder_joined : joinedFacts Tryd.prog 10 Tryd.f10 Rows.aclOrderSpec Rows.aclOrderRow = true := by kernel_rfl
theorem aclOrder_inst : Tryd.f10.isInstance Tryd.prog Rows.aclOrderRow.origin Rows.aclOrderRow.targs := of_decide_eq_true (by kernel_rfl)
theorem aclOrder_wrap : Tryd.f10.isWrapper Tryd.prog Rows.aclOrderRow.wrapper Rows.aclOrderRow.mainSum := by
  unfold Func.isWrapper; first | (rw [if_pos (by decide +kernel)]; kernel_rfl) | (rw [if_neg (by decide +kernel)]; exact ⟨rfl, rfl⟩)
theorem aclOrder_holds : Rows.AclOrderSaid :=
  OpenClaim.holds_of_wide 10 Tryd.f10 rfl rfl rfl rfl rfl rfl rfl ⟨rfl, rfl, rfl, rfl, rfl⟩ rfl rfl rfl rfl rfl aclOrder_named Tryd.func10 aclOrder_joined aclOrder_inst aclOrder_wrap
    (fun os started H enc _ => aclOrder_lifted os started H enc)

theorem aclOrder_wf : Rows.aclOrderRow.wfByText (OpenSpec.ofChange Rows.aclOrderSpec) = true := by kernel_rfl
theorem aclOrder_main : Tryd.pinned.checked.prog.mainIs = some (true, "5db1730cd9cbed8764fe7646148a4c8640dc25507d98908ce898f85ab5f5a675".toList) := by kernel_rfl
theorem aclOrder_looks : true = Tryd.pinned.checked.prog.looks [] := by kernel_rfl
theorem aclOrder_goes : false = Rows.aclOrderRow.goesBy Tryd.pinned.checked.prog := by kernel_rfl
theorem aclOrder_w0 : Tryd.prog.wantsStandIn 137 = false := by kernel_rfl
theorem aclOrder_w1 : Tryd.prog.wantsStandIn 9 = false := by kernel_rfl
theorem aclOrder_w2 : Tryd.prog.wantsStandIn 5 = false := by kernel_rfl

theorem aclOrder_card_holds : Rows.AclOrderCardSaid :=
  Claim7.holds_tied_plain_at .later [] [.data, .pinned] true (true, "5db1730cd9cbed8764fe7646148a4c8640dc25507d98908ce898f85ab5f5a675") true
    aclOrder_holds (fun _ h => by cases h) aclOrder_wf (fun _ h => by cases h) aclOrder_row_tie rfl ⟨rfl, rfl⟩ aclOrder_main rfl
    (fun f fn hf hfn => by
      obtain rfl : f = 10 := Option.some.inj (aclOrder_named.symm.trans hf) |>.symm
      obtain rfl : fn = Tryd.f10 := (Option.some.inj (Tryd.func10.symm.trans hfn)).symm
      refine ⟨aclOrder_looks, fun j t ht => ?_⟩
      rw [Tryd.params10] at ht
      match j, ht with
      | 0, ht => simp at ht; subst ht; exact aclOrder_w0
      | 1, ht => simp at ht; subst ht; exact aclOrder_w1
      | 2, ht => simp at ht; subst ht; exact aclOrder_w2)
    aclOrder_goes
end Go.Proofs.YtiipkbkoigcabaaDoor
