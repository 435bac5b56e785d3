/- The statement AclOrder and its card. No condition. -/
import Derived.Test.YtiipkbkoigcabaaDoorAclOrder
import Derived.Test.YtiipkbkoigcabaaDoorArgs
import Derived.Test.YtiipkbkoigcabaaDoorCards
import Derived.Test.YtiipkbkoigcabaaDoorTie
import Derived.Lay
import Derived.LaidOnce
import Derived.SevenTiedAt
namespace Go.Proofs.YtiipkbkoigcabaaDoor
open Go Go.AW Go.RowKit Go.Proofs Go.Lib
open Go.ChangeShapes Go.WideShapes Go.ChangeAt Go.ChangeMaps
set_option linter.unusedVariables false
set_option linter.unusedSimpArgs false

theorem Tryd.own : ownKnob Tryd.prog.godebug = none := by kernel_rfl
theorem Tryd.laidOut : laidOutB Tryd.prog = true := by kernel_rfl

theorem mx_of_shape {w : World} (h : w.ShapedOpen Tryd.prog) : Mx w := Tryd.laysM146.s1_3 w h

section
variable {H : Type} {enc : TypeId × Value → H} {w : World} {base : Nat} {sp : Nat → Bool} {held : Bool}

theorem rd_rule : Rd enc Tryd.prog w base sp held 254 fun a => ∃ r : Rule, a = ruleAV r ∧ r.1.length ≤ maxLen := by
  intro fuel cs x hx
  obtain ⟨f0, f1, ht, ho, h0, h1⟩ : ∃ f0 f1 : Field, Tryd.prog.underlying 254 = some (.struct #[f0, f1]) ∧ (f0.offset = 0 ∧ f1.offset = 1 ∧ Tryd.prog.cellsOf f0.type = 1 ∧ Tryd.prog.cellsOf f1.type = 1 ∧ Tryd.prog.cellsOf 254 = 2) ∧ f0.type = 9 ∧ f1.type = 5 :=
    ⟨_, _, Tryd.underlying254, ⟨by kernel_rfl, by kernel_rfl, by kernel_rfl, by kernel_rfl, by kernel_rfl⟩, rfl, rfl⟩
  obtain ⟨v, a, e1, e2, e3, x, y, rfl, ⟨s, rfl, hs⟩, n, rfl, hw⟩ := Rd.struct2 ht ho (Rd1.str (by rw [h0]; exact Tryd.underlying9)) (Rd1.int (k := .u8) (by rw [h1]; exact Tryd.underlying5)) fuel cs x hx
  have hn : 0 ≤ n ∧ n ≤ 255 := by simpa [Lit.wf, IntKind.min, IntKind.max, IntKind.signed, IntKind.bits] using hw
  refine ⟨v, _, e1, e2, e3, (s, UInt8.ofNat n.toNat), ?_, hs⟩
  have : ((UInt8.ofNat n.toNat).toNat : Int) = n := by
    rw [UInt8.toNat_ofNat']; omega
  simp only [ruleAV, this]

theorem rd_rules : Rd1 enc Tryd.prog w base sp held 154 fun a => ∃ q : List Rule, a = .sl .sh (rulesAV q) ∧ q.length ≤ maxLen ∧ ∀ r ∈ q, r.1.length ≤ maxLen := by
  intro fuel cs x hx
  obtain ⟨v, a, e1, e2, e3, e4, es, rfl, hl, hq⟩ := Rd1.slice Tryd.underlying154 (of_decide_eq_true (by kernel_rfl)) rd_rule fuel cs x hx
  obtain ⟨q, h1, h2⟩ : ∃ q : List Rule, es = rulesAV q ∧ ∀ r ∈ q, r.1.length ≤ maxLen := by
    clear hl e1 e2 e3 e4 hx
    induction es with
    | nil => exact ⟨[], rfl, by simp⟩
    | cons a es ih =>
      obtain ⟨q, h1, h2⟩ := ih fun x hx => hq x (by simp [hx])
      obtain ⟨r, hr, hr2⟩ := hq a (by simp)
      exact ⟨r :: q, by rw [h1, hr]; rfl, fun x hx => by
        rcases List.mem_cons.1 hx with rfl | hx
        · exact hr2
        · exact h2 x hx⟩
  subst h1
  exact ⟨v, _, e1, e2, e3, e4, q, rfl, by simpa [rulesAV] using hl, h2⟩

theorem rd_pols : Rd1 enc Tryd.prog w base sp held 137 fun a => ∃ l : List (List Rule), a = .sl .sh (polsAV l) ∧ l.length ≤ maxLen ∧ ∀ q ∈ l, q.length ≤ maxLen := by
  intro fuel cs x hx
  obtain ⟨v, a, e1, e2, e3, e4, es, rfl, hl, hq⟩ := Rd1.slice Tryd.underlying137 (of_decide_eq_true (by kernel_rfl)) rd_rules.rd fuel cs x hx
  obtain ⟨l, h1, h2⟩ : ∃ l : List (List Rule), es = polsAV l ∧ ∀ q ∈ l, q.length ≤ maxLen := by
    clear hl e1 e2 e3 e4 hx
    induction es with
    | nil => exact ⟨[], rfl, by simp⟩
    | cons a es ih =>
      obtain ⟨l, h1, h2⟩ := ih fun x hx => hq x (by simp [hx])
      obtain ⟨r, hr, hr2, _⟩ := hq a (by simp)
      exact ⟨r :: l, by rw [h1, hr]; rfl, fun x hx => by
        rcases List.mem_cons.1 hx with rfl | hx
        · exact hr2
        · exact h2 x hx⟩
  subst h1
  exact ⟨v, _, e1, e2, e3, e4, l, rfl, by simpa [polsAV] using hl, h2⟩
end

def aclLaid : List (String × DataW Unit) := Rows.aclOrderRow.laid

theorem acl_met (os : Os) (args : Array Value) : laidMetH Tryd.prog aclLaid ((World.laidAll Tryd.prog os aclLaid).forCall (fun _ _ => 0) ⟨#[], args, []⟩).memory := by
  rw [MakeChecks.laidMetH_plain _ _ _ (by kernel_rfl)]
  exact laidMet_laidAll _ (by kernel_rfl) (by kernel_rfl)

set_option maxRecDepth 100000 in
theorem aclOrder_lifted (os : Os) (started : os.Started) (H : Type) (enc : TypeId × Value → H) :
    ReturnsInHanded {} Tryd.checked os 10 .any (fun w args => (Rows.aclOrderSpec.pre enc Tryd.prog Tryd.f10 [] false w args ∧ laidMetH Tryd.prog aclLaid w) ∧ sizedMet enc Tryd.prog Tryd.f10 (OpenSpec.ofChange Rows.aclOrderSpec) false w args)
      (Rows.aclOrderSpec.post enc Tryd.prog Tryd.f10 false true false false) := by
  refine returns_shaped (C := Tryd.checked) (X := fun w _ => laidMetH Tryd.prog aclLaid w) (fun _ _ _ hh h => h.of_heap hh) Tryd.own started (by kernel_rfl) Tryd.func10
    (ChangeSpec.witness_shaped (enc := enc) (C := Tryd.checked) (os := os) (X := fun w _ => laidMetH Tryd.prog aclLaid w) false (World.laidAll Tryd.prog os aclLaid) #[.slice none 0 0, .string ⟨#[]⟩, .int .u8 0] 8 (World.laidAll_os _ _ _)
      (World.shaped_of_ZipB (by kernel_rfl) (by kernel_rfl)) (by kernel_rfl) (by kernel_rfl) (by kernel_rfl) (acl_met os _)) ?_
  intro W base args ds gs before hval0 hW hL hsh
  have hval : ∀ (j : Nat) t v, Tryd.f10.params[j]? = some t → args[j]? = some v → Value.okWide Tryd.prog W .any base t v := hval0
  have hW' := hW
  obtain ⟨p, q, hA0, hV, rfl, _, _⟩ := hW
  have hA : DataW.TrodAll enc Tryd.prog W 0 (fun _ => true) true Tryd.f10.params.toList args.toList ds p := hA0
  rw [Tryd.params10] at hA hval
  obtain ⟨v0, v1, v2, d0, d1, d2, p0, p1, p2, rfl, rfl, rfl, h0, h1, h2⟩ := trodAll_three hA
  obtain ⟨rfl, rfl⟩ := trodVars_none hV
  have h0k := h0
  have hlt : ∀ x ∈ p0, x.block < W.heap.size := fun x hx => by
    obtain ⟨fuel, hf⟩ := h0k
    exact DataW.trod_lt fuel _ _ _ hf x hx
  obtain ⟨a0, va0, l, rfl, hl1, hl2⟩ := Rd1.arg Tryd.underlying137 rd_pols (hval 0 _ v0 rfl rfl) h0
  obtain ⟨s, rfl, rfl, rfl, hs⟩ := open_string Tryd.underlying9 (hval 1 9 v1 rfl rfl) h1
  obtain ⟨n, rfl, rfl, rfl, hwn⟩ := open_int Tryd.underlying5 (hval 2 5 v2 rfl rfl) h2
  have hn : 0 ≤ n ∧ n ≤ 255 := by simpa [Lit.wf, IntKind.min, IntKind.max, IntKind.signed, IntKind.bits] using hwn
  obtain ⟨c, rfl⟩ : ∃ c : UInt8, n = (c.toNat : Int) := ⟨UInt8.ofNat n.toNat, by rw [UInt8.toNat_ofNat']; omega⟩
  have hm : maxLen ≤ 9223372036854775807 := by decide
  have hsl : s.data.toList.length ≤ 9223372036854775807 := by
    have : s.data.toList.length = s.size := by simp
    omega
  have hlaw := order_ok W (mx_of_shape hsh) l (by omega) (fun q hq => by have := hl2 q hq; omega) s.data.toList hsl c (fun _ => none)
  have hcall := hlaw.calls (C := cx W) (σ := sees W) (w := W) (vs := #[v0, .string s, .int .u8 c.toNat]) (R.start rfl) rfl (fun i a v ha hv => by
    match i, ha, hv with
    | 0, ha, hv => simp at ha hv; subst ha; subst hv; exact va0
    | 1, ha, hv => simp at ha hv; subst ha; subst hv; exact .str s
    | 2, ha, hv => simp at ha hv; subst ha; subst hv; exact .int _ _) ⟨_, _, _, is_order W⟩
  refine hcall.mono fun e W' ⟨σ', r, v, st', he, _, hR, hv, hr, _⟩ => ?_
  subst he; subst hr
  obtain rfl := val_bool hv rfl
  have hb : Below W.heap.size W W' := hR.below
  have e1 : Rows.aclOrderSpec.fn H ([d0, .lit (.string s.data.toList), .lit (.int .u8 c.toNat)] ++ []) = { results := [.lit (.bool true)], args := [d0, .lit (.string s.data.toList), .lit (.int .u8 c.toNat)] } := rfl
  refine ⟨_, rfl, _, _, _, [], p0 ++ ([] ++ []), [], hW', ?_, ?_, ?_, hb.frame _, fun h => by cases h⟩
  · rw [e1]; exact trodAll_mk1 (shut_bool Tryd.underlying4 _)
  · rw [e1]
    show DataW.TrodAll enc Tryd.prog W' 0 _ true Tryd.f10.params.toList _ _ _
    rw [Tryd.params10]
    exact trodAll_mk3 (Below.trod Tryd.laidOut (by kernel_rfl) (of_decide_eq_true (by kernel_rfl)) h0k hb hlt) (shut_string Tryd.underlying9 hs) (shut_int Tryd.underlying5 hwn)
  · rw [e1]; rfl
end Go.Proofs.YtiipkbkoigcabaaDoor
