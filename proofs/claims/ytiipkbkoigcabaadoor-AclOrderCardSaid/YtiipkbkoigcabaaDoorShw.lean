/- Contracts of the kit's shelf as contracts of the small language: a library of this claim, generic in the program. No condition. -/
import Derived.Test.YtiipkbkoigcabaaDoorVcg
import Derived.Lib.AppendZerosOnto
import Derived.Lib.Split
namespace Go.AW
open Go Go.RowKit Go.Lib
set_option linter.unusedVariables false

section
variable {C : Ctx} {st : St}

/-- Out of a contract that speaks of calls. -/
theorem ACalls.of_calls {f : Nat} {A : ACode} {rs : List ARes} {m : Nat} {args : List AV} {K : AV → St → Prop} (hf : fnComp C.P f = some (A, rs, m))
    (h : ∀ σ w (vs : Array Value), R C σ st w → args.length = vs.size → (∀ (i : Nat) (a : AV) (v : Value), args[i]? = some a → vs[i]? = some v → Val σ w a v) →
      Calls C.P f vs w fun e w' => ∃ σ' r v st', e = .returned v ∧ Ext σ w σ' w' ∧ R C σ' st' w' ∧ Val σ' w' r v ∧ K r st') : ACalls C f args st K := by
  intro σ w vs hR hlen hvals
  unfold fnComp at hf
  split at hf
  · rename_i fn hfn
    split at hf
    · rename_i c rs' hb hrs
      split at hf
      · cases hf
      · rename_i hname
        refine .inl ⟨w, ?_, rfl, h σ w vs hR hlen hvals⟩
        have hname' : (fn.name == "runtime.NumGoroutine") = false := by simpa using hname
        simp [callFunc, hfn, hb]
        exact fun he => by simp [he] at hname'
    · cases hf
  · cases hf

theorem arr1 {vs : Array Value} (h : 1 = vs.size) : ∃ a, vs = #[a] := by
  obtain ⟨l⟩ := vs
  match l, h with
  | [a], _ => exact ⟨a, rfl⟩
theorem arr2 {vs : Array Value} (h : 2 = vs.size) : ∃ a b, vs = #[a, b] := by
  obtain ⟨l⟩ := vs
  match l, h with
  | [a, b], _ => exact ⟨a, b, rfl⟩

theorem str_of {σ : Sig} {w : World} {s : List UInt8} {v : Value} (h : Val σ w (.str s) v) : v = .string ⟨s.toArray⟩ := by
  obtain ⟨b, rfl, hb⟩ := val_str h rfl
  rw [str_mk b s hb]

/-- Two texts in, a text out, nothing else that can be seen. -/
theorem ACalls.str2 {f : Nat} {A : ACode} {rs : List ARes} {m : Nat} (hf : fnComp C.P f = some (A, rs, m)) {x y r : List UInt8}
    (h : ∀ w, Calls C.P f #[.string ⟨x.toArray⟩, .string ⟨y.toArray⟩] w fun e w' => e = .returned (.string ⟨r.toArray⟩) ∧ Below w.heap.size w w') :
    ACalls C f [.str x, .str y] st fun v st' => v = .str r ∧ st' = st := by
  refine ACalls.of_calls hf fun σ w vs hR hlen hvals => ?_
  obtain ⟨a, b, rfl⟩ := arr2 hlen
  obtain rfl := str_of (hvals 0 _ a rfl rfl)
  obtain rfl := str_of (hvals 1 _ b rfl rfl)
  refine (h w).mono fun e w' ⟨he, hb⟩ => ?_
  obtain ⟨hR', hx⟩ := hR.heap hb
  exact ⟨σ, _, _, st, he, hx, hR', by simpa using Val.str (σ := σ) (w := w') ⟨r.toArray⟩, rfl, rfl⟩

theorem VE.strs {σ : Sig} {w : World} (l : List ByteArray) : VE σ w 1 (l.map fun b => .str b.data.toList) (l.map Value.string) := by
  refine ⟨by simp, fun v hv => ?_, fun j e v he hv => ?_, fun e he => ?_⟩
  · obtain ⟨b, _, rfl⟩ := List.mem_map.1 hv; rfl
  · simp only [List.getElem?_map] at he hv
    cases hj : l[j]? with
    | none => simp [hj] at he
    | some b => simp [hj] at he hv; subst he; subst hv; exact .str b
  · obtain ⟨b, _, rfl⟩ := List.mem_map.1 he; rfl

theorem flat_strs (l : List ByteArray) : flat (l.map Value.string) = l.map Value.string := by
  induction l with
  | nil => rfl
  | cons b s ih => simp [flat, Value.cells] at ih ⊢; exact ih

/-- Two texts in, a new row of texts out. -/
theorem ACalls.strs2 {f : Nat} {A : ACode} {rs : List ARes} {m : Nat} (hf : fnComp C.P f = some (A, rs, m)) {x y : List UInt8} {l : List ByteArray} {T : TypeId} (hl : l.length ≤ maxLen)
    (h : ∀ σ w, R C σ st w → Calls C.P f #[.string ⟨x.toArray⟩, .string ⟨y.toArray⟩] w fun e w' => e = .returned (.slice (some ⟨w.heap.size, 0, none⟩) l.length l.length) ∧ w' = w.alloc (.cells (l.map Value.string).toArray T)) :
    ACalls C f [.str x, .str y] st fun v st' => v = .sl .sh (l.map fun b => .str b.data.toList) ∧ st.le st' := by
  refine ACalls.of_calls hf fun σ w vs hR hlen hvals => ?_
  obtain ⟨a, b, rfl⟩ := arr2 hlen
  obtain rfl := str_of (hvals 0 _ a rfl rfl)
  obtain rfl := str_of (hvals 1 _ b rfl rfl)
  refine (h σ w hR).mono fun e w' ⟨he, hw⟩ => ?_
  subst hw
  obtain ⟨j, σ', hs, hx', hR', hval⟩ := newSlice hR (cap := l.length) (arr := (l.map Value.string).toArray) (T := T) (fr := (0, 0)) ((Below.refl _ w).alloc (Nat.le_refl _) _) (b := w.heap.size) (Nat.le_refl _) (heap_alloc_new w _) (.inl rfl)
    (VE.strs l) (by rw [flat_strs]; exact List.take_of_length_le (Nat.le_refl _)) (by simp) (by simp) (by simpa using hl)
  refine ⟨σ', _, _, _, he, hx', hR', ?_, rfl, St.le_upd _ _ _ hs⟩
  have := hval.sh1'
  simpa [AV.sh1] using this

/-- slices.Grow of a nil slice: nothing, or a new row that may be appended to. -/
theorem ACalls.grow_nil {f : Nat} {A : ACode} {rs : List ARes} {m : Nat} (hf : fnComp C.P f = some (A, rs, m)) {n S : Nat} {T : TypeId} (zs : World → Array Value) (hz : ∀ w, (grownCap w n 0 T) * S ≤ (zs w).size)
    (h0 : n = 0 → ∀ w, Calls C.P f #[.slice none 0 0, .int .i64 0] w fun e w' => e = .returned (.slice none 0 0) ∧ w' = w)
    (h1 : 0 < n → ∀ w, Calls C.P f #[.slice none 0 0, .int .i64 n] w fun e w' => e = .returned (.slice (some ⟨w.heap.size, 0, none⟩) 0 (grownCap w n 0 T)) ∧ w' = w.drew.alloc (.cells (zs w) T)) :
    ACalls C f [.sl .nil [], .int .i64 n] st fun v st' => (v = .sl .nil [] ∧ st' = st) ∨ ∃ t, st t = none ∧ v = .sl (.tip t S) [] ∧ st' = st.upd t .tok := by
  refine ACalls.of_calls hf fun σ w vs hR hlen hvals => ?_
  obtain ⟨a, b, rfl⟩ := arr2 hlen
  obtain rfl := val_int (hvals 1 _ b rfl rfl) rfl
  have ha := hvals 0 _ a rfl rfl
  have ha : a = .slice none 0 0 := by
    cases ha with
    | slnil => rfl
    | sl _ _ vs b o cap sz hl hcap hm ht => exact ht.elim
  subst ha
  by_cases hn : n = 0
  · subst hn
    exact (h0 rfl w).mono fun e w' ⟨he, hw⟩ => by
      subst hw
      exact ⟨σ, _, _, st, he, Ext.refl _ _, hR, .slnil, .inl ⟨rfl, rfl⟩⟩
  · refine (h1 (by omega) w).mono fun e w' ⟨he, hw⟩ => ?_
    subst hw
    obtain ⟨j, σ', hs, hx', hR', hval⟩ := newSlice hR (cap := grownCap w n 0 T) (arr := zs w) (T := T) (fr := (0, 0)) ((Below.refl _ w).drew.alloc (Nat.le_refl _) _) (b := w.heap.size) (Nat.le_refl _) (heap_alloc_new w.drew _) (.inl rfl)
      (VE.nil S) (by simp [flat]) (hz w) (by simp) (by simp)
    exact ⟨σ', _, _, _, he, hx', hR', hval, .inr ⟨j, hs, rfl, rfl⟩⟩
end
end Go.AW
