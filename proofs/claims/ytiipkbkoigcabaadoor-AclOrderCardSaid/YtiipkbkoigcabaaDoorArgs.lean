/- What an argument's reading says of its value: a library of this claim, generic in the program. No condition. -/
import Derived.Test.YtiipkbkoigcabaaDoorVcg
import Derived.ProofKit
import Derived.HandedShaped
namespace Go.AW
open Go Go.RowKit Go.ChangeShapes
set_option linter.unusedVariables false
set_option linter.unusedSimpArgs false

/-- All that stands in a world is seen. -/
def sees (w : World) : Sig := ⟨fun _ => none, fun b _ => b < w.heap.size⟩

section
variable {H : Type} {enc : TypeId × Value → H} {P : Program} {w : World} {base : Nat} {sp : Nat → Bool} {held : Bool}

/-- Whatever reads at a type shows an abstract value of this kind. -/
def Rd (enc : TypeId × Value → H) (P : Program) (w : World) (base : Nat) (sp : Nat → Bool) (held : Bool) (t : TypeId) (Q : AV → Prop) : Prop :=
  ∀ (fuel : Nat) (cs : List Value) (x : DataW H × List MemPlace), DataW.trod enc P w base sp held fuel t cs = some x → ∃ v a, v.cells.toList = cs ∧ Val (sees w) w a v ∧ a.good = true ∧ Q a

/-- What one cell can hold. -/
def Rd1 (enc : TypeId × Value → H) (P : Program) (w : World) (base : Nat) (sp : Nat → Bool) (held : Bool) (t : TypeId) (Q : AV → Prop) : Prop :=
  ∀ (fuel : Nat) (cs : List Value) (x : DataW H × List MemPlace), DataW.trod enc P w base sp held fuel t cs = some x → ∃ v a, cs = [v] ∧ v.cells = #[v] ∧ Val (sees w) w a v ∧ a.one = true ∧ Q a

theorem Rd1.rd {t : TypeId} {Q : AV → Prop} (h : Rd1 enc P w base sp held t Q) : Rd enc P w base sp held t Q := by
  intro fuel cs x hx
  obtain ⟨v, a, rfl, h1, h2, h3, h4⟩ := h fuel cs x hx
  exact ⟨v, a, by rw [h1], h2, by cases a <;> simp_all [AV.one, AV.good], h4⟩

theorem Rd1.int {t : TypeId} {k : IntKind} (ht : P.underlying t = some (.int k)) : Rd1 enc P w base sp held t fun a => ∃ n, a = .int k n ∧ (Lit.int k n).wf = true := by
  intro fuel cs x hx
  obtain ⟨n, rfl, _, hw⟩ := DataW.trod_int ht hx
  exact ⟨.int k n, .int k n, rfl, rfl, .int k n, rfl, n, rfl, hw⟩

theorem Rd1.bool {t : TypeId} (ht : P.underlying t = some .bool) : Rd1 enc P w base sp held t fun a => ∃ b, a = .bool b := by
  intro fuel cs x hx
  obtain ⟨b, rfl, _⟩ := DataW.trod_bool ht hx
  exact ⟨.bool b, .bool b, rfl, rfl, .bool b, rfl, b, rfl⟩

theorem Rd1.str {t : TypeId} (ht : P.underlying t = some .string) : Rd1 enc P w base sp held t fun a => ∃ s, a = .str s ∧ s.length ≤ maxLen := by
  intro fuel cs x hx
  obtain ⟨s, rfl, _, hs⟩ := DataW.trod_string ht hx
  exact ⟨.string s, .str s.data.toList, rfl, rfl, .str s, rfl, _, rfl, by simpa using hs⟩

/-- Things that are there one by one are there all together. -/
theorem listOf {α : Type} : ∀ {n : Nat} {R : Nat → α → Prop}, (∀ i, i < n → ∃ x, R i x) → ∃ l : List α, l.length = n ∧ ∀ (i : Nat) (x : α), l[i]? = some x → R i x
  | 0, R, _ => ⟨[], rfl, fun i x h => by simp at h⟩
  | n + 1, R, h => by
    obtain ⟨l, h1, h2⟩ := listOf (n := n) (R := R) fun i hi => h i (by omega)
    obtain ⟨x, hx⟩ := h n (by omega)
    refine ⟨l ++ [x], by simp [h1], fun i y hy => ?_⟩
    rcases Nat.lt_or_ge i l.length with hlt | hge
    · rw [List.getElem?_append_left hlt] at hy; exact h2 i y hy
    · rw [List.getElem?_append_right hge] at hy
      have : i = n := by
        have := (List.getElem?_eq_some_iff.1 hy).1
        simp at this
        omega
      subst this
      rw [h1, Nat.sub_self] at hy
      cases hy
      exact hx

theorem cells?_get {a : Addr} {S : Nat} {cs : List Value} (h : w.cells? base a S = some cs) : cs.length = S ∧ ∀ i, i < S → w.cell? (a.add i) = cs[i]? := by
  unfold World.cells? at h
  split at h
  · exact ⟨by simpa using mapM_some_length h, fun i hi => by simpa using mapM_some_get h i i (by simp [hi])⟩
  · cases h

theorem Rd1.slice {t e : TypeId} {Q : AV → Prop} (ht : P.underlying t = some (.slice e)) (hS : 0 < P.cellsOf e) (h : Rd enc P w base sp held e Q) :
    Rd1 enc P w base sp held t fun a => ∃ es, a = .sl .sh es ∧ es.length ≤ maxLen ∧ ∀ x ∈ es, Q x := by
  intro fuel cs x hx
  rcases DataW.trod_slice ht hx with ⟨rfl, _⟩ | ⟨a, len, cap, elems, rest, n, _, rfl, _, _, hl, hc, hlen, hel, _⟩
  · exact ⟨_, .sl .sh [], rfl, rfl, Val.slnil.sh1', rfl, [], rfl, by simp, by simp⟩
  · refine ⟨.slice (some a) len cap, ?_⟩
    have key : ∀ i, i < len → ∃ p : Value × AV, p.1.cells.size = P.cellsOf e ∧ (∀ j c, p.1.cells[j]? = some c → w.cell? ((a.add (i * P.cellsOf e)).add j) = some c) ∧ Val (sees w) w p.2 p.1 ∧ p.2.good = true ∧ Q p.2 := by
      intro i hi
      have he := hel i hi
      have : elems[i]? = some elems[i] := by simp [hlen, hi]
      rw [this] at he
      simp only [Option.bind_eq_some_iff] at he
      obtain ⟨c1, hc1, hy⟩ := he
      obtain ⟨v, av, h1, h2, h3, h4⟩ := h n c1 _ hy
      obtain ⟨g1, g2⟩ := cells?_get hc1
      refine ⟨(v, av), ?_, fun j c hj => ?_, h2, h3, h4⟩
      · have := congrArg List.length h1; simp at this; rw [this, g1]
      · have hj' : c1[j]? = some c := by rw [← h1]; simpa using hj
        have hlt : j < P.cellsOf e := by rw [← g1]; exact (List.getElem?_eq_some_iff.1 hj').1
        rw [g2 j hlt, hj']
    obtain ⟨l, hl1, hl2⟩ := listOf key
    refine ⟨.sl .sh (l.map (·.2)), rfl, rfl, ?_, rfl, l.map (·.2), rfl, by simp; omega, ?_⟩
    · rcases Nat.eq_zero_or_pos len with h0 | h0
      · subst h0
        have : l = [] := List.length_eq_zero_iff.1 hl1
        subst this
        exact .slempty _ _
      · obtain ⟨b, o, spot⟩ := a
        have hsp : spot = none := by
          obtain ⟨p, hp⟩ : ∃ p, l[0]? = some p := ⟨l[0]'(by omega), by simp [hl1, h0]⟩
          obtain ⟨k1, k2, _⟩ := hl2 0 p hp
          have := k2 0 (p.1.cells[0]'(by omega)) (by simp [k1, hS])
          cases spot with
          | none => rfl
          | some s => simp [World.cell?, Addr.add] at this; split at this <;> simp at this
        subst hsp
        have hv : Val (sees w) w (.sl .sh (l.map (·.2))) (.slice (some ⟨b, o, none⟩) (l.map (·.1)).length cap) := by
          refine .sl .sh _ _ b o cap (P.cellsOf e) (by simp) (by simp; omega) (by simp; omega) trivial (fun j v hj => ?_) (fun j i v c hj hi => ?_) (fun j x v hj hv => ?_) (fun x hx => ?_)
          · simp only [List.getElem?_map, Option.map_eq_some_iff] at hj
            obtain ⟨p, hp, rfl⟩ := hj
            exact (hl2 j p hp).1
          · simp only [List.getElem?_map, Option.map_eq_some_iff] at hj
            obtain ⟨p, hp, rfl⟩ := hj
            have hcell := (hl2 j p hp).2.1 i c hi
            have e1 : ((⟨b, o, none⟩ : Addr).add (j * P.cellsOf e)).add i = ⟨b, o + j * P.cellsOf e + i, none⟩ := by rw [Addr.add_lit, Addr.add_lit]
            rw [e1] at hcell
            refine ⟨?_, hcell⟩
            show b < w.heap.size
            simp only [World.cell?] at hcell
            cases hb : w.heap[b]? with
            | none => simp [hb] at hcell
            | some ob => exact (Array.getElem?_eq_some_iff.1 hb).1
          · simp only [List.getElem?_map, Option.map_eq_some_iff] at hj hv
            obtain ⟨p, hp, rfl⟩ := hj
            obtain ⟨q, hq, rfl⟩ := hv
            rw [hp] at hq; cases hq
            exact (hl2 j p hp).2.2.1
          · obtain ⟨p, hp, rfl⟩ := List.mem_map.1 hx
            obtain ⟨j, hj⟩ := List.mem_iff_getElem?.1 hp
            exact (hl2 j p hj).2.2.2.1
        have e2 : (l.map (·.1)).length = len := by simp [hl1]
        rw [e2] at hv
        exact hv
    · intro x hx
      obtain ⟨p, hp, rfl⟩ := List.mem_map.1 hx
      obtain ⟨j, hj⟩ := List.mem_iff_getElem?.1 hp
      exact (hl2 j p hj).2.2.2.2

/-- A struct of two one-cell fields. -/
theorem Rd.struct2 {t : TypeId} {f0 f1 : Field} {Q0 Q1 : AV → Prop} (ht : P.underlying t = some (.struct #[f0, f1])) (ho : f0.offset = 0 ∧ f1.offset = 1 ∧ P.cellsOf f0.type = 1 ∧ P.cellsOf f1.type = 1 ∧ P.cellsOf t = 2)
    (h0 : Rd1 enc P w base sp held f0.type Q0) (h1 : Rd1 enc P w base sp held f1.type Q1) : Rd enc P w base sp held t fun a => ∃ x y, a = .agg [x, y] ∧ Q0 x ∧ Q1 y := by
  intro fuel cs x hx
  obtain ⟨y0, y1, n, _, hl, e0, e1⟩ := trod_struct2 ht hx
  obtain ⟨o0, o1, c0, c1, ct⟩ := ho
  rw [o0, c0] at e0
  rw [o1, c1] at e1
  rw [ct] at hl
  match cs, hl with
  | [u, v], _ =>
    obtain ⟨u', a, hu, _, va, oa, qa⟩ := h0 n _ _ e0
    obtain ⟨v', b, hv, _, vb, ob, qb⟩ := h1 n _ _ e1
    simp at hu hv
    subst hu; subst hv
    refine ⟨.agg #[u, v], .agg [a, b], rfl, .agg _ _ rfl (fun i c x hc hx => ?_) (fun c hc => ?_), by simp [AV.good, oa, ob], a, b, rfl, qa, qb⟩
    · match i, hc, hx with
      | 0, hc, hx => simp at hc hx; subst hc; subst hx; exact va
      | 1, hc, hx => simp at hc hx; subst hc; subst hx; exact vb
    · simp at hc
      rcases hc with rfl | rfl
      · exact oa
      · exact ob

/-- An argument of a slice type. -/
theorem Rd1.arg {t e : TypeId} {Q : AV → Prop} (ht : P.underlying t = some (.slice e)) (h : Rd1 enc P w base sp held t Q) {r : Reach} {b0 : Nat} {v : Value} (hval : Value.okWide P w r b0 t v) {d : DataW H} {ps : List MemPlace} (hd : DataW.Trod enc P w base sp held t v d ps) :
    ∃ a, Val (sees w) w a v ∧ Q a := by
  obtain ⟨fuel, hf⟩ := hd
  obtain ⟨v', a, h1, _, h2, _, h3⟩ := h fuel _ _ hf
  have hc : v.cells = #[v] := by
    cases v <;> first | rfl | (simp [Value.okWide, Cell.okWide, Cell.ok, ht] at hval)
  rw [hc] at h1
  cases h1
  exact ⟨a, h2, h3⟩

/-- A world at a call's start. -/
theorem R.start {C : Ctx} (hC : C.w0 = w) : R C (sees w) (fun _ => none) w := by
  subst hC
  exact ⟨Below.refl _ _, fun i cs h => (by cases h), fun i h => (by cases h), fun i j p q _ h => (by cases h), fun b o h => h, ⟨0, fun i _ => rfl⟩⟩

theorem R.after {C : Ctx} {σ : Sig} {st : St} {w' : World} (h : R C σ st w') : Below C.w0.heap.size C.w0 w' := h.below
end

/-- The wrap, for a row that lists variables, in a world of the program's shape. -/
theorem returns_shaped {H : Type} {enc : TypeId × Value → H} {a : Assume} {C : Checked} {os : Os} {f : FuncId} {fn : Func} {s : ChangeSpec} {conds : List PathCond} {apart fresh handsOn again : Bool} {X : World → Array Value → Prop}
    (hX : ∀ (w w' : World) (args : Array Value), w.heap = w'.heap → X w args → X w' args)
    (own : ownKnob C.prog.godebug = none) (started : os.Started) (noInit : C.prog.inits.idxOf? f = none) (hfn : C.prog.funcs[f]? = some fn)
    (witness : ∃ (w : World) (tape : Tape) (i : Input), w.os = os ∧ (w.forCall tape i).Shaped C.prog ∧ i.vars = [] ∧ Input.okWide C.prog (w.forCall tape i) .any w.heap.size f i ∧
      ((s.pre enc C.prog fn conds apart (w.forCall tape i).memory i.args ∧ X (w.forCall tape i).memory i.args) ∧ sizedMet enc C.prog fn (OpenSpec.ofChange s) apart (w.forCall tape i).memory i.args) ∧ a.holds C.prog (lone (Frame.enter C.prog f i.args .normal) [] (w.forCall tape i)))
    (contract : ∀ (W : World) (base : Nat) (args : Array Value) (ds gs : List (DataW H)) (before : List MemPlace),
      (∀ (j : Nat) t v, fn.params[j]? = some t → args[j]? = some v → Value.okWide C.prog W .any base t v) →
      DataW.Whole enc C.prog fn.params.toList s.vars apart W args.toList ds gs before →
      X W args → W.ShapedOpen C.prog →
      Calls C.prog f args W fun e W' => ∃ v, e = .returned v ∧ s.post enc C.prog fn apart fresh handsOn again W args v W') :
    ReturnsInHanded a C os f .any (fun w args => (s.pre enc C.prog fn conds apart w args ∧ X w args) ∧ sizedMet enc C.prog fn (OpenSpec.ofChange s) apart w args) (s.post enc C.prog fn apart fresh handsOn again) := by
  refine returnsInHanded_of_calls own started noInit witness ?_
  intro w tape i _ hsh _ hok hpre hholds
  obtain ⟨_, _, _, fn', hfn', _, _, _, _, hval⟩ := hok
  have e : fn' = fn := Option.some.inj (hfn'.symm.trans hfn)
  subst e
  obtain ⟨⟨⟨ds, gs, before, hw, hc⟩, hx⟩, hz⟩ := hpre
  have hw' := DataW.Whole.of_heap (w' := w.forCall tape i) (by rfl) hw
  refine (contract (w.forCall tape i) w.heap.size i.args ds gs before hval hw' (hX _ _ _ (by rfl) hx) hsh).mono fun e W' ⟨v, he, hp⟩ => ?_
  subst he
  exact ChangeSpec.post_blind hp

/-- A contract, as a call. -/
theorem ACalls.calls {C : Ctx} {f : Nat} {args : List AV} {st : St} {K : AV → St → Prop} (h : ACalls C f args st K) {σ : Sig} {w : World} {vs : Array Value} (hR : R C σ st w) (hlen : args.length = vs.size)
    (hv : ∀ (i : Nat) (a : AV) (v : Value), args[i]? = some a → vs[i]? = some v → Val σ w a v) (hf : ∃ A rs m, fnComp C.P f = some (A, rs, m)) :
    Calls C.P f vs w fun e w' => ∃ σ' r v st', e = .returned v ∧ Ext σ w σ' w' ∧ R C σ' st' w' ∧ Val σ' w' r v ∧ K r st' := by
  obtain ⟨A, rs, m, hf⟩ := hf
  rcases h σ w vs hR hlen hv with ⟨w1, _, _, h3⟩ | ⟨σ', r, v, st', w', h1, _⟩
  · exact h3
  · exfalso
    unfold fnComp at hf
    split at hf
    · rename_i fn hfn
      split at hf
      · rename_i c rs' hb hrs
        split at hf
        · cases hf
        · rename_i hname
          have hname' : (fn.name == "runtime.NumGoroutine") = false := by simpa using hname
          have : (callFunc f vs).run C.P w = .ok (.enter f vs) w := by
            simp [callFunc, hfn, hb]
            exact fun he => by simp [he] at hname'
          rw [this] at h1
          cases h1
      · cases hf
    · cases hf
end Go.AW
