/- How a world and the state that it shows go on together: new blocks, names, writes: a library of this claim. No condition. -/
import Derived.Test.YtiipkbkoigcabaaDoorSnd2
namespace Go.AW
open Go Go.RowKit
set_option linter.unusedVariables false
set_option linter.unusedSimpArgs false

section
variable {C : Ctx} {σ : Sig} {st : St} {w w' : World}

/-- Only block b is turned. -/
structure Wr (b : Nat) (w w' : World) : Prop where
  os : w'.os = w.os
  tape : w'.tape = w.tape
  output : w'.output = w.output
  size : w.heap.size ≤ w'.heap.size
  other : ∀ k, k ≠ b → k < w.heap.size → w'.heap[k]? = w.heap[k]?

theorem Below.of_wr {b B : Nat} (h : Wr b w w') (hb : B ≤ b) (hB : B ≤ w.heap.size) : Below B w w' :=
  ⟨h.os, h.tape, h.output, h.size, fun k hk => h.other k (by omega) (by omega)⟩

def Sig.name (σ : Sig) (i : Nat) (p : Pl) : Sig := { σ with pl := fun j => if j = i then some p else σ.pl j }
def Sig.see (σ : Sig) (V : Nat → Nat → Prop) : Sig := { σ with vis := fun b o => σ.vis b o ∨ V b o }

theorem Sig.name_same (σ : Sig) (i : Nat) (p : Pl) : (σ.name i p).pl i = some p := by simp [Sig.name]

theorem ObjAt.ext {σ' : Sig} {b : Nat} {cs : List AV} (h : ObjAt C σ w b cs) (hx : Ext σ w σ' w') (hn : ∀ o, ¬ σ'.vis b o) (hh : w'.heap[b]? = w.heap[b]?) : ObjAt C σ' w' b cs := by
  refine ⟨h.base, hn, ?_⟩
  obtain ⟨arr, T, fr, h1, h2, h3, h4, h5⟩ := h.row
  exact ⟨arr, T, fr, by rw [hh]; exact h1, h2, h3, fun i c v hc hv => (h4 i c v hc hv).ext hx, h5⟩

theorem TokAt.ext {σ' : Sig} {b e top : Nat} (h : TokAt C σ w b e top) (hn : ∀ o, e ≤ o → ¬ σ'.vis b o) (hh : w'.heap[b]? = w.heap[b]?) : TokAt C σ' w' b e top := by
  refine ⟨h.base, hn, ?_⟩
  obtain ⟨arr, T, fr, h1, h2, h3⟩ := h.row
  exact ⟨arr, T, fr, by rw [hh]; exact h1, h2, h3⟩

/-- What a fresh name lies at. -/
def ResAt (C : Ctx) (σ : Sig) (w : World) : Res → Pl → Prop
  | .obj cs, .obj b => ObjAt C σ w b cs
  | .tok, .tok b e top => TokAt C σ w b e top
  | _, _ => False

theorem ext_name {i : Nat} {p : Pl} (hi : σ.pl i = none) : Ext σ w (σ.name i p) w := by
  refine ⟨fun j q hq => ?_, fun _ _ h => h, fun _ _ _ => rfl⟩
  by_cases e : j = i
  · subst e; rw [hi] at hq; cases hq
  · simp [Sig.name, e, hq]

theorem R.addName {i : Nat} {p : Pl} {r : Res} (h : R C σ st w) (hi : σ.pl i = none) (hs : st i = none) (hb : ∀ j q, (st j).isSome → σ.pl j = some q → q.block ≠ p.block) (hr : ResAt C (σ.name i p) w r p) :
    R C (σ.name i p) (st.upd i r) w := by
  have hx : Ext σ w (σ.name i p) w := ext_name hi
  refine ⟨h.below, fun j cs hj => ?_, fun j hj => ?_, fun j k q q' hjk hj hk hq hq' => ?_, h.visok, ?_⟩
  · by_cases e : j = i
    · subst e
      rw [St.upd_same] at hj
      cases hj
      cases p with
      | obj b => exact ⟨b, Sig.name_same _ _ _, hr⟩
      | tok => exact hr.elim
    · rw [St.upd_ne _ _ _ e] at hj
      obtain ⟨b, hp, ho⟩ := h.obj j cs hj
      exact ⟨b, hx.pl _ _ hp, ho.ext hx ho.nvis rfl⟩
  · by_cases e : j = i
    · subst e
      rw [St.upd_same] at hj
      cases hj
      cases p with
      | obj b => exact hr.elim
      | tok b e top => exact ⟨b, e, top, Sig.name_same _ _ _, hr⟩
    · rw [St.upd_ne _ _ _ e] at hj
      obtain ⟨b, e, top, hp, ho⟩ := h.tok j hj
      exact ⟨b, e, top, hx.pl _ _ hp, ho.ext ho.nvis rfl⟩
  · have look : ∀ j q, (st.upd i r j).isSome → (σ.name i p).pl j = some q → (j = i ∧ q = p) ∨ (j ≠ i ∧ (st j).isSome ∧ σ.pl j = some q) := by
      intro j q hj hq
      by_cases e : j = i
      · subst e; rw [Sig.name_same] at hq; cases hq; exact .inl ⟨rfl, rfl⟩
      · rw [St.upd_ne _ _ _ e] at hj; simp [Sig.name, e] at hq; exact .inr ⟨e, hj, hq⟩
    rcases look j q hj hq with ⟨rfl, rfl⟩ | ⟨e1, h1, h2⟩
    · rcases look k q' hk hq' with ⟨rfl, rfl⟩ | ⟨e3, h3, h4⟩
      · exact absurd rfl hjk
      · exact (hb k q' h3 h4).symm
    · rcases look k q' hk hq' with ⟨rfl, rfl⟩ | ⟨e3, h3, h4⟩
      · exact hb j q h1 h2
      · exact h.inj j k q q' hjk h1 h3 h2 h4
  · obtain ⟨n, hn⟩ := h.fresh
    refine ⟨max n (i + 1), fun j hj => ?_⟩
    have : j ≠ i := by omega
    simp [Sig.name, this, hn j (by omega)]

/-- More is seen: cells that no live name may write. -/
theorem R.addVis {V : Nat → Nat → Prop} (h : R C σ st w) (hV : ∀ b o, V b o → b < w.heap.size)
    (ho : ∀ i b, σ.pl i = some (.obj b) → (st i).isSome → ∀ o, ¬ V b o) (ht : ∀ i b e top, σ.pl i = some (.tok b e top) → (st i).isSome → ∀ o, e ≤ o → ¬ V b o) :
    R C (σ.see V) st w ∧ Ext σ w (σ.see V) w := by
  have hx : Ext σ w (σ.see V) w := ⟨fun _ _ h => h, fun _ _ h => .inl h, fun _ _ _ => rfl⟩
  refine ⟨⟨h.below, fun j cs hj => ?_, fun j hj => ?_, h.inj, fun b o hv => hv.elim (h.visok b o) (hV b o), h.fresh⟩, hx⟩
  · obtain ⟨b, hp, hob⟩ := h.obj j cs hj
    exact ⟨b, hp, hob.ext hx (fun o hv => hv.elim (hob.nvis o) (ho j b hp (by simp [hj]) o)) rfl⟩
  · obtain ⟨b, e, top, hp, hob⟩ := h.tok j hj
    exact ⟨b, e, top, hp, hob.ext (fun o heo hv => hv.elim (hob.nvis o heo) (ht j b e top hp (by simp [hj]) o heo)) rfl⟩

/-- A name goes. -/
theorem R.del (h : R C σ st w) (i : Nat) : R C σ (st.del i) w := by
  have hd : ∀ j r, st.del i j = some r → st j = some r := by
    intro j r hj
    unfold St.del at hj
    split at hj
    · cases hj
    · exact hj
  have hd' : ∀ j, (st.del i j).isSome → (st j).isSome := by
    intro j hj
    obtain ⟨r, hr⟩ := Option.isSome_iff_exists.1 hj
    simp [hd j r hr]
  exact ⟨h.below, fun j cs hj => h.obj j cs (hd j _ hj), fun j hj => h.tok j (hd j _ hj), fun j k q q' hjk hj hk => h.inj j k q q' hjk (hd' j hj) (hd' k hk), h.visok, h.fresh⟩

theorem live_lt (h : R C σ st w) {i : Nat} {q : Pl} (hi : (st i).isSome) (hq : σ.pl i = some q) : q.block < w.heap.size := by
  obtain ⟨p, hp, hlt, _⟩ := h.live hi
  rw [hq] at hp; cases hp; exact hlt

/-- A new block with a name of its own. -/
theorem R.newObj (h : R C σ st w) (hb : Below w.heap.size w w') {b : Nat} (hbs : w.heap.size ≤ b) {arr : Array Value} {T : TypeId} {fr : Nat × Nat} (hh : w'.heap[b]? = some (.cells arr T fr)) (hfr : FrOk fr arr.size)
    {cs : List AV} (hl : arr.size = cs.length) (hv : ∀ (i : Nat) (c : AV) (v : Value), cs[i]? = some c → arr[i]? = some v → Val σ w c v) (h1 : ∀ c : AV, c ∈ cs → c.one = true) :
    ∃ i σ', st i = none ∧ σ'.pl i = some (.obj b) ∧ Ext σ w σ' w' ∧ R C σ' (st.upd i (.obj cs)) w' := by
  obtain ⟨i, hi, hs⟩ := h.name
  obtain ⟨hR, hx⟩ := h.heap hb
  have hx2 : Ext σ w' (σ.name i (.obj b)) w' := ext_name hi
  refine ⟨i, σ.name i (.obj b), hs, Sig.name_same _ _ _, hx.trans hx2, hR.addName hi hs (fun j q hj hq => ?_) ?_⟩
  · have := live_lt h hj hq
    simp only [Pl.block] at *
    omega
  · refine ⟨Nat.le_trans h.below.size hbs, fun o hvis => ?_, arr, T, fr, hh, hfr, hl, fun i c v hc hvv => ((hv i c v hc hvv).ext hx).ext hx2, h1⟩
    have := h.visok b o hvis
    omega

/-- A new row, its first cells seen, with the right to append. -/
theorem R.newTok (h : R C σ st w) (hb : Below w.heap.size w w') {b : Nat} (hbs : w.heap.size ≤ b) {arr : Array Value} {T : TypeId} {fr : Nat × Nat} (hh : w'.heap[b]? = some (.cells arr T fr)) (hfr : FrOk fr arr.size)
    (e top : Nat) (htop : top ≤ arr.size) :
    ∃ i σ', st i = none ∧ σ'.pl i = some (.tok b e top) ∧ (∀ o, o < e → σ'.vis b o) ∧ Ext σ w σ' w' ∧ R C σ' (st.upd i .tok) w' := by
  obtain ⟨i, hi, hs⟩ := h.name
  obtain ⟨hR, hx⟩ := h.heap hb
  have hblt : b < w'.heap.size := (Array.getElem?_eq_some_iff.1 hh).1
  have hlive : ∀ j q, (st j).isSome → σ.pl j = some q → q.block ≠ b := fun j q hj hq => by
    have := live_lt h hj hq; omega
  obtain ⟨hR2, hx2⟩ := hR.addVis (V := fun b' o => b' = b ∧ o < e) (fun b' o hv => hv.1 ▸ hblt)
    (fun j b' hp hj o hv => hlive j _ hj hp hv.1) (fun j b' e' top' hp hj o _ hv => hlive j _ hj hp hv.1)
  have hx3 : Ext (σ.see fun b' o => b' = b ∧ o < e) w' ((σ.see fun b' o => b' = b ∧ o < e).name i (.tok b e top)) w' := ext_name hi
  refine ⟨i, (σ.see fun b' o => b' = b ∧ o < e).name i (.tok b e top), hs, Sig.name_same _ i (.tok b e top), fun o ho => Or.inr ⟨rfl, ho⟩, (hx.trans hx2).trans hx3, hR2.addName hi hs (fun j q hj hq => hlive j q hj hq) ?_⟩
  refine ⟨Nat.le_trans h.below.size hbs, fun o ho hvis => ?_, arr, T, fr, hh, hfr, htop⟩
  rcases hvis with hvis | ⟨_, hlt⟩
  · have := h.visok b o hvis; omega
  · omega

/-- A new block that is only seen. -/
theorem R.newVis (h : R C σ st w) (hb : Below w.heap.size w w') (b0 : Nat) (hb0 : w.heap.size ≤ b0) :
    ∃ σ', (∀ b o, b0 ≤ b → b < w'.heap.size → σ'.vis b o) ∧ Ext σ w σ' w' ∧ R C σ' st w' := by
  obtain ⟨hR, hx⟩ := h.heap hb
  have hlive : ∀ j q, (st j).isSome → σ.pl j = some q → ¬ b0 ≤ q.block := fun j q hj hq => by
    have := live_lt h hj hq; omega
  obtain ⟨hR2, hx2⟩ := hR.addVis (V := fun b' o => b0 ≤ b' ∧ b' < w'.heap.size) (fun b' o hv => hv.2)
    (fun j b' hp hj o hv => hlive j _ hj hp hv.1) (fun j b' e' top' hp hj o _ hv => hlive j _ hj hp hv.1)
  exact ⟨_, fun b o hbo hlt => Or.inr ⟨hbo, hlt⟩, hx.trans hx2, hR2⟩

/-- A write into an object. -/
theorem R.setObj (h : R C σ st w) {i b : Nat} {cs cs' : List AV} (hi : st i = some (.obj cs)) (hp : σ.pl i = some (.obj b)) (hw : Wr b w w') {arr : Array Value} {T : TypeId} {fr : Nat × Nat} (hh : w'.heap[b]? = some (.cells arr T fr))
    (hfr : FrOk fr arr.size) (hl : arr.size = cs'.length) (hv : ∀ (i : Nat) (c : AV) (v : Value), cs'[i]? = some c → arr[i]? = some v → Val σ w c v) (h1 : ∀ c : AV, c ∈ cs' → c.one = true) :
    R C σ (st.upd i (.obj cs')) w' ∧ Ext σ w σ w' := by
  obtain ⟨b', hp', hob⟩ := h.obj i cs hi
  rw [hp] at hp'; cases hp'
  have hne : ∀ b' o, σ.vis b' o → b' ≠ b := fun b' o hv e => hob.nvis o (e ▸ hv)
  have hx : Ext σ w σ w' := ⟨fun _ _ h => h, fun _ _ h => h, fun b' o hv => World.cell?_of_block (a := ⟨b', o, none⟩) (hw.other b' (hne b' o hv) (h.visok b' o hv))⟩
  have hother : ∀ j q, j ≠ i → (st j).isSome → σ.pl j = some q → w'.heap[q.block]? = w.heap[q.block]? := fun j q hj hs hq =>
    hw.other _ (h.inj j i q (.obj b) hj hs (by simp [hi]) hq hp) (live_lt h hs hq)
  refine ⟨⟨h.below.trans (Below.of_wr hw hob.base h.below.size), fun j cs2 hj => ?_, fun j hj => ?_, fun j k q q' hjk hj hk => ?_, fun b o hv => Nat.lt_of_lt_of_le (h.visok b o hv) hw.size, h.fresh⟩, hx⟩
  · by_cases e : j = i
    · subst e
      rw [St.upd_same] at hj
      cases hj
      exact ⟨b, hp, hob.base, hob.nvis, arr, T, fr, hh, hfr, hl, fun i c v hc hvv => (hv i c v hc hvv).ext hx, h1⟩
    · rw [St.upd_ne _ _ _ e] at hj
      obtain ⟨b2, hp2, ho2⟩ := h.obj j cs2 hj
      exact ⟨b2, hp2, ho2.ext hx ho2.nvis (hother j _ e (by simp [hj]) hp2)⟩
  · by_cases e : j = i
    · subst e; rw [St.upd_same] at hj; cases hj
    · rw [St.upd_ne _ _ _ e] at hj
      obtain ⟨b2, e2, top2, hp2, ho2⟩ := h.tok j hj
      exact ⟨b2, e2, top2, hp2, ho2.ext ho2.nvis (hother j _ e (by simp [hj]) hp2)⟩
  · have look : ∀ j, (st.upd i (.obj cs') j).isSome → (st j).isSome := fun j hj => by
      by_cases e : j = i
      · subst e; simp [hi]
      · rwa [St.upd_ne _ _ _ e] at hj
    exact h.inj j k q q' hjk (look j hj) (look k hk)

/-- A write behind the end of a row: the old right goes, a new one comes. -/
theorem R.grow (h : R C σ st w) {i b e top : Nat} (hi : st i = some .tok) (hp : σ.pl i = some (.tok b e top)) (hw : Wr b w w') {arr : Array Value} {T : TypeId} {fr : Nat × Nat} (hh : w'.heap[b]? = some (.cells arr T fr))
    (hfr : FrOk fr arr.size) (hsame : ∀ o, o < e → w'.cell? ⟨b, o, none⟩ = w.cell? ⟨b, o, none⟩) (e' : Nat) (he : e ≤ e') (htop : top ≤ arr.size) :
    ∃ j σ', st j = none ∧ σ'.pl j = some (.tok b e' top) ∧ (∀ o, o < e' → (e ≤ o → σ'.vis b o)) ∧ Ext σ w σ' w' ∧ R C σ' ((st.del i).upd j .tok) w' := by
  obtain ⟨b', e1, top1, hp', hob⟩ := h.tok i hi
  rw [hp] at hp'; cases hp'
  obtain ⟨j, hj, hs⟩ := h.name
  have hji : j ≠ i := fun e => by subst e; rw [hi] at hs; cases hs
  have hx : Ext σ w σ w' := ⟨fun _ _ h => h, fun _ _ h => h, fun b' o hv => by
    by_cases eb : b' = b
    · subst eb
      exact hsame o (by rcases Nat.lt_or_ge o e with hlt | hge; exact hlt; exact absurd hv (hob.nvis o hge))
    · exact World.cell?_of_block (a := ⟨b', o, none⟩) (hw.other b' eb (h.visok b' o hv))⟩
  have hblt : b < w'.heap.size := (Array.getElem?_eq_some_iff.1 hh).1
  have hd : ∀ k r, st.del i k = some r → st k = some r ∧ k ≠ i := by
    intro k r hk
    unfold St.del at hk
    split at hk
    · cases hk
    · rename_i hne; exact ⟨hk, hne⟩
  have hd' : ∀ k, (st.del i k).isSome → (st k).isSome ∧ k ≠ i := by
    intro k hk
    obtain ⟨r, hr⟩ := Option.isSome_iff_exists.1 hk
    exact ⟨by simp [(hd k r hr).1], (hd k r hr).2⟩
  have hother : ∀ k q, k ≠ i → (st k).isSome → σ.pl k = some q → q.block ≠ b ∧ w'.heap[q.block]? = w.heap[q.block]? := fun k q hk hs hq => by
    have hne := h.inj k i q (.tok b e top) hk hs (by simp [hi]) hq hp
    exact ⟨hne, hw.other _ hne (live_lt h hs hq)⟩
  have hR1 : R C σ (st.del i) w' := by
    refine ⟨h.below.trans (Below.of_wr hw hob.base h.below.size), fun k cs2 hk => ?_, fun k hk => ?_, fun k k' q q' hkk hk hk' => h.inj k k' q q' hkk (hd' k hk).1 (hd' k' hk').1, fun b o hv => Nat.lt_of_lt_of_le (h.visok b o hv) hw.size, h.fresh⟩
    · obtain ⟨hk1, hk2⟩ := hd k _ hk
      obtain ⟨b2, hp2, ho2⟩ := h.obj k cs2 hk1
      exact ⟨b2, hp2, ho2.ext hx ho2.nvis (hother k _ hk2 (by simp [hk1]) hp2).2⟩
    · obtain ⟨hk1, hk2⟩ := hd k _ hk
      obtain ⟨b2, e2, top2, hp2, ho2⟩ := h.tok k hk1
      exact ⟨b2, e2, top2, hp2, ho2.ext ho2.nvis (hother k _ hk2 (by simp [hk1]) hp2).2⟩
  obtain ⟨hR2, hx2⟩ := hR1.addVis (V := fun b' o => b' = b ∧ e ≤ o ∧ o < e') (fun b' o hv => hv.1 ▸ hblt)
    (fun k b' hpk hk o hv => (hother k _ (hd' k hk).2 (hd' k hk).1 hpk).1 hv.1) (fun k b' e2 top' hpk hk o _ hv => (hother k _ (hd' k hk).2 (hd' k hk).1 hpk).1 hv.1)
  have hx3 : Ext (σ.see fun b' o => b' = b ∧ e ≤ o ∧ o < e') w' ((σ.see fun b' o => b' = b ∧ e ≤ o ∧ o < e').name j (.tok b e' top)) w' := ext_name hj
  have hsj : st.del i j = none := by unfold St.del; split <;> simp [hs]
  refine ⟨j, (σ.see fun b' o => b' = b ∧ e ≤ o ∧ o < e').name j (.tok b e' top), hs, Sig.name_same _ j (.tok b e' top), fun o ho heo => Or.inr ⟨rfl, heo, ho⟩, (hx.trans hx2).trans hx3, hR2.addName hj hsj (fun k q hk hq => (hother k q (hd' k hk).2 (hd' k hk).1 hq).1) ?_⟩
  refine ⟨hob.base, fun o ho hvis => ?_, arr, T, fr, hh, hfr, htop⟩
  rcases hvis with hvis | ⟨_, _, hlt⟩
  · exact hob.nvis o (by omega) hvis
  · omega

end
end Go.AW
