/- The operations that make or write memory do what the small language says (first part): a library of this claim. No condition. -/
import Derived.Test.YtiipkbkoigcabaaDoorMem
import Derived.Laws.BytesString
import Derived.Laws.Tables
namespace Go.AW
open Go Go.RowKit
set_option linter.unusedVariables false
set_option linter.unusedSimpArgs false

/-! ### Rows of values as rows of cells -/
def flat (vs : List Value) : List Value := (vs.map fun v => v.cells.toList).flatten

theorem flat_nil : flat [] = [] := rfl
theorem flat_cons (v : Value) (vs : List Value) : flat (v :: vs) = v.cells.toList ++ flat vs := by simp [flat]
theorem flat_append (a b : List Value) : flat (a ++ b) = flat a ++ flat b := by simp [flat]
theorem flat_length {S : Nat} : ∀ (vs : List Value), (∀ v ∈ vs, v.cells.size = S) → (flat vs).length = vs.length * S
  | [], _ => by simp [flat]
  | v :: vs, h => by
    rw [flat_cons, List.length_append, flat_length vs (fun u hu => h u (List.mem_cons_of_mem _ hu))]
    have := h v (List.mem_cons_self)
    simp [this, Nat.add_mul]
    omega

theorem flat_get {S : Nat} : ∀ (vs : List Value), (∀ v ∈ vs, v.cells.size = S) → ∀ (j i : Nat) (v : Value), vs[j]? = some v → i < S → (flat vs)[j * S + i]? = v.cells[i]?
  | [], _, j, i, v, hj, _ => by simp at hj
  | u :: vs, h, 0, i, v, hj, hi => by
    simp at hj; subst hj
    have := h u (List.mem_cons_self)
    rw [flat_cons, Nat.zero_mul, Nat.zero_add, List.getElem?_append_left (by simp; omega)]
    simp
  | u :: vs, h, j + 1, i, v, hj, hi => by
    have hu := h u (List.mem_cons_self)
    have := flat_get vs (fun x hx => h x (List.mem_cons_of_mem _ hx)) j i v (by simpa using hj) hi
    rw [flat_cons, List.getElem?_append_right (by simp [hu, Nat.add_mul]; omega)]
    rw [← this]
    congr 1
    simp [hu, Nat.add_mul]
    omega

theorem get_flat {S : Nat} (hS : 0 < S) (vs : List Value) (h : ∀ v ∈ vs, v.cells.size = S) (k : Nat) (c : Value) (hk : (flat vs)[k]? = some c) :
    ∃ v, vs[k / S]? = some v ∧ v.cells[k % S]? = some c := by
  have hlt : k < vs.length * S := by
    have := (List.getElem?_eq_some_iff.1 hk).1
    rwa [flat_length vs h] at this
  have hj : k / S < vs.length := (Nat.div_lt_iff_lt_mul hS).2 hlt
  have := flat_get vs h (k / S) (k % S) vs[k / S] (by simp [hj]) (Nat.mod_lt _ hS)
  rw [Nat.mul_comm, Nat.div_add_mod] at this
  exact ⟨vs[k / S], by simp [hj], by rw [← this]; exact hk⟩

theorem mem_of_get {α : Type} {l : List α} {i : Nat} {x : α} (h : l[i]? = some x) : x ∈ l := List.mem_of_getElem? h

section
variable {C : Ctx} {σ : Sig} {st : St} {w : World} {n : Nat} {e : Env} {a : Act} {o : Oper} {K : AV → St → Prop} {N : Act → World → Prop} {Q : Exit → Act → World → Prop}

/-- A slice over cells that are seen. -/
theorem Val.of_row {tk : Tk} {es : List AV} {vs : List Value} {b o' cap S : Nat} (hl : es.length = vs.length) (hcap : vs.length ≤ cap) (hm : vs.length ≤ maxLen)
    (ht : TipAt σ tk b o' vs.length S cap) (hz : ∀ v ∈ vs, v.cells.size = S)
    (hc : ∀ k c, (flat vs)[k]? = some c → σ.vis b (o' + k) ∧ w.cell? ⟨b, o' + k, none⟩ = some c)
    (hv : ∀ (j : Nat) (e : AV) (v : Value), es[j]? = some e → vs[j]? = some v → Val σ w e v) (hg : ∀ e : AV, e ∈ es → e.good = true) :
    Val σ w (.sl tk es) (.slice (some ⟨b, o', none⟩) vs.length cap) := by
  refine .sl tk es vs b o' cap S hl hcap hm ht (fun j v hj => hz v (mem_of_get hj)) (fun j i v c hj hi => ?_) hv hg
  have hvS := hz v (mem_of_get hj)
  have hiS : i < S := by
    have := (Array.getElem?_eq_some_iff.1 hi).1
    omega
  have := hc (j * S + i) c (by rw [flat_get vs hz j i v hj hiS]; exact hi)
  rwa [← Nat.add_assoc] at this

/-- What a slice value tells. -/
theorem Val.row {tk : Tk} {es : List AV} {v : Value} (h : Val σ w (.sl tk es) v) (hne : es ≠ []) :
    ∃ (vs : List Value) (b o' cap S : Nat), v = .slice (some ⟨b, o', none⟩) vs.length cap ∧ es.length = vs.length ∧ vs.length ≤ cap ∧ vs.length ≤ maxLen ∧ TipAt σ tk b o' vs.length S cap ∧ (∀ v ∈ vs, v.cells.size = S) ∧
      (0 < S → ∀ k c, (flat vs)[k]? = some c → σ.vis b (o' + k) ∧ w.cell? ⟨b, o' + k, none⟩ = some c) ∧
      (∀ (j : Nat) (e : AV) (v : Value), es[j]? = some e → vs[j]? = some v → Val σ w e v) ∧ (∀ e : AV, e ∈ es → e.good = true) := by
  cases h with
  | slnil => exact absurd rfl hne
  | slzero _ => exact absurd rfl hne
  | slempty _ _ => exact absurd rfl hne
  | sl _ _ vs b o' cap S hl hcap hm htk hz hc hvv hgd =>
    have hz' : ∀ v ∈ vs, v.cells.size = S := fun v hv => by
      obtain ⟨j, hj⟩ := List.mem_iff_getElem?.1 hv
      exact hz j v hj
    refine ⟨vs, b, o', cap, S, rfl, hl, hcap, hm, htk, hz', fun hS k c hk => ?_, hvv, hgd⟩
    obtain ⟨u, h1, h2⟩ := get_flat hS vs hz' k c hk
    have := hc _ _ u c h1 h2
    rw [Nat.add_assoc, Nat.mul_comm, Nat.div_add_mod] at this
    exact this

/-- All elements have as many cells as one of them. -/
theorem size_of_csize {es : List AV} {vs : List Value} {S S' : Nat} (hl : es.length = vs.length) (hz : ∀ v ∈ vs, v.cells.size = S) (hv : ∀ (j : Nat) (e : AV) (v : Value), es[j]? = some e → vs[j]? = some v → Val σ w e v)
    (hg : ∀ e : AV, e ∈ es → e.good = true) (hne : es ≠ []) (hS : (es.all fun a => a.csize == S') = true) : S = S' := by
  match es, vs, hl with
  | e0 :: es, v0 :: vs, _ =>
    have h1 := hv 0 e0 v0 rfl rfl
    have h2 := csize_cells h1 (hg _ List.mem_cons_self)
    have h3 := hz v0 List.mem_cons_self
    simp at hS
    omega
  | [], _, _ => exact absurd rfl hne

/-! ### Stores -/
theorem frozen_row {b i : Nat} {arr : Array Value} {T : TypeId} {fr : Nat × Nat} (hh : w.heap[b]? = some (.cells arr T fr)) (hfr : FrOk fr arr.size) (hi : i < arr.size) : w.frozen? ⟨b, i, none⟩ = false := by
  simp only [World.frozen?, hh]
  rcases hfr with h | h
  · subst h; simp
  · have : ¬ fr.1 ≤ i := by omega
    obtain ⟨lo, hi'⟩ := fr
    simp at this ⊢
    omega

theorem run_storeCells_row {P : Program} {b off : Nat} {T : TypeId} {fr : Nat × Nat} : ∀ (vs : List Value) (i : Nat) (arr : Array Value) (w : World), w.heap[b]? = some (.cells arr T fr) → FrOk fr arr.size → off + i + vs.length ≤ arr.size → (∀ v ∈ vs, v.oneCell' = true) →
    ∃ w' arr', (storeCells ⟨b, off, none⟩ vs i).run P w = .ok () w' ∧ Wr b w w' ∧ w'.heap[b]? = some (.cells arr' T fr) ∧ arr'.toList = arr.toList.take (off + i) ++ vs ++ arr.toList.drop (off + i + vs.length)
  | [], i, arr, w, hh, hfr, hl, h1 => by
    refine ⟨w, arr, by simp [storeCells], ⟨rfl, rfl, rfl, Nat.le_refl _, fun _ _ _ => rfl⟩, hh, by simp⟩
  | v :: vs, i, arr, w, hh, hfr, hl, h1 => by
    simp only [List.length_cons] at hl
    have hi : off + i < arr.size := by omega
    have hcell : w.cell? ⟨b, off + i, none⟩ = some arr[off + i] := by rw [cell_of_row w b _ arr T fr hh]; simp [hi]
    have hst : (store ⟨b, off + i, none⟩ v).run P w = .ok () (w.setCell ⟨b, off + i, none⟩ v) := by
      rw [run_store P w _ v _ (h1 v List.mem_cons_self), hcell]
      simp [frozen_row hh hfr hi]
    have hlt : b < w.heap.size := (Array.getElem?_eq_some_iff.1 hh).1
    have hget : w.heap[b] = .cells arr T fr := (Array.getElem?_eq_some_iff.1 hh).2
    have hh2 : (w.setCell ⟨b, off + i, none⟩ v).heap[b]? = some (.cells (arr.setIfInBounds (off + i) v) T fr) := by
      simp only [World.setCell, Array.getElem?_modify]
      simp [hlt, hget]
    obtain ⟨w', arr', hrun, hw, hh3, hl3⟩ := run_storeCells_row (P := P) (off := off) vs (i + 1) (arr.setIfInBounds (off + i) v) _ hh2 (by simpa using hfr) (by simp; omega) (fun u hu => h1 u (List.mem_cons_of_mem _ hu))
    refine ⟨w', arr', ?_, ⟨hw.os, hw.tape, hw.output, ?_, fun k hk hk2 => ?_⟩, hh3, ?_⟩
    · simp only [storeCells, Sem.run_bind, add_none, hst, Result.andThen_ok, hrun]
    · have := hw.size; simpa [World.setCell] using this
    · rw [hw.other k hk (by simpa [World.setCell] using hk2)]
      simp only [World.setCell, Array.getElem?_modify]
      rw [if_neg (by omega)]
    · rw [hl3]
      simp only [Array.toList_setIfInBounds, List.length_cons]
      have := list_seg_step arr.toList (off + i) v vs (by simp; omega)
      rw [Nat.add_assoc off i 1] at this
      exact this

theorem wp_new {av : AV} {v : Value} {st' : St} {σ' : Sig} {w' : World} (hN : Nx C σ w K N a o.dst) (h : (execOp a.eval o).run C.P w = .ok (.value v) w') (hx : Ext σ w σ' w') (hR : R C σ' st' w') (hv : Val σ' w' av v) (hk : K av st') : o.wp C.P a w N Q :=
  wp_value h (hN σ' st' w' av v hx hR hv hk)

theorem zeroAV_spec {P : Program} {t : TypeId} {z : AV} (h : zeroAV P t = some z) (w : World) : ∃ v, (zeroValue t).run P w = .ok v w ∧ z.good = true ∧ ∀ σ w, Val σ w z v := by
  unfold zeroAV at h
  cases hi : P.info? t with
  | none => simp [hi] at h
  | some i =>
    cases hz : i.zero with
    | none => simp [hi, hz] at h
    | some v =>
      have hrun : (zeroValue t).run P w = .ok v w := by simp [zeroValue, typeInfo, hi, hz]
      refine ⟨v, hrun, ?_⟩
      simp only [hi, Option.bind_some, hz] at h
      split at h
      · rename_i cs he
        cases he
        split at h
        · rename_i hall
          injection h with h; subst h
          have hall' : ∀ v ∈ cs.toList, (ofConst v).one = true := by simpa [Array.all_eq_true'] using (Array.all_eq_true'.1 hall)
          refine ⟨by simp only [AV.good, List.all_map]; exact List.all_eq_true.2 hall', fun σ w => .agg _ _ (by simp) (fun i c u hc hu => ?_) (fun c hc => ?_)⟩
          · simp only [List.getElem?_map] at hc
            have hu' : cs.toList[i]? = some u := by simpa using hu
            rw [hu'] at hc
            simp at hc
            subst hc
            exact Val.ofConst σ w u
          · obtain ⟨u, hu, rfl⟩ := List.mem_map.1 hc
            exact hall' u hu
        · cases h
      · rename_i v' hnot he
        cases he
        split at h
        · rename_i h1
          injection h with h; subst h
          refine ⟨?_, fun σ w => Val.ofConst σ w v⟩
          cases hv : ofConst v <;> simp_all [AV.good, AV.one]
        · cases h
      · cases h

/-- A new variable. -/
theorem s_newVar {t : TypeId} {v : Value} {av : AV} (hR : R C σ st w) (hN : Nx C σ w K N a o.dst) (hrun : (execOp a.eval o).run C.P w = .ok (.value (.pointer (some ⟨w.heap.size, 0, none⟩))) (w.alloc (.cells v.cells t)))
    (hv : Val σ w av v) (hg : av.good = true) (hk : ∀ id, st id = none → K (.ptr id 0) (st.upd id (.obj av.cells))) : o.wp C.P a w N Q := by
  obtain ⟨c1, c2, c3⟩ := hv.cells hg
  obtain ⟨i, σ', hs, hp, hx, hR'⟩ := hR.newObj (w' := w.alloc (.cells v.cells t)) ((Below.refl _ w).alloc (Nat.le_refl _) _) (b := w.heap.size) (Nat.le_refl _) (heap_alloc_new w _) (.inl rfl) c1.symm c2 c3
  exact wp_new hN hrun hx hR' (.ptr i 0 _ hp) (hk i hs)

theorem run_newVar' {P : Program} (t : TypeId) (v : Value) (w : World) : (newVar t v).run P w = .ok ⟨w.heap.size, 0, none⟩ (w.alloc (.cells v.cells t)) := by
  simp only [newVar, newRow, Sem.run_bind, run_newObj, Result.andThen_ok, Sem.run_pure]; rfl

theorem s_alloc {t : TypeId} {z : AV} (ho : o.op = .alloc t) (hz : zeroAV C.P t = some z) (h : opW C (.alloc z.cells) e st K) (hR : R C σ st w) (hE : EnvRel σ w n e a.tmps) (hN : Nx C σ w K N a o.dst) : o.wp C.P a w N Q := by
  simp only [opW] at h
  obtain ⟨v, hrun, hg, hv⟩ := zeroAV_spec hz w
  refine s_newVar (t := t) hR hN ?_ (hv σ w) hg h.2
  simp [execOp, ho, Instr.alloc, hrun, run_newVar']

theorem s_box {t : TypeId} {x : Operand} {S : Nat} (ho : o.op = .box t x) (h : opW C (.box S (cOpd x)) e st K) (hR : R C σ st w) (hE : EnvRel σ w n e a.tmps) (hN : Nx C σ w K N a o.dst) : o.wp C.P a w N Q := by
  simp only [opW] at h
  refine s_newVar (t := t) hR hN ?_ (hE.ev x) h.1.2 h.2
  simp [execOp, ho, Instr.box, run_newVar']

theorem s_store {t : TypeId} {x y : Operand} {S : Nat} (ho : o.op = .store t x y) (hS : sizeT C.P t = some S) (h : opW C (.store S (cOpd x) (cOpd y)) e st K) (hR : R C σ st w) (hE : EnvRel σ w n e a.tmps) (hN : Nx C σ w K N a o.dst) : o.wp C.P a w N Q := by
  simp only [opW] at h
  have hv := hE.ev x
  split at h
  · rename_i id off hx
    rw [hx] at hv
    generalize hu : a.eval x = u at hv
    cases hv with
    | ptr _ _ b hp =>
      split at h
      · rename_i cs hs
        obtain ⟨⟨hsz, hg, hoff⟩, h⟩ := h
        have hy := hE.ev y
        obtain ⟨c1, c2, c3⟩ := hy.cells hg
        obtain ⟨b', hp', hob⟩ := hR.obj id cs hs
        rw [hp] at hp'
        cases hp'
        obtain ⟨arr, T, fr, hh, hfr, hasz, hvv, hone⟩ := hob.row
        have hvsz : (a.eval y).cells.size = S := by rw [← c1]; exact hsz
        have hone' : ∀ v ∈ (a.eval y).cells.toList, v.oneCell' = true := by
          intro v hv
          obtain ⟨j, hj⟩ := List.mem_iff_getElem?.1 hv
          have hjl : j < (e.ev (cOpd y)).cells.length := by
            have := (List.getElem?_eq_some_iff.1 hj).1
            rw [c1]; simpa using this
          have hcj : (e.ev (cOpd y)).cells[j]? = some (e.ev (cOpd y)).cells[j] := by simp [hjl]
          exact oneCell_of (c2 j _ v hcj (by simpa using hj)) (c3 _ (mem_of_get hcj))
        obtain ⟨w', arr', hrun, hw, hh', hl'⟩ := run_storeCells_row (P := C.P) (off := off) (a.eval y).cells.toList 0 arr w hh hfr (by simp only [Array.length_toList, hvsz]; omega) hone'
        simp only [Nat.add_zero] at hl'
        have hasz' : arr'.size = arr.size := by
          have := congrArg List.length hl'
          simp only [Array.length_toList, List.length_append, List.length_take, List.length_drop, hvsz] at this
          omega
        have hlen : (splice cs off (e.ev (cOpd y)).cells).length = cs.length := by
          simp only [splice, List.length_append, List.length_take, List.length_drop, c1, hvsz]
          omega
        have c1' : (e.ev (cOpd y)).cells.length = S := hsz
        have vlen : (a.eval y).cells.toList.length = S := by simpa using hvsz
        have hvals : ∀ (i : Nat) (c : AV) (v : Value), (splice cs off (e.ev (cOpd y)).cells)[i]? = some c → arr'[i]? = some v → Val σ w c v := by
          intro i c v hc hv
          have hv' : arr'.toList[i]? = some v := by simpa using hv
          rw [hl'] at hv'
          have hvl : i < arr'.size := (Array.getElem?_eq_some_iff.1 hv).1
          have key : ∀ (cs : List AV) (l : List Value) (x : List AV) (y : List Value), cs.length = l.length → x.length = y.length → (∀ (i : Nat) (c : AV) (v : Value), cs[i]? = some c → l[i]? = some v → Val σ w c v) → (∀ (i : Nat) (c : AV) (v : Value), x[i]? = some c → y[i]? = some v → Val σ w c v) →
              off + x.length ≤ cs.length → (cs.take off ++ x ++ cs.drop (off + x.length))[i]? = some c → (l.take off ++ y ++ l.drop (off + y.length))[i]? = some v → Val σ w c v := by
            intro cs l x y e1 e2 h1 h2 hle hc hv
            simp only [List.append_assoc] at hc hv
            by_cases i1 : i < off
            · rw [List.getElem?_append_left (by simp; omega), List.getElem?_take, if_pos i1] at hc hv
              exact h1 i c v hc hv
            · rw [List.getElem?_append_right (by simp; omega)] at hc hv
              simp only [List.length_take] at hc hv
              rw [Nat.min_eq_left (by omega)] at hc hv
              by_cases i2 : i - off < x.length
              · rw [List.getElem?_append_left (by omega)] at hc hv
                exact h2 _ c v hc hv
              · rw [List.getElem?_append_right (by omega)] at hc hv
                rw [List.getElem?_drop] at hc hv
                rw [← e2] at hv
                exact h1 _ c v hc hv
          exact key cs arr.toList _ _ (by simp [hasz]) (by rw [c1', vlen]) (fun i c v hc hv => hvv i c v hc (by simpa using hv)) (fun i c v hc hv => c2 i c v hc (by simpa using hv)) (by rw [c1']; exact hoff) hc hv'
        have hones : ∀ c : AV, c ∈ splice cs off (e.ev (cOpd y)).cells → c.one = true := by
          intro c hc
          simp only [splice, List.append_assoc, List.mem_append] at hc
          rcases hc with hc | hc | hc
          · exact hone c (List.mem_of_mem_take hc)
          · exact c3 c hc
          · exact hone c (List.mem_of_mem_drop hc)
        obtain ⟨hR', hx'⟩ := hR.setObj (cs' := splice cs off (e.ev (cOpd y)).cells) hs hp hw hh' (by rw [hasz']; exact hfr) (by rw [hasz', hasz, hlen]) hvals hones
        refine wp_skip' (w' := w') ?_ (hN σ _ w' (.tup []) undef hx' hR' (.tup [] #[] rfl (by simp)) h)
        simp [execOp, ho, hu, Instr.storeAt, Instr.sureAddr, storeVar, sizeT_spec hS w, hvsz, hrun]
      · exact h.elim
  · exact h.elim

/-- Cells that show abstract ones. -/
structure VL (σ : Sig) (w : World) (cs : List AV) (vs : List Value) : Prop where
  len : cs.length = vs.length
  val : ∀ (i : Nat) (c : AV) (v : Value), cs[i]? = some c → vs[i]? = some v → Val σ w c v

theorem VL.splice {cs x : List AV} {l y : List Value} (h : VL σ w cs l) (k : VL σ w x y) {off : Nat} (hle : off + x.length ≤ cs.length) :
    VL σ w (AW.splice cs off x) (l.take off ++ y ++ l.drop (off + y.length)) := by
  have e1 := h.len
  have e2 := k.len
  refine ⟨by simp [AW.splice]; omega, fun i c v hc hv => ?_⟩
  simp only [AW.splice, List.append_assoc] at hc hv
  by_cases i1 : i < off
  · rw [List.getElem?_append_left (by simp; omega), List.getElem?_take, if_pos i1] at hc hv
    exact h.val i c v hc hv
  · rw [List.getElem?_append_right (by simp; omega)] at hc hv
    simp only [List.length_take] at hc hv
    rw [Nat.min_eq_left (by omega)] at hc hv
    by_cases i2 : i - off < x.length
    · rw [List.getElem?_append_left (by omega)] at hc hv
      exact k.val _ c v hc hv
    · rw [List.getElem?_append_right (by omega)] at hc hv
      rw [List.getElem?_drop] at hc hv
      rw [← e2] at hv
      exact h.val _ c v hc hv

theorem Val.vl {av : AV} {v : Value} (h : Val σ w av v) (hg : av.good = true) : VL σ w av.cells v.cells.toList :=
  ⟨by simpa using (h.cells hg).1, fun i c u hc hu => (h.cells hg).2.1 i c u hc (by simpa using hu)⟩

theorem good_sh {av : AV} (h : av.good = true) : av.sh.good = true := by
  cases av <;> simp_all [AV.good, AV.sh, AV.sh1, AV.one]
  exact fun x hx => one_sh1 (h x hx)

theorem csize_sh (av : AV) : av.sh.csize = av.csize := by
  cases av <;> simp [AV.csize, AV.cells, AV.sh, AV.sh1]

theorem fold_list {off : Nat} : ∀ (l : List Value) (k : Nat) (cells : Array Value), off + k + l.length ≤ cells.size →
    ((l.zipIdx k).foldl (fun (cs : Array Value) (x : Value × Nat) => cs.setIfInBounds (off + x.2) x.1) cells).toList = cells.toList.take (off + k) ++ l ++ cells.toList.drop (off + k + l.length)
  | [], k, cells, _ => by simp
  | v :: l, k, cells, h => by
    simp only [List.length_cons] at h
    have ih := fold_list (off := off) l (k + 1) (cells.setIfInBounds (off + k) v) (by simp; omega)
    simp only [List.zipIdx_cons, List.foldl_cons]
    rw [ih]
    simp only [Array.toList_setIfInBounds, List.length_cons]
    have := list_seg_step cells.toList (off + k) v l (by simp; omega)
    rw [Nat.add_assoc off k 1] at this
    exact this

theorem fold_cells {off : Nat} (v : Array Value) (cells : Array Value) (h : off + v.size ≤ cells.size) :
    (v.zipIdx.foldl (fun (cs : Array Value) (x : Value × Nat) => cs.setIfInBounds (off + x.2) x.1) cells).toList = cells.toList.take off ++ v.toList ++ cells.toList.drop (off + v.toList.length) := by
  have := fold_list (off := off) v.toList 0 cells (by simpa using h)
  simp only [Nat.add_zero] at this
  rw [← this, ← Array.foldl_toList, Array.toList_zipIdx]

theorem fill_step {place : Nat → Option (Nat × Nat)} {cells : Array Value} {i off S : Nat} {v : Value} {r : List (Nat × Value)} (hp : place i = some (off, S)) (h1 : v.cells.size = S) (h2 : off + S ≤ cells.size) :
    Instr.fill place cells ((i, v) :: r) = Instr.fill place (v.cells.zipIdx.foldl (fun (cs : Array Value) (x : Value × Nat) => cs.setIfInBounds (off + x.2) x.1) cells) r := by
  have h3 : ¬ cells.size < off + S := by omega
  simp [Instr.fill, hp, h1, h3]

theorem fill_sound {pl : List (Nat × Nat)} (hE : EnvRel σ w n e a.tmps) : ∀ (parts : List (Nat × Operand)) (l : List (Nat × Nat × Opd)) (zA cs : List AV) (zC : Array Value), partsB pl parts = some l → fillA e l zA = some cs → VL σ w zA zC.toList →
    ∃ cells, Instr.fill (fun x => pl[x]?) zC (parts.map fun p => (p.1, a.eval p.2)) = some cells ∧ VL σ w cs cells.toList
  | [], l, zA, cs, zC, hl, hf, hz => by
    simp [partsB] at hl
    subst hl
    simp [fillA] at hf
    subst hf
    exact ⟨zC, by simp [Instr.fill], hz⟩
  | (i, x) :: parts, l, zA, cs, zC, hl, hf, hz => by
    simp only [partsB] at hl
    split at hl
    · rename_i off S l' h1 h2
      injection hl with hl
      subst hl
      simp only [fillA] at hf
      split at hf
      · rename_i hcond
        obtain ⟨hS, hg, hle⟩ := hcond
        have hv := (hE.ev x).sh'
        have hvl := hv.vl (good_sh hg)
        have hlen : (e.ev (cOpd x)).sh.cells.length = S := by
          have := csize_sh (e.ev (cOpd x)); simp only [AV.csize] at this hS; omega
        have hvsz : (a.eval x).cells.size = S := by have := hvl.len; simp at this; omega
        have hzl := hz.len
        simp only [Array.length_toList] at hzl
        have hstep := fold_cells (off := off) (a.eval x).cells zC (by omega)
        obtain ⟨cells, hfill, hvlc⟩ := fill_sound hE parts l' (splice zA off (e.ev (cOpd x)).sh.cells) cs ((a.eval x).cells.zipIdx.foldl (fun (cs : Array Value) (x : Value × Nat) => cs.setIfInBounds (off + x.2) x.1) zC) h2 hf (by
          rw [hstep]
          exact hz.splice hvl (by rw [hlen]; exact hle))
        refine ⟨cells, ?_, hvlc⟩
        simp only [List.map_cons]
        rw [fill_step (by simpa using h1) hvsz (by omega)]
        exact hfill
      · cases hf
    · cases hl

theorem s_build {t : TypeId} {parts : Array (Nat × Operand)} {z : AV} {pl : List (Nat × Nat)} {l : List (Nat × Nat × Opd)} (ho : o.op = .build t parts) (hz : zeroAV C.P t = some z) (hpl : placesT C.P t = some pl) (hl : partsB pl parts.toList = some l)
    (h : opW C (.build z.cells l) e st K) (hR : R C σ st w) (hE : EnvRel σ w n e a.tmps) (hN : Nx C σ w K N a o.dst) : o.wp C.P a w N Q := by
  simp only [opW] at h
  split at h
  · rename_i cs hcs
    obtain ⟨⟨h1, h2⟩, h⟩ := h
    obtain ⟨zv, hrun, hg, hv⟩ := zeroAV_spec hz w
    have hvl := ((hv σ w).sh').vl (good_sh hg)
    have hcells : z.sh.cells = z.cells.map AV.sh1 := by cases z <;> simp [AV.sh, AV.cells, AV.sh1]
    rw [hcells] at hvl
    obtain ⟨cells, hfill, hvlc⟩ := fill_sound (n := n) hE parts.toList l _ cs zv.cells hl hcs hvl
    unfold placesT at hpl
    split at hpl
    · rename_i fs hu
      have hb : C.P.built t ((parts.map fun (p : Nat × Operand) => (p.1, a.eval p.2)).toList) = some cells := by
        unfold Program.built
        have hzz : (C.P.info? t).bind (·.zero) = some zv := by
          cases hi : C.P.info? t with
          | none => simp [zeroValue, typeInfo, hi] at hrun
          | some i =>
            cases hiz : i.zero with
            | none => simp [zeroValue, typeInfo, hi, hiz] at hrun
            | some v' => simp [zeroValue, typeInfo, hi, hiz] at hrun; simp [hiz, hrun]
        cases hi : C.P.info? t with
        | none => simp [hi] at hzz
        | some i =>
          simp only [hi, Option.bind_some] at hzz
          simp only [hi, hu, hzz, hpl, Array.toList_map]
          simpa using hfill
      refine wp_same hR hN (v := .agg cells) ?_ (.agg _ _ (by simpa using hvlc.len) (fun i c v hc hv => hvlc.val i c v hc (by simpa using hv)) (by simpa using h1)) h
      have := run_build w t _ cells hb
      simp only [execOp, ho, Sem.run_bind, this, Result.andThen_ok, Sem.run_pure]
    · cases hpl
  · exact h.elim

/-- Elements that show abstract ones, each of S cells. -/
structure VE (σ : Sig) (w : World) (S : Nat) (es : List AV) (vs : List Value) : Prop where
  len : es.length = vs.length
  size : ∀ v ∈ vs, v.cells.size = S
  val : ∀ (j : Nat) (e : AV) (v : Value), es[j]? = some e → vs[j]? = some v → Val σ w e v
  good : ∀ e : AV, e ∈ es → e.good = true

theorem VE.nil (S : Nat) : VE σ w S [] [] := ⟨rfl, by simp, by simp, by simp⟩

theorem VE.append {S : Nat} {es fs : List AV} {vs us : List Value} (h : VE σ w S es vs) (k : VE σ w S fs us) : VE σ w S (es ++ fs) (vs ++ us) := by
  have hl := h.len
  refine ⟨by simp [h.len, k.len], fun v hv => (List.mem_append.1 hv).elim (h.size v) (k.size v), fun j e v he hv => ?_, fun e he => (List.mem_append.1 he).elim (h.good e) (k.good e)⟩
  by_cases hj : j < es.length
  · rw [List.getElem?_append_left hj] at he
    rw [List.getElem?_append_left (by omega)] at hv
    exact h.val j e v he hv
  · rw [List.getElem?_append_right (by omega)] at he hv
    rw [← hl] at hv
    exact k.val _ e v he hv

theorem VE.set {S : Nat} {es : List AV} {vs : List Value} (h : VE σ w S es vs) {i : Nat} {x : AV} {v : Value} (hx : Val σ w x v) (hg : x.good = true) (hs : v.cells.size = S) : VE σ w S (es.set i x) (vs.set i v) := by
  refine ⟨by simp [h.len], fun u hu => ?_, fun j e u he hu => ?_, fun e he => ?_⟩
  · rcases List.mem_or_eq_of_mem_set hu with hu | rfl
    · exact h.size u hu
    · exact hs
  · rw [List.getElem?_set] at he hu
    by_cases hij : i = j
    · subst hij
      simp only [if_true] at he hu
      split at he
      · rw [if_pos (by have := h.len; omega)] at hu
        cases he; cases hu; exact hx
      · cases he
    · rw [if_neg hij] at he hu
      exact h.val j e u he hu
  · rcases List.mem_or_eq_of_mem_set he with he | rfl
    · exact h.good e he
    · exact hg

theorem VE.ext {σ' : Sig} {w' : World} {S : Nat} {es : List AV} {vs : List Value} (h : VE σ w S es vs) (x : Ext σ w σ' w') : VE σ' w' S es vs :=
  ⟨h.len, h.size, fun j e v he hv => (h.val j e v he hv).ext x, h.good⟩

theorem flat_set {S : Nat} : ∀ (vs : List Value) (i : Nat) (v : Value), (∀ v ∈ vs, v.cells.size = S) → v.cells.size = S → i < vs.length →
    flat (vs.set i v) = (flat vs).take (i * S) ++ v.cells.toList ++ (flat vs).drop (i * S + v.cells.toList.length)
  | [], i, v, _, _, h => by simp at h
  | u :: vs, 0, v, h, hv, _ => by
    have hu := h u List.mem_cons_self
    simp only [List.set_cons_zero, flat_cons, Nat.zero_mul, List.take_zero, List.nil_append, Nat.zero_add]
    rw [List.drop_append_of_le_length (by simp; omega)]
    have : List.drop v.cells.toList.length u.cells.toList = [] := List.drop_eq_nil_of_le (by simp; omega)
    rw [this, List.nil_append]
  | u :: vs, i + 1, v, h, hv, hi => by
    have hu := h u List.mem_cons_self
    have ih := flat_set vs i v (fun x hx => h x (List.mem_cons_of_mem _ hx)) hv (by simpa using hi)
    simp only [List.set_cons_succ, flat_cons, ih]
    have e1 : (i + 1) * S = u.cells.toList.length + i * S := by simp [hu, Nat.add_mul]; omega
    have t1 : List.take ((i + 1) * S) (u.cells.toList ++ flat vs) = u.cells.toList ++ List.take (i * S) (flat vs) := by
      rw [e1, List.take_length_add_append]
    have t2 : List.drop ((i + 1) * S + v.cells.toList.length) (u.cells.toList ++ flat vs) = List.drop (i * S + v.cells.toList.length) (flat vs) := by
      rw [e1, Nat.add_assoc, List.drop_length_add_append]
    rw [t1, t2]
    simp only [List.append_assoc]

theorem flat_replicate (n S : Nat) (zv : Value) (hS : zv.cells.size = S) (h0 : 0 < S) : ((Array.range (n * S)).map fun i => zv.cells[i % zv.cells.size]!).toList = flat (List.replicate n zv) := by
  have hall : ∀ v ∈ List.replicate n zv, v.cells.size = S := fun v hv => by rw [(List.mem_replicate.1 hv).2]; exact hS
  have hlen := flat_length _ hall
  apply List.ext_getElem?
  intro k
  by_cases hk : k < n * S
  · have hj : k / S < n := (Nat.div_lt_iff_lt_mul h0).2 hk
    have hm := Nat.mod_lt k h0
    have := flat_get _ hall (k / S) (k % S) zv (by simp [hj]) hm
    rw [Nat.mul_comm, Nat.div_add_mod] at this
    rw [this]
    have hm' : k % S < zv.cells.size := by omega
    simp only [Array.toList_map, List.getElem?_map, Array.toList_range, List.getElem?_range hk, Option.map_some, hS]
    rw [getElem!_pos zv.cells _ hm', Array.getElem?_eq_getElem hm']
  · rw [List.getElem?_eq_none (by simp; omega), List.getElem?_eq_none (by simp at hlen; omega)]

theorem fillE_sound {S : Nat} (hE : EnvRel σ w n e a.tmps) : ∀ (parts : List (Nat × Operand)) (es es' : List AV) (vs : List Value) (zC : Array Value), fillE e S (parts.map fun p => (p.1, cOpd p.2)) es = some es' → VE σ w S es vs → zC.toList = flat vs →
    ∃ cells vs', Instr.fill (fun i => some (i * S, S)) zC (parts.map fun p => (p.1, a.eval p.2)) = some cells ∧ VE σ w S es' vs' ∧ cells.toList = flat vs' ∧ vs'.length = vs.length
  | [], es, es', vs, zC, hf, hv, hz => by
    simp [fillE] at hf
    subst hf
    exact ⟨zC, vs, by simp [Instr.fill], hv, hz, rfl⟩
  | (i, x) :: parts, es, es', vs, zC, hf, hv, hz => by
    simp only [List.map_cons, fillE] at hf
    split at hf
    · rename_i hcond
      obtain ⟨hS, hg, hi⟩ := hcond
      have hx := (hE.ev x).sh'
      have hxs : (a.eval x).cells.size = S := by
        have := csize_cells hx (good_sh hg)
        rw [csize_sh] at this
        omega
      have hi' : i < vs.length := by have := hv.len; omega
      have hzl : zC.size = vs.length * S := by have := congrArg List.length hz; rw [flat_length vs hv.size] at this; simpa using this
      have hle : i * S + S ≤ zC.size := by
        rw [hzl]
        calc i * S + S = (i + 1) * S := by rw [Nat.add_mul, Nat.one_mul]
          _ ≤ vs.length * S := Nat.mul_le_mul_right _ hi'
      have hstep := fold_cells (off := i * S) (a.eval x).cells zC (by omega)
      obtain ⟨cells, vs', hfill, hve, hfl, hln⟩ := fillE_sound hE parts _ es' (vs.set i (a.eval x)) ((a.eval x).cells.zipIdx.foldl (fun (cs : Array Value) (y : Value × Nat) => cs.setIfInBounds (i * S + y.2) y.1) zC) hf (hv.set hx (good_sh hg) hxs) (by
        rw [hstep, hz, flat_set vs i _ hv.size hxs hi'])
      refine ⟨cells, vs', ?_, hve, hfl, by simpa using hln⟩
      simp only [List.map_cons]
      rw [fill_step rfl hxs hle]
      exact hfill
    · cases hf

theorem VE.replicate {S : Nat} {x : AV} {v : Value} (hx : Val σ w x v) (hg : x.good = true) (hs : v.cells.size = S) (k : Nat) : VE σ w S (List.replicate k x) (List.replicate k v) := by
  refine ⟨by simp, fun u hu => by rw [(List.mem_replicate.1 hu).2]; exact hs, fun j e u he hu => ?_, fun e he => by rw [(List.mem_replicate.1 he).2]; exact hg⟩
  rw [List.getElem?_replicate] at he hu
  split at he
  · rename_i hj
    rw [if_pos hj] at hu
    cases he; cases hu; exact hx
  · cases he

/-- A new row that is a slice with the right to append. -/
theorem newSlice (hR : R C σ st w) {w' : World} (hb : Below w.heap.size w w') {b : Nat} (hbs : w.heap.size ≤ b) {arr : Array Value} {T : TypeId} {fr : Nat × Nat} (hh : w'.heap[b]? = some (.cells arr T fr)) (hfr : FrOk fr arr.size)
    {S cap : Nat} {es : List AV} {vs : List Value} (hv : VE σ w S es vs) (hpre : arr.toList.take (flat vs).length = flat vs) (hcap : cap * S ≤ arr.size) (hvc : vs.length ≤ cap) (hm : vs.length ≤ maxLen) :
    ∃ i σ', st i = none ∧ Ext σ w σ' w' ∧ R C σ' (st.upd i .tok) w' ∧ Val σ' w' (.sl (.tip i S) es) (.slice (some ⟨b, 0, none⟩) vs.length cap) := by
  obtain ⟨i, σ', hs, hp, hvis, hx, hR'⟩ := hR.newTok hb hbs hh hfr (vs.length * S) (cap * S) hcap
  refine ⟨i, σ', hs, hx, hR', Val.of_row (S := S) hv.len hvc hm ?_ hv.size (fun k c hk => ?_) (hv.ext hx).val hv.good⟩
  · exact ⟨rfl, by simpa using hp⟩
  · have hlt : k < vs.length * S := by
      have := (List.getElem?_eq_some_iff.1 hk).1
      rwa [flat_length vs hv.size] at this
    refine ⟨by simpa using hvis k hlt, ?_⟩
    rw [Nat.zero_add, cell_of_row w' b k arr T fr hh]
    rw [← hpre, List.getElem?_take] at hk
    split at hk
    · simpa using hk
    · cases hk

theorem s_mk {t u : TypeId} {len : Nat} {parts : Array (Nat × Operand)} {z : AV} {S : Nat} (ho : o.op = .buildSlice t len parts) (ht : elemT C.P t = some u) (hz : zeroAV C.P u = some z) (hS : sizeT C.P u = some S) (hzS : z.csize = S) (hS0 : 0 < S) (hlen : len * S ≤ 16777216)
    (h : opW C (.mk z len (parts.toList.map fun p => (p.1, cOpd p.2))) e st K) (hR : R C σ st w) (hE : EnvRel σ w n e a.tmps) (hN : Nx C σ w K N a o.dst) : o.wp C.P a w N Q := by
  simp only [opW] at h
  split at h
  · rename_i es hes
    obtain ⟨zv, hrun, hg, hv⟩ := zeroAV_spec hz w
    have hzv : zv.cells.size = S := by have := csize_cells (hv σ w) hg; omega
    rw [hzS] at hes
    obtain ⟨cells, vs', hfill, hve, hfl, hln⟩ := fillE_sound (n := n) hE parts.toList (List.replicate len z.sh) es (List.replicate len zv) _ hes (VE.replicate (hv σ w).sh' (good_sh hg) hzv len) (flat_replicate len S zv hzv hS0)
    have hcs : cells.size = len * S := by
      have := congrArg List.length hfl
      rw [flat_length vs' hve.size, hln] at this
      simpa using this
    have hvl : vs'.length = len := by simpa using hln
    have hlen' : len ≤ 16777216 := Nat.le_trans (Nat.le_mul_of_pos_right len hS0) hlen
    obtain ⟨i, σ', hs, hx, hR', hval⟩ := newSlice (w' := w.alloc (.cells cells u)) hR ((Below.refl _ w).alloc (Nat.le_refl _) _) (b := w.heap.size) (Nat.le_refl _) (heap_alloc_new w _) (.inl rfl) (cap := len) hve (by rw [← hfl, List.take_length]) (by omega) (by omega) (by simp only [maxLen]; omega)
    rw [hvl] at hval
    refine wp_new hN ?_ hx hR' hval (by rw [← hzS] at *; exact h.2 i hs)
    have h1 : ¬ (16777216 < len * S) := by omega
    by_cases h0 : len * S = 0
    · have hl0 : len = 0 := by rcases Nat.mul_eq_zero.1 h0 with h | h <;> omega
      subst hl0
      simp only [Nat.zero_mul, Array.range_zero', List.map_toArray, List.map_nil] at hfill
      simp [execOp, ho, Instr.buildSlice, run_underlying (elemT_spec ht), sizeT_spec hS w, Array.range_zero']
      simp [hfill, newRow]
    · simp [execOp, ho, Instr.buildSlice, run_underlying (elemT_spec ht), sizeT_spec hS w, h0, h1, hrun]
      simp [hfill, newRow]
  · exact h.elim
end
end Go.AW
