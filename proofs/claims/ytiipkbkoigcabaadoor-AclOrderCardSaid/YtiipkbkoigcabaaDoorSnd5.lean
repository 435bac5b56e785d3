/- append, copy and calls do what the small language says: a library of this claim. No condition. -/
import Derived.Test.YtiipkbkoigcabaaDoorSnd4
namespace Go.AW
open Go Go.RowKit
set_option linter.unusedVariables false
set_option linter.unusedSimpArgs false

section
variable {C : Ctx} {σ : Sig} {st : St} {w : World} {n : Nat} {e : Env} {a : Act} {o : Oper} {K : AV → St → Prop} {N : Act → World → Prop} {Q : Exit → Act → World → Prop}

theorem VL.ones {cs : List AV} {vs : List Value} (h : VL σ w cs vs) (h1 : ∀ c : AV, c ∈ cs → c.one = true) : ∀ v ∈ vs, v.oneCell' = true := by
  intro v hv
  obtain ⟨j, hj⟩ := List.mem_iff_getElem?.1 hv
  have hjl : j < cs.length := by
    have := (List.getElem?_eq_some_iff.1 hj).1
    rw [h.len]; exact this
  have hcj : cs[j]? = some cs[j] := by simp [hjl]
  exact oneCell_of (h.val j _ v hcj hj) (h1 _ (mem_of_get hcj))

theorem VE.shs {S : Nat} {es : List AV} {vs : List Value} (h : VE σ w S es vs) : VE σ w S (es.map AV.sh) vs := by
  refine ⟨by simpa using h.len, h.size, fun j e v he hv => ?_, fun e he => ?_⟩
  · simp only [List.getElem?_map] at he
    cases hj : es[j]? with
    | none => simp [hj] at he
    | some x => simp [hj] at he; subst he; exact (h.val j x v hj hv).sh'
  · obtain ⟨x, hx, rfl⟩ := List.mem_map.1 he
    exact good_sh (h.good x hx)

theorem s_copy {t u v' : TypeId} {x y : Operand} {S : Nat} (ho : o.op = .call { callee := .builtin .copy, args := #[x, y], argTypes := #[t, v'] }) (ht : elemT C.P t = some u) (hS : sizeT C.P u = some S)
    (h : opW C (.copy S (cOpd x) (cOpd y)) e st K) (hR : R C σ st w) (hE : EnvRel σ w n e a.tmps) (hN : Nx C σ w K N a o.dst) : o.wp C.P a w N Q := by
  simp only [opW] at h
  have hx' := hE.ev x
  split at h
  · rename_i id off n0 cap hx
    rw [hx] at hx'
    split at h
    · rename_i cs hs
      split at h
      · rename_i tk fs hy
        obtain ⟨hoff, hcs, h⟩ := h
        have hy' := hE.ev y
        rw [hy] at hy'
        obtain ⟨vs, hve, hlen, hfirst⟩ := first_sl (C := C) hy' hcs
        generalize hu : a.eval x = ux at hx'
        cases hx' with
        | ref _ _ _ _ b hp =>
          obtain ⟨b', hp', hob⟩ := hR.obj id cs hs
          rw [hp] at hp'
          cases hp'
          obtain ⟨arr, T, fr, hh, hfr, hasz, hvv, hone⟩ := hob.row
          let m := min fs.length n0
          have hvk := hve.take m
          have htake : (fs.take n0) = fs.take m := by
            apply List.ext_getElem?
            intro i
            rw [List.getElem?_take, List.getElem?_take]
            by_cases hi : i < fs.length
            · simp only [m]
              by_cases h2 : i < n0
              · rw [if_pos h2, if_pos (by omega)]
              · rw [if_neg h2, if_neg (by omega)]
            · rw [List.getElem?_eq_none (by omega)]; simp
          have hvl := hvk.vl
          rw [← htake] at hvl
          have hml : ((fs.take n0).map AV.cells).flatten.length = m * S := by
            have hlm : (vs.take m).length = m := by have := hve.len; simp [m]; omega
            rw [hvl.len, flat_length _ hvk.size, hlm]
          have hone' := hvl.ones (by rw [htake]; exact hvk.ones)
          have hle : m * S ≤ n0 * S := Nat.mul_le_mul_right _ (by simp only [m]; omega)
          obtain ⟨w', arr', hrun, hw, hh', hl'⟩ := run_storeCells_row (P := C.P) (off := off) (flat (vs.take m)) 0 arr w hh hfr (by rw [← hvl.len, hml]; omega) hone'
          simp only [Nat.add_zero] at hl'
          have hvl0 : VL σ w cs arr.toList := ⟨by simp [hasz], fun i c v hc hv => hvv i c v hc (by simpa using hv)⟩
          have hvl2 := hvl0.splice hvl (off := off) (by rw [hml]; omega)
          rw [← hl'] at hvl2
          have hasz' : arr'.size = arr.size := by
            have := congrArg List.length hl'
            simp only [Array.length_toList, List.length_append, List.length_take, List.length_drop, ← hvl.len, hml] at this
            omega
          obtain ⟨hR', hx'⟩ := hR.setObj (cs' := splice cs off ((fs.take n0).map AV.cells).flatten) hs hp hw hh' (by rw [hasz']; exact hfr) (by have := hvl2.len; simpa using this.symm)
            (fun i c v hc hv => hvl2.val i c v hc (by simpa using hv)) (fun c hc => by
              simp only [splice, List.append_assoc, List.mem_append] at hc
              rcases hc with hc | hc | hc
              · exact hone c (List.mem_of_mem_take hc)
              · rw [htake] at hc; exact hvk.ones c hc
              · exact hone c (List.mem_of_mem_drop hc))
          refine wp_value (w' := w') ?_ (hN σ _ w' _ _ hx' hR' (.int .i64 (min fs.length n0 : Nat)) h)
          have hfm := hfirst m (by simp only [m]; omega) w rfl
          have hl2 : (Builtin.lenOf (a.eval y)).run C.P w = .ok fs.length w := by rw [hlen]; rfl
          have hmm : Nat.min fs.length n0 = m := rfl
          simp [execOp, ho, resolve, invoke, builtin, Builtin.copy_, run_underlying (elemT_spec ht), hu, hl2, sizeT_spec hS w, hmm, hfm, hrun, goInt]
      · exact h.elim
    · exact h.elim
  · exact h.elim

/-- What append needs of what is appended. -/
structure Src (C : Ctx) (w : World) (S : Nat) (x : Value) (m : Nat) (news : List Value) : Prop where
  len : Builtin.lenOf x = pure m
  first : ∀ w' : World, w'.heap = w.heap → (Builtin.firstCells S m x).run C.P w' = .ok news.toArray w'

theorem run_app_room {t u' u ty : TypeId} {i : TypeInfo} (ht : C.P.underlying t = some (.slice u)) (hd : (∃ e', C.P.underlying u' = some (.slice e')) ∨ C.P.underlying u' = some .string) (hi : C.P.info? u = some i)
    {base : Option Addr} {sLen sCap m : Nat} {x : Value} {news : List Value} (hsrc : Src C w i.size x m news) (hroom : sLen + m ≤ sCap) :
    (Builtin.append_ #[t, u'] ty #[.slice base sLen sCap, x]).run C.P w = (match base with
      | some a => ((storeCells (a.add (sLen * i.size)) news).run C.P w).andThen fun _ w' => .ok (.slice base (sLen + m) sCap) w'
      | none => .ok (.slice base (sLen + m) sCap) w) := by
  have hf := hsrc.first w rfl
  have hl : (Builtin.lenOf x).run C.P w = .ok m w := by rw [hsrc.len]; rfl
  rcases hd with ⟨e', hd⟩ | hd
  · cases base <;> simp [Builtin.append_, run_underlying ht, run_underlying hd, sizeOf, typeInfo, hi, hl, hroom, hf]
  · cases base <;> simp [Builtin.append_, run_underlying ht, run_underlying hd, sizeOf, typeInfo, hi, hl, hroom, hf]

theorem run_app_grow {t u' u ty : TypeId} {i : TypeInfo} {zv : Value} (ht : C.P.underlying t = some (.slice u)) (hd : (∃ e', C.P.underlying u' = some (.slice e')) ∨ C.P.underlying u' = some .string) (hi : C.P.info? u = some i) (hz : i.zero = some zv)
    {base : Option Addr} {sLen sCap m : Nat} {x : Value} {olds news : List Value} (hsrc : Src C w i.size x m news) (hold : ∀ w' : World, w'.heap = w.heap → (Builtin.firstCells i.size sLen (.slice base sLen sCap)).run C.P w' = .ok olds.toArray w')
    (hgrow : sCap < sLen + m) (h63 : sLen + m ≤ 9223372036854775807) (hfit : Builtin.nextslicecap (sLen + m) sCap * i.bytes ≤ 281474976710656) :
    (Builtin.append_ #[t, u'] ty #[.slice base sLen sCap, x]).run C.P w = .ok (.slice (some ⟨w.heap.size, 0, none⟩) (sLen + m) (grownCap w (sLen + m) sCap u))
      (w.drew.alloc (.cells (olds.toArray ++ news.toArray ++ Builtin.zeroCells zv.cells (grownCap w (sLen + m) sCap u - (sLen + m))) u)) := by
  have hf := hsrc.first w.drew rfl
  have ho := hold w.drew rfl
  have hl : (Builtin.lenOf x).run C.P w = .ok m w := by rw [hsrc.len]; rfl
  have g1 : ¬ (sLen + m ≤ sCap) := by omega
  have g2 : ¬ (9223372036854775807 < ((sLen : Int) + (m : Int))) := by omega
  have g3 : ¬ (281474976710656 < Builtin.nextslicecap (sLen + m) sCap * i.bytes) := by omega
  rcases hd with ⟨e', hd⟩ | hd
  · simp [Builtin.append_, run_underlying ht, run_underlying hd, sizeOf, typeInfo, zeroValue, hi, hz, hl, g1, g2, g3, Question.forced, hf, ho, newRow, grownCap]
    congr 2
    apply Array.ext'
    simp [List.append_assoc]
  · simp [Builtin.append_, run_underlying ht, run_underlying hd, sizeOf, typeInfo, zeroValue, hi, hz, hl, g1, g2, g3, Question.forced, hf, ho, newRow, grownCap]
    congr 2
    apply Array.ext'
    simp [List.append_assoc]

theorem LeBut.refl (tk : Tk) (st : St) : LeBut tk st st := fun _ _ h _ => h
theorem NewTk.refl (tk : Tk) (st : St) : NewTk tk tk st := fun _ h => .inl h

/-- append, whatever is appended. -/
theorem app_core {t u' u ty : TypeId} {i : TypeInfo} {zv : Value} (ht : C.P.underlying t = some (.slice u)) (hd : (∃ e', C.P.underlying u' = some (.slice e')) ∨ C.P.underlying u' = some .string) (hi : C.P.info? u = some i) (hz : i.zero = some zv) (hS0 : 0 < i.size) (hzs : zv.cells.size = i.size)
    (hR : R C σ st w) {tk : Tk} {es fs : List AV} {us : List Value} {v x : Value} (hv : Val σ w (.sl tk es) v) (hap : Appd i.size tk st) (hcs : (es.all fun a => a.csize == i.size) = true)
    (hsrc : Src C w i.size x us.length (flat us)) (hus : VE σ w i.size fs us) (hb1 : (es.length + us.length) * i.bytes ≤ 140737488355328) (hb2 : es.length + us.length ≤ maxLen) :
    ∃ v' w' σ' tk' st', (Builtin.append_ #[t, u'] ty #[v, x]).run C.P w = .ok v' w' ∧ Ext σ w σ' w' ∧ R C σ' st' w' ∧ Val σ' w' (.sl tk' (es ++ fs)) v' ∧ Appd i.size tk' st' ∧ LeBut tk st st' ∧ NewTk tk tk' st := by
  have hm : es.length + us.length ≤ 9223372036854775807 := by simpa [maxLen] using hb2
  -- nothing is appended
  by_cases hu0 : us = []
  · subst hu0
    have hf0 : fs = [] := by have := hus.len; cases fs with | nil => rfl | cons => simp at this
    subst hf0
    obtain ⟨p, cap, rfl, hc⟩ := val_slice hv rfl
    have hrun := run_app_room (ty := ty) (base := p) (sLen := es.length) (sCap := cap) ht hd hi hsrc (by simpa using hc)
    refine ⟨.slice p es.length cap, w, σ, tk, st, ?_, Ext.refl σ w, hR, by simpa using hv, hap, LeBut.refl _ _, NewTk.refl _ _⟩
    rw [hrun]
    cases p <;> simp [flat, storeCells]
  have hu1 : 0 < us.length := by cases us with | nil => exact absurd rfl hu0 | cons => simp
  -- a new row
  have grow : ∀ (base : Option Addr) (sCap : Nat) (vs : List Value), v = .slice base vs.length sCap → VE σ w i.size es vs → (∀ w' : World, w'.heap = w.heap → (Builtin.firstCells i.size vs.length (.slice base vs.length sCap)).run C.P w' = .ok (flat vs).toArray w') → sCap < vs.length + us.length →
      ∃ v' w' σ' tk' st', (Builtin.append_ #[t, u'] ty #[v, x]).run C.P w = .ok v' w' ∧ Ext σ w σ' w' ∧ R C σ' st' w' ∧ Val σ' w' (.sl tk' (es ++ fs)) v' ∧ Appd i.size tk' st' ∧ LeBut tk st st' ∧ NewTk tk tk' st := by
    intro base sCap vs hvv hve hold hlt
    subst hvv
    have hl := hve.len
    have hfit := growslice_fits (bytes := i.bytes) hlt (by rw [← hl]; exact hb1)
    have hrun := run_app_grow (ty := ty) ht hd hi hz hsrc hold hlt (by omega) hfit
    have hve2 := hve.append hus
    have hge := grownCap_ge w (vs.length + us.length) sCap u
    have hcm := grownCap_le_maxLen w (vs.length + us.length) sCap u (by rw [← hl]; exact hb2)
    obtain ⟨j, σ', hs, hx, hR', hval⟩ := newSlice (w' := w.drew.alloc (.cells ((flat vs).toArray ++ (flat us).toArray ++ Builtin.zeroCells zv.cells (grownCap w (vs.length + us.length) sCap u - (vs.length + us.length))) u)) hR
      ((Below.refl _ w).drew.alloc (Nat.le_refl _) _) (b := w.heap.size) (Nat.le_refl _) (heap_alloc_new w.drew _) (.inl rfl) (cap := grownCap w (vs.length + us.length) sCap u) hve2
      (by simp only [Array.toList_append, flat_append, List.append_assoc]; rw [← List.append_assoc, ← flat_append, List.take_left'] ; rfl) (by
        simp only [Array.size_append, List.size_toArray, size_zeroCells, hzs, flat_length _ hve.size, flat_length _ hus.size, ← Nat.add_mul]
        apply Nat.mul_le_mul_right
        omega) (by simpa using hge) (by simp; omega)
    rw [List.length_append] at hval
    exact ⟨_, _, σ', .tip j i.size, st.upd j .tok, hrun, hx, hR', hval, ⟨rfl, St.upd_same _ _ _⟩, fun k r hk _ => St.le_upd st j .tok hs k r hk, fun k hk => .inr (by simp only [Tk.is] at hk; subst hk; exact hs)⟩
  -- the old row's kind
  cases hv with
  | slnil => exact grow none 0 [] rfl (VE.nil _) (fun w' _ => by simp [Builtin.firstCells, flat]) (by simpa using hu1)
  | slzero p => exact grow p 0 [] rfl (VE.nil _) (fun w' _ => by cases p <;> simp [Builtin.firstCells, flat, loadCells, loadCellsFrom]) (by simpa using hu1)
  | slempty _ _ => exact hap.elim
  | sl _ _ vs b o' cap sz hl hcap hmx htk hzz hc hvv hgd =>
    cases tk with
    | nil => exact htk.elim
    | zero => exact htk.elim
    | sh => exact hap.elim
    | tip t0 s =>
      obtain ⟨hss, hpl⟩ := htk
      obtain ⟨hsi, hst0⟩ := hap
      have hsz : sz = i.size := by omega
      subst hsz
      have hve : VE σ w i.size es vs := ⟨hl, fun v hv => by obtain ⟨j, hj⟩ := List.mem_iff_getElem?.1 hv; exact hzz j v hj, hvv, hgd⟩
      have hcell : ∀ k c, (flat vs)[k]? = some c → σ.vis b (o' + k) ∧ w.cell? ⟨b, o' + k, none⟩ = some c := by
        intro k c hk
        obtain ⟨v, h1, h2⟩ := get_flat hS0 vs hve.size k c hk
        have := hc _ _ v c h1 h2
        rw [Nat.add_assoc, Nat.mul_comm, Nat.div_add_mod] at this
        exact this
      have hflv := flat_length vs hve.size
      have hflu := flat_length us hus.size
      by_cases hroom : vs.length + us.length ≤ cap
      · obtain ⟨b', e', top', hp', htok⟩ := hR.tok t0 hst0
        rw [hpl] at hp'
        cases hp'
        obtain ⟨arr, T, fr, hh, hfr, htop⟩ := htok.row
        have hmul : (vs.length + us.length) * i.size ≤ cap * i.size := Nat.mul_le_mul_right _ hroom
        rw [Nat.add_mul] at hmul
        obtain ⟨w', arr', hst, hw, hh', hl'⟩ := run_storeCells_row (P := C.P) (off := o' + vs.length * i.size) (flat us) 0 arr w hh hfr (by rw [hflu]; omega) (hus.vl.ones hus.ones)
        simp only [Nat.add_zero] at hl'
        have hasz' : arr'.size = arr.size := by
          have := congrArg List.length hl'
          simp only [Array.length_toList, List.length_append, List.length_take, List.length_drop, hflu] at this
          omega
        have hal : arr.toList.length = arr.size := by simp
        have hcell' : ∀ k, w'.cell? ⟨b, k, none⟩ = arr'[k]? := fun k => cell_of_row w' b k arr' T fr hh'
        have hcell0 : ∀ k, w.cell? ⟨b, k, none⟩ = arr[k]? := fun k => cell_of_row w b k arr T fr hh
        have hget : ∀ k, arr'[k]? = (arr.toList.take (o' + vs.length * i.size) ++ flat us ++ arr.toList.drop (o' + vs.length * i.size + (flat us).length))[k]? := fun k => by rw [← hl', Array.getElem?_toList]
        obtain ⟨j, σ', hs, hpj, hvis, hx, hR'⟩ := hR.grow hst0 hpl hw hh' (by rw [hasz']; exact hfr) (fun k hk => by
          have hklt : k < (arr.toList.take (o' + vs.length * i.size)).length := by rw [List.length_take, hal]; omega
          rw [hcell', hcell0, hget, List.append_assoc, List.getElem?_append_left hklt, List.getElem?_take, if_pos hk]; simp) (o' + (vs.length + us.length) * i.size) (by rw [Nat.add_mul]; omega) (by rw [hasz']; exact htop)
        have hrun := run_app_room (ty := ty) (base := some ⟨b, o', none⟩) (sLen := vs.length) (sCap := cap) ht hd hi hsrc hroom
        simp only [add_none, hst, Result.andThen_ok] at hrun
        have hve2 := (hve.append hus).ext hx
        have hval : Val σ' w' (.sl (.tip j i.size) (es ++ fs)) (.slice (some ⟨b, o', none⟩) (vs ++ us).length cap) := by
          refine Val.of_row (S := i.size) hve2.len (by simpa using hroom) (by simp; omega) ⟨rfl, by simpa using hpj⟩ hve2.size (fun k c hk => ?_) hve2.val hve2.good
          rw [flat_append] at hk
          by_cases hkv : k < (flat vs).length
          · rw [List.getElem?_append_left hkv] at hk
            obtain ⟨h1, h2⟩ := hcell k c hk
            exact ⟨hx.vis _ _ h1, (hx.cell _ _ h1).trans h2⟩
          · rw [List.getElem?_append_right (by omega)] at hk
            have hklt := (List.getElem?_eq_some_iff.1 hk).1
            refine ⟨hvis (o' + k) (by rw [Nat.add_mul]; omega) (by omega), ?_⟩
            have hlt1 : (arr.toList.take (o' + vs.length * i.size)).length = o' + vs.length * i.size := by rw [List.length_take, hal]; omega
            rw [hcell', hget, List.append_assoc, List.getElem?_append_right (by rw [hlt1]; omega), List.getElem?_append_left (by rw [hlt1]; omega), hlt1]
            rw [← hk]
            congr 1
            omega
        rw [List.length_append] at hval
        refine ⟨_, w', σ', .tip j i.size, (st.del t0).upd j .tok, hrun, hx, hR', hval, ⟨rfl, St.upd_same _ _ _⟩, fun k r hk hnk => ?_, fun k hk => .inr (by simp only [Tk.is] at hk; subst hk; exact hs)⟩
        have hkj : k ≠ j := by rintro rfl; rw [hs] at hk; cases hk
        have hkt : k ≠ t0 := fun h => hnk (by simp only [Tk.is]; exact h.symm)
        rw [St.upd_ne _ _ _ hkj]
        simp [St.del, hkt, hk]
      · refine grow (some ⟨b, o', none⟩) cap vs rfl hve (fun w1 hw1 => ?_) (by omega)
        exact run_firstCells_some (P := C.P) w1 i.size vs.length ⟨b, o', none⟩ vs.length cap (flat vs) hflv (fun j v hj => by
          rw [add_none, World.cell?_of_block (w := w) (w' := w1) (by rw [hw1])]
          exact (hcell j v hj).2)

theorem s_app {t u' u : TypeId} {x y : Operand} {i : TypeInfo} {z : AV} (ho : o.op = .call { callee := .builtin .append, args := #[x, y], argTypes := #[t, u'] }) (ht : elemT C.P t = some u) (hd : (elemT C.P u').isSome = true ∨ isStrT C.P u' = true) (hi : C.P.info? u = some i) (hz : zeroAV C.P u = some z) (hzS : z.csize = i.size) (hS0 : 0 < i.size)
    (h : opW C (.app i.size i.bytes (cOpd x) (cOpd y)) e st K) (hR : R C σ st w) (hE : EnvRel σ w n e a.tmps) (hN : Nx C σ w K N a o.dst) : o.wp C.P a w N Q := by
  simp only [opW] at h
  obtain ⟨zv, hzrun, hzg, hzv⟩ := zeroAV_spec hz w
  have hzz : i.zero = some zv := by
    cases hiz : i.zero with
    | none => simp [zeroValue, typeInfo, hi, hiz] at hzrun
    | some v' => simp [zeroValue, typeInfo, hi, hiz] at hzrun; simp [hzrun]
  have hzs : zv.cells.size = i.size := by have := csize_cells (hzv σ w) hzg; omega
  have hd' : (∃ e', C.P.underlying u' = some (.slice e')) ∨ C.P.underlying u' = some .string := by
    rcases hd with hd | hd
    · obtain ⟨e', he⟩ := Option.isSome_iff_exists.1 hd
      exact .inl ⟨e', elemT_spec he⟩
    · exact .inr (isStrT_spec hd)
  have hx := hE.ev x
  have hy := hE.ev y
  split at h
  · rename_i tk es hex
    rw [hex] at hx
    obtain ⟨hap, hcs, h⟩ := h
    have go : ∀ (fs : List AV) (us : List Value), Src C w i.size (a.eval y) us.length (flat us) → VE σ w i.size fs us → ((es.length : Int) + us.length) * i.bytes ≤ 140737488355328 → (es.length : Int) + us.length ≤ maxLen →
        (∀ tk' st', Appd i.size tk' st' → LeBut tk st st' → NewTk tk tk' st → K (.sl tk' (es ++ fs)) st') → o.wp C.P a w N Q := by
      intro fs us hsrc hus hb1 hb2 hk
      have hb1' : (es.length + us.length) * i.bytes ≤ 140737488355328 := by
        have h3 : (((es.length + us.length) * i.bytes : Nat) : Int) ≤ 140737488355328 := by rw [Int.natCast_mul, Int.natCast_add]; exact hb1
        exact Int.ofNat_le.1 h3
      obtain ⟨v', w', σ', tk', st', hrun, hx', hR', hval, h1, h2, h3⟩ := app_core (ty := o.type) (elemT_spec ht) hd' hi hzz hS0 hzs hR hx hap hcs hsrc hus hb1' (by omega)
      refine wp_value (v := v') (w' := w') ?_ (hN σ' st' w' _ v' hx' hR' hval (hk tk' st' h1 h2 h3))
      simp [execOp, ho, resolve, invoke, builtin, hrun]
    split at h
    · rename_i tk2 fs hey
      rw [hey] at hy
      obtain ⟨hcs2, ⟨hb1, hb2⟩, hk⟩ := h
      obtain ⟨us, hve, hlen, hfirst⟩ := first_sl (C := C) hy hcs2
      have hl := hve.len
      refine go (fs.map AV.sh) us ⟨by rw [hlen, hl], fun w1 hw1 => ?_⟩ hve.shs (by rw [← hl]; exact hb1) (by rw [← hl]; exact hb2) hk
      have := hfirst fs.length (Nat.le_refl _) w1 hw1
      rw [hl] at this
      rw [this, List.take_length]
    · rename_i id off m cp hey
      rw [hey] at hy
      split at h
      · rename_i cs hs
        obtain ⟨⟨hS1, hoff⟩, ⟨hb1, hb2⟩, hk⟩ := h
        generalize hu : a.eval y = uy at hy
        cases hy with
        | ref _ _ _ _ b hp =>
          obtain ⟨b', hp', hob⟩ := hR.obj id cs hs
          rw [hp] at hp'
          cases hp'
          obtain ⟨arr, T, fr, hh, hfr, hasz, hvv, hone⟩ := hob.row
          have hlen : ((arr.toList.drop off).take m).length = m := by simp; omega
          have hcsm : ((cs.drop off).take m).length = m := by simp; omega
          have hve : VE σ w 1 ((cs.drop off).take m) ((arr.toList.drop off).take m) := by
            refine ⟨by rw [hlen, hcsm], fun v hv => ?_, fun j c v hc hv => ?_, fun c hc => ?_⟩
            · have hv1 := List.mem_of_mem_drop (List.mem_of_mem_take hv)
              obtain ⟨j, hj⟩ := List.mem_iff_getElem?.1 hv1
              have hjl : j < cs.length := by
                have := (List.getElem?_eq_some_iff.1 hj).1
                simp at this; omega
              have hcj : cs[j]? = some cs[j] := by simp [hjl]
              rw [cells_one (hvv j _ v hcj (by simpa using hj)) (hone _ (mem_of_get hcj))]
              rfl
            · rw [List.getElem?_take] at hc hv
              split at hc
              · rename_i hj
                rw [if_pos hj] at hv
                rw [List.getElem?_drop] at hc hv
                exact hvv _ c v hc (by simpa using hv)
              · cases hc
            · have := hone c (List.mem_of_mem_drop (List.mem_of_mem_take hc))
              cases c <;> simp_all [AV.one, AV.good]
          have hflat : flat ((arr.toList.drop off).take m) = (arr.toList.drop off).take m := by
            have : ∀ l : List Value, (∀ v ∈ l, v.cells = #[v]) → flat l = l := by
              intro l hl
              induction l with
              | nil => rfl
              | cons x l ih => rw [flat_cons, hl x List.mem_cons_self, ih (fun v hv => hl v (List.mem_cons_of_mem _ hv))]; rfl
            refine this _ fun v hv => ?_
            have hv1 := List.mem_of_mem_drop (List.mem_of_mem_take hv)
            obtain ⟨j, hj⟩ := List.mem_iff_getElem?.1 hv1
            have hjl : j < cs.length := by
              have := (List.getElem?_eq_some_iff.1 hj).1
              simp at this; omega
            have hcj : cs[j]? = some cs[j] := by simp [hjl]
            exact cells_one (hvv j _ v hcj (by simpa using hj)) (hone _ (mem_of_get hcj))
          rw [← hS1] at hve
          refine go _ _ ⟨?_, fun w1 hw1 => ?_⟩ hve.shs (by rw [hlen]; exact hb1) (by rw [hlen]; exact hb2) hk
          · rw [hu, hlen]; rfl
          · rw [hu, hlen, hS1, hflat]
            exact run_firstCells_some (P := C.P) w1 1 m ⟨b, off, none⟩ m cp _ (by rw [hlen]; omega) (fun j v hj => by
              rw [add_none, World.cell?_of_block (w := w) (w' := w1) (by rw [hw1]), cell_of_row w b _ arr T fr hh]
              rw [List.getElem?_take] at hj
              split at hj
              · rw [List.getElem?_drop] at hj; simpa using hj
              · cases hj)
      · exact h.elim
    · rename_i l hey
      obtain ⟨bs, hu, rfl⟩ := val_str hy hey
      obtain ⟨hS1, ⟨hb1, hb2⟩, hk⟩ := h
      have hve : VE σ w 1 (bytesAV bs.data.toList) (byteVals bs.data.toList) := VE.bytes _
      rw [← hS1] at hve
      have hll : (byteVals bs.data.toList).length = bs.size := by simp [byteVals]
      have e1 : bs.data.toList.length = bs.size := by simp
      refine go _ _ ⟨by rw [hu, hll]; rfl, fun w1 hw1 => ?_⟩ hve (by rw [hll, ← e1]; exact hb1) (by rw [hll, ← e1]; exact hb2) hk
      rw [hu, hll, flat_bytes]
      have hx1 : (Array.map (fun b : UInt8 => Value.int IntKind.u8 (b.toNat : Int)) bs.data).extract 0 bs.size = Array.map (fun b : UInt8 => Value.int IntKind.u8 (b.toNat : Int)) bs.data := by
        have hs : bs.size = (Array.map (fun b : UInt8 => Value.int IntKind.u8 (b.toNat : Int)) bs.data).size := by rw [Array.size_map]; rfl
        rw [hs, Array.extract_size]
      simp [Builtin.firstCells, byteVals, hx1]
      apply Array.ext'
      simp
    · exact h.elim
  · exact h.elim

theorem callFunc_pass {σ' : Sig} {w' : World} {av : AV} {v : Value} {st' : St} (hN : Nx C σ w K N a o.dst) (hx : Ext σ w σ' w') (hR : R C σ' st' w') (hv : Val σ' w' av v) (hk : K av st') : N (a.put o.dst v) w' := hN σ' st' w' av v hx hR hv hk

theorem s_call {c : Call} {f : Operand} (ho : o.op = .call c) (hc : c.callee = .value f) (h : opW C (.call (cOpd f) (c.args.toList.map cOpd)) e st K) (hR : R C σ st w) (hE : EnvRel σ w n e a.tmps) (hN : Nx C σ w K N a o.dst) : o.wp C.P a w N Q := by
  simp only [opW] at h
  have hf := hE.ev f
  split at h
  · rename_i g as bs hfe
    rw [hfe] at hf
    generalize hu : a.eval f = uf at hf
    cases hf with
    | fn _ _ _ us vs hl1 hl2 h1 h2 =>
      have hlen : (as ++ evs e (c.args.toList.map cOpd) ++ bs).length = (us ++ c.args.map a.eval ++ vs).size := by
        simp [evs, hl1, hl2]
      have hvals : ∀ (i : Nat) (x : AV) (v : Value), (as ++ evs e (c.args.toList.map cOpd) ++ bs)[i]? = some x → (us ++ c.args.map a.eval ++ vs)[i]? = some v → Val σ w x v := by
        have e1 : VL σ w as us.toList := ⟨by simpa using hl1, fun i c v hc hv => h1 i c v hc (by simpa using hv)⟩
        have e2 : VL σ w (evs e (c.args.toList.map cOpd)) (c.args.map a.eval).toList := ⟨by simp [evs], fun i x v hx hv => val_list (l := c.args.toList) hE i x v hx (by simpa using hv)⟩
        have e3 : VL σ w bs vs.toList := ⟨by simpa using hl2, fun i c v hc hv => h2 i c v hc (by simpa using hv)⟩
        have app : ∀ {x y : List AV} {l m : List Value}, VL σ w x l → VL σ w y m → VL σ w (x ++ y) (l ++ m) := by
          intro x y l m hx hy
          have hxl := hx.len
          refine ⟨by simp [hx.len, hy.len], fun i c v hc hv => ?_⟩
          by_cases hi : i < x.length
          · rw [List.getElem?_append_left hi] at hc
            rw [List.getElem?_append_left (by omega)] at hv
            exact hx.val i c v hc hv
          · rw [List.getElem?_append_right (by omega)] at hc hv
            rw [← hxl] at hv
            exact hy.val _ c v hc hv
        have := app (app e1 e2) e3
        intro i x v hx hv
        refine this.val i x v hx ?_
        rw [← Array.getElem?_toList, Array.toList_append, Array.toList_append] at hv
        exact hv
      have hres : (execOp a.eval o).run C.P w = (callFunc g (us ++ c.args.map a.eval ++ vs)).run C.P w := by
        simp [execOp, ho, resolve, hc, hu, Deferred.ofValue, invoke]
      rcases h σ w _ hR hlen hvals with ⟨w1, hrun, hw1, hcalls⟩ | ⟨σ', r, v, st', w', hrun, hx, hR', hv, hk⟩
      · subst hw1
        unfold Oper.wp
        rw [hres, hrun]
        simp only [Oper.upon]
        refine hcalls.mono fun e' w' hh => ?_
        obtain ⟨σ', r, v, st', rfl, hx, hR', hv, hk⟩ := hh
        exact hN σ' st' w' r v hx hR' hv hk
      · exact wp_value (by rw [hres, hrun]) (hN σ' st' w' r v hx hR' hv hk)
  · exact h.elim

/-- Every operation of the small language does in the model what it says. -/
theorem opW_sound (h : opW C (cOp C.P o.op) e st K) (hR : R C σ st w) (hE : EnvRel σ w n e a.tmps) (hN : Nx C σ w K N a o.dst) : o.wp C.P a w N Q := by
  generalize hop : o.op = op at h
  cases op <;> simp only [cOp] at h
  case move x => exact s_mv (.inl hop) h hR hE hN
  case assign x => exact s_mv (.inr hop) h hR hE hN
  case pick c x y => exact s_pick hop h hR hE hN
  case alloc t =>
    split at h
    · rename_i z hz; exact s_alloc hop hz h hR hE hN
    · exact h.elim
  case box t x =>
    split at h
    · exact s_box hop h hR hE hN
    · exact h.elim
  case build t parts =>
    split at h
    · rename_i z pl hz hpl
      split at h
      · rename_i l hl; exact s_build hop hz hpl hl h hR hE hN
      · exact h.elim
    · exact h.elim
  case buildSlice t len parts =>
    split at h
    · rename_i u ht
      split at h
      · rename_i z S hz hS
        split at h
        · rename_i hcond
          simp only [Bool.and_eq_true, decide_eq_true_eq] at hcond
          exact s_mk hop ht hz hS hcond.1.1 hcond.1.2 hcond.2 h hR hE hN
        · exact h.elim
      · exact h.elim
    · exact h.elim
  case load t x =>
    split at h
    · rename_i g S hg hS; exact s_load hop hg hS h hR hE hN
    · exact h.elim
  case store t x y =>
    split at h
    · rename_i S hS; exact s_store hop hS h hR hE hN
    · exact h.elim
  case nilCheck x => exact s_nilck hop h hR hE hN
  case binOp op t x y u =>
    cases op <;> simp only [cBin] at h
    case add => exact s_arith hop h hR hE hN
    case sub => exact s_arith hop h hR hE hN
    case mul => exact s_arith hop h hR hE hN
    case quo => exact s_arith hop h hR hE hN
    case rem => exact s_arith hop h hR hE hN
    case and => exact s_arith hop h hR hE hN
    case or => exact s_arith hop h hR hE hN
    case xor => exact s_arith hop h hR hE hN
    case andNot => exact s_arith hop h hR hE hN
    case shl => exact s_shift (.inl rfl) hop h hR hE hN
    case shr => exact s_shift (.inr rfl) hop h hR hE hN
    case lss => exact s_cmp hop h hR hE hN
    case leq => exact s_cmp hop h hR hE hN
    case gtr => exact s_cmp hop h hR hE hN
    case geq => exact s_cmp hop h hR hE hN
    case eql =>
      split at h
      · exact h.elim
      · split at h
        · rename_i h1; exact s_cmpB (neg := false) rfl hop h1 h hR hE hN
        · split at h
          · exact s_cmp hop h hR hE hN
          · exact s_eqv (neg := false) rfl hop h hR hE hN
    case neq =>
      split at h
      · exact h.elim
      · split at h
        · rename_i h1; exact s_cmpB (neg := true) rfl hop h1 h hR hE hN
        · split at h
          · exact s_cmp hop h hR hE hN
          · exact s_eqv (neg := true) rfl hop h hR hE hN
  case unOp op t x => exact s_un hop h hR hE hN
  case convert src dst x =>
    split at h
    · rename_i d k hs hd; exact s_cvI hop hs hd h hR hE hN
    · rename_i hs hd; exact s_cvS hop hs hd h hR hE hN
    · rename_i u hs hd
      split at h
      · rename_i hu; exact s_cvSB hop hs hd hu h hR hE hN
      · exact h.elim
    · rename_i u hs hd
      split at h
      · rename_i hu; exact s_cvBS hop hs hd hu h hR hE hN
      · exact h.elim
    · exact h.elim
  case makeInterface t x =>
    split at h
    · exact h.elim
    · exact h.elim
    · rename_i h1 h2
      cases hu : C.P.underlying t with
      | none => exact absurd hu h2
      | some d => exact s_mkif hop hu (fun ms he => h1 ms (by rw [hu, he])) h hR hE hN
  case makeFunc f x y =>
    cases f <;> simp only [cOp] at h
    case func f => exact s_mkfn hop h hR hE hN
    all_goals exact h.elim
  case makeSlice t x y =>
    split at h
    · rename_i u ht
      split at h
      · rename_i z i hz hi
        split at h
        · rename_i hcond
          simp only [Bool.and_eq_true, decide_eq_true_eq] at hcond
          exact s_mksl hop ht hz hi hcond.1 hcond.2 h hR hE hN
        · exact h.elim
      · exact h.elim
    · exact h.elim
  case slice t x lo hi mx =>
    split at h
    · rename_i hu
      split at h
      · rename_i hm
        have : mx = none := by simpa using hm
        subst this
        exact s_slS hop hu h hR hE hN
      · exact h.elim
    · rename_i u hu
      split at h
      · rename_i S hS; exact s_sl hop hu hS h hR hE hN
      · exact h.elim
    · exact h.elim
  case fieldAddr s x f =>
    split at h
    · rename_i fd hf
      split at h
      · rename_i S hS
        split at h
        · rename_i h0; exact s_faddr hop hf hS h0 h hR hE hN
        · exact h.elim
      · exact h.elim
    · exact h.elim
  case field s x f =>
    split at h
    · rename_i fd hf
      split at h
      · rename_i g S hg hS; exact s_fld hop hf hg hS h hR hE hN
      · exact h.elim
    · exact h.elim
  case indexAddr t x i =>
    split at h
    · rename_i u ht
      split at h
      · rename_i S hS; exact s_iaddr hop ht hS h hR hE hN
      · exact h.elim
    · exact h.elim
  case index t x i =>
    split at h
    · rename_i ht; exact s_idxS hop ht h hR hE hN
    · exact h.elim
  case extract x i => exact s_ext hop h hR hE hN
  case call c =>
    obtain ⟨callee, args, ats⟩ := c
    cases callee with
    | invoke r m => simp only [cCall] at h; exact h.elim
    | value f =>
      simp only [cCall] at h
      exact s_call hop rfl h hR hE hN
    | builtin b =>
      have hargs : args = args.toList.toArray := by simp
      have hats : ats = ats.toList.toArray := by simp
      generalize args.toList = al at hargs
      generalize ats.toList = tl at hats
      subst hargs
      subst hats
      simp only [cCall] at h
      match al, tl with
      | [], tl => cases b <;> exact h.elim
      | [x], [] => cases b <;> exact h.elim
      | [x], [t] =>
        cases b <;> first
          | (exact h.elim)
          | skip
        case len =>
          simp only at h
          split at h
          · rename_i u hu; exact s_len hop hu h hR hE hN
          · rename_i hu; exact s_lenS hop hu h hR hE hN
          · exact h.elim
        case cap =>
          simp only at h
          split at h
          · rename_i u hu; exact s_cap hop hu h hR hE hN
          · exact h.elim
      | [x], t :: t' :: tl => cases b <;> exact h.elim
      | [x, y], tl =>
        by_cases hb : b = .min ∨ b = .max
        · rcases hb with rfl | rfl
          · simp only at h; exact s_min2 hop h hR hE hN
          · simp only at h; exact s_max2 hop h hR hE hN
        · match tl with
          | [] => cases b <;> first | (exact h.elim) | (exfalso; apply hb; simp; done)
          | [t] => cases b <;> first | (exact h.elim) | (exfalso; apply hb; simp; done)
          | [t, u] =>
            cases b <;> first
              | (exact h.elim)
              | (exfalso; apply hb; simp; done)
              | skip
            case append =>
              simp only at h
              split at h
              · rename_i e' he
                split at h
                · rename_i i hi
                  split at h
                  · rename_i z hz
                    split at h
                    · rename_i hcond
                      simp only [Bool.and_eq_true, Bool.or_eq_true, decide_eq_true_eq] at hcond
                      exact s_app hop he hcond.1.1 hi hz hcond.1.2 hcond.2 h hR hE hN
                    · exact h.elim
                  · exact h.elim
                · exact h.elim
              · exact h.elim
            case copy =>
              simp only at h
              split at h
              · rename_i S hS
                cases he : elemT C.P t with
                | none => simp [he] at hS
                | some e' =>
                  simp only [he, Option.bind_some] at hS
                  exact s_copy hop he hS h hR hE hN
              · exact h.elim
          | t :: u :: v :: tl => cases b <;> first | (exact h.elim) | (exfalso; apply hb; simp; done)
      | x :: y :: z :: al, tl => cases b <;> exact h.elim
  all_goals exact h.elim
end
end Go.AW
