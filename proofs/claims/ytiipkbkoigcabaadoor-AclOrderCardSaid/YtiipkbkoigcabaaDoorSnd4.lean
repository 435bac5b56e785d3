/- The operations that make or write memory do what the small language says (second part): a library of this claim. No condition. -/
import Derived.Test.YtiipkbkoigcabaaDoorSnd3
import Derived.Laws.MakeOwn
import Derived.Lib.ConvBytes
namespace Go.AW
open Go Go.RowKit
set_option linter.unusedVariables false
set_option linter.unusedSimpArgs false

section
variable {C : Ctx} {σ : Sig} {st : St} {w : World} {n : Nat} {e : Env} {a : Act} {o : Oper} {K : AV → St → Prop} {N : Act → World → Prop} {Q : Exit → Act → World → Prop}

/-- A bound of a slice expression, as the frame holds it. -/
theorem bnd_spec (hE : EnvRel σ w n e a.tmps) {x : Option Operand} {d : Int} {K : Int → Prop} (h : bndW e (x.map cOpd) d K) :
    ∃ i, K i ∧ ((x = none ∧ i = d) ∨ ∃ y k, x = some y ∧ a.eval y = .int k i) := by
  cases x with
  | none => exact ⟨d, h, .inl ⟨rfl, rfl⟩⟩
  | some y =>
    simp only [bndW, Option.map_some] at h
    split at h
    · rename_i k i hy
      exact ⟨i, h, .inr ⟨y, k, rfl, val_int (hE.ev y) hy⟩⟩
    · exact h.elim

theorem run_bounds {P : Program} {isS : Bool} {len cap : Nat} {lo hi : Option Operand} {l h : Int} (a : Act) (hlo : (lo = none ∧ l = 0) ∨ ∃ y k, lo = some y ∧ a.eval y = .int k l)
    (hhi : (hi = none ∧ h = len) ∨ ∃ y k, hi = some y ∧ a.eval y = .int k h) (h0 : 0 ≤ l) (h1 : l ≤ h) (h2 : h ≤ cap) (w : World) :
    (Instr.sliceBounds isS len cap (lo.map a.eval) (hi.map a.eval) none).run P w = .ok (l.toNat, h.toNat, cap) w := by
  rcases hlo with ⟨rfl, rfl⟩ | ⟨y, k, rfl, hy⟩ <;> rcases hhi with ⟨rfl, rfl⟩ | ⟨z, k', rfl, hz⟩
  · simp [Instr.sliceBounds]
  · have h0' : 0 ≤ h := by omega
    simp [Instr.sliceBounds, hz, Instr.sliceBound, asIntOf, h0', h2]
  · have h2' : l ≤ (len : Int) := h1
    simp [Instr.sliceBounds, hy, Instr.sliceBound, asIntOf, h0, h2']
  · have h0' : 0 ≤ h := by omega
    have h3 : l ≤ (h.toNat : Int) := by omega
    simp [Instr.sliceBounds, hy, hz, Instr.sliceBound, asIntOf, h0, h0', h2, h3]
    intro hh
    omega

theorem s_slS {t : TypeId} {x : Operand} {lo hi : Option Operand} (ho : o.op = .slice t x lo hi none) (ht : C.P.underlying t = some .string) (h : opW C (.slS (cOpd x) (lo.map cOpd) (hi.map cOpd)) e st K) (hR : R C σ st w) (hE : EnvRel σ w n e a.tmps) (hN : Nx C σ w K N a o.dst) : o.wp C.P a w N Q := by
  simp only [opW] at h
  split at h
  · rename_i s hx
    obtain ⟨b, vx, rfl⟩ := val_str (hE.ev x) hx
    obtain ⟨l, h, hlo⟩ := bnd_spec hE h
    obtain ⟨u, ⟨⟨h0, h1, h2⟩, h⟩, hhi⟩ := bnd_spec hE h
    have hbl : (b.data.toList.length : Int) = b.size := by simp
    rw [hbl] at h2 hhi
    have hb := run_bounds (P := C.P) (isS := false) a hlo hhi h0 h1 h2 w
    refine wp_same hR hN (v := .string (b.extract l.toNat u.toNat)) ?_ ?_ h
    · have hu' : C.P.underlying t = some .string := ht
      simp [execOp, ho, vx, Instr.sliceAt, run_underlying ht, Instr.slice, hb]
    · have : (b.extract l.toNat u.toNat).data.toList = (b.data.toList.drop l.toNat).take (u.toNat - l.toNat) := by
        simp [ByteArray.data_extract, List.take_drop]
      rw [← this]
      exact .str _
  · exact h.elim

theorem VE.drop {S : Nat} {es : List AV} {vs : List Value} (h : VE σ w S es vs) (k : Nat) : VE σ w S (es.drop k) (vs.drop k) :=
  ⟨by simp [h.len], fun v hv => h.size v (List.mem_of_mem_drop hv), (fun j e v he hv => by rw [List.getElem?_drop] at he hv; exact h.val _ e v he hv), fun e he => h.good e (List.mem_of_mem_drop he)⟩

theorem VE.take {S : Nat} {es : List AV} {vs : List Value} (h : VE σ w S es vs) (k : Nat) : VE σ w S (es.take k) (vs.take k) :=
  ⟨by simp [h.len], fun v hv => h.size v (List.mem_of_mem_take hv), (fun j e v he hv => by
    rw [List.getElem?_take] at he hv
    split at he
    · rename_i hj; rw [if_pos hj] at hv; exact h.val _ e v he hv
    · exact absurd he (by simp)), fun e he => h.good e (List.mem_of_mem_take he)⟩

theorem flat_sub {S : Nat} {vs : List Value} (hz : ∀ v ∈ vs, v.cells.size = S) (l m k : Nat) (c : Value) (hk : (flat ((vs.drop l).take m))[k]? = some c) : (flat vs)[l * S + k]? = some c := by
  by_cases hS : 0 < S
  · obtain ⟨v, hv, hc⟩ := get_flat hS _ (fun v hv => hz v (List.mem_of_mem_drop (List.mem_of_mem_take hv))) k c hk
    rw [List.getElem?_take] at hv
    split at hv
    · rw [List.getElem?_drop] at hv
      have := flat_get vs hz (l + k / S) (k % S) v hv (Nat.mod_lt _ hS)
      rw [Nat.add_mul, Nat.add_assoc, Nat.mul_comm (k / S), Nat.div_add_mod] at this
      rw [this]; exact hc
    · cases hv
  · have : S = 0 := by omega
    subst this
    have hl := flat_length _ (fun v hv => hz v (List.mem_of_mem_drop (List.mem_of_mem_take hv)) : ∀ v ∈ (vs.drop l).take m, v.cells.size = 0)
    have := (List.getElem?_eq_some_iff.1 hk).1
    omega

/-- A part of a slice. -/
theorem Val.sub {tk : Tk} {es : List AV} {p : Option Addr} {len cap S l h : Nat} (hv : Val σ w (.sl tk es) (.slice p len cap)) (hS : (es.all fun a => a.csize == S) = true) (h1 : l ≤ h) (h2 : h ≤ es.length) :
    Val σ w (.sl .sh ((es.drop l).take (h - l))) (.slice (if cap = l then p else p.map (·.add (l * S))) (h - l) (cap - l)) := by
  by_cases hlh : l = h
  · subst hlh
    simp only [Nat.sub_self, List.take_zero]
    exact .slempty _ _
  · have hne : es ≠ [] := by rintro rfl; simp at h2; omega
    obtain ⟨vs, b, o', cap', S', heq, hl, hcap, hm, ht, hz, hc, hvv, hg⟩ := hv.row hne
    cases heq
    have hSS := size_of_csize hl hz hvv hg hne hS
    subst hSS
    have hcl : cap ≠ l := by omega
    rw [if_neg hcl]
    simp only [Option.map_some, add_none]
    have hve : VE σ w S' es vs := ⟨hl, hz, hvv, hg⟩
    have hve2 := (hve.drop l).take (h - l)
    have hlen : ((vs.drop l).take (h - l)).length = h - l := by simp; omega
    have := Val.of_row (σ := σ) (w := w) (tk := .sh) (es := (es.drop l).take (h - l)) (vs := (vs.drop l).take (h - l)) (b := b) (o' := o' + l * S') (cap := cap - l) (S := S') hve2.len (by omega) (by omega) trivial hve2.size (fun k c hk => by
      have hk' := flat_sub hz l (h - l) k c hk
      have h0 : 0 < S' := by
        rcases Nat.eq_zero_or_pos S' with h0 | h0
        · subst h0
          have h3 := flat_length _ hve2.size
          have := (List.getElem?_eq_some_iff.1 hk).1
          omega
        · exact h0
      have := hc h0 _ c hk'
      rwa [← Nat.add_assoc] at this) hve2.val hve2.good
    rwa [hlen] at this

/-- A slice that can't be appended to may have any capacity. -/
theorem Val.recap {es : List AV} {p : Option Addr} {len cap cap' : Nat} (h : Val σ w (.sl .sh es) (.slice p len cap)) (hc : len ≤ cap') : Val σ w (.sl .sh es) (.slice p len cap') := by
  cases h with
  | slempty _ _ => exact .slempty _ _
  | sl _ _ vs b o' cap sz hl hcap hm htk hz hcc hvv hgd => exact .sl .sh es vs b o' cap' sz hl hc hm trivial hz hcc hvv hgd

theorem s_sl {t u : TypeId} {x : Operand} {lo hi mx : Option Operand} {S : Nat} (ho : o.op = .slice t x lo hi mx) (ht : C.P.underlying t = some (.slice u)) (hS : sizeT C.P u = some S) (h : opW C (.sl S (cOpd x) (lo.map cOpd) (hi.map cOpd) (mx.map cOpd)) e st K) (hR : R C σ st w) (hE : EnvRel σ w n e a.tmps) (hN : Nx C σ w K N a o.dst) : o.wp C.P a w N Q := by
  simp only [opW] at h
  have hv := hE.ev x
  split at h
  · rename_i tk es hx
    rw [hx] at hv
    obtain ⟨p, cap, hu, hcap⟩ := val_slice hv rfl
    rw [hu] at hv
    cases mx with
    | none =>
      simp only [Option.map_none] at h
      obtain ⟨l, h, hlo⟩ := bnd_spec hE h
      obtain ⟨r, ⟨⟨h0, h1, h2⟩, hcs, h⟩, hhi⟩ := bnd_spec hE h
      have hb := run_bounds (P := C.P) (isS := true) (len := es.length) (cap := cap) a hlo hhi h0 h1 (by omega) w
      refine wp_same hR hN ?_ (hv.sub hcs (l := l.toNat) (h := r.toNat) (by omega) (by omega)) h
      simp [execOp, ho, hu, Instr.sliceAt, run_underlying ht, Instr.slice, hb, sizeT_spec hS w]
    | some mo =>
      simp only [Option.map_some] at h
      obtain ⟨l, h, hlo⟩ := bnd_spec hE h
      obtain ⟨r, h, hhi⟩ := bnd_spec hE h
      have h' : bndW e ((some mo).map cOpd) 0 _ := h
      obtain ⟨m, ⟨⟨h0, h1, h2⟩, hsome, h3, h4, hcs, hk⟩, hmx⟩ := bnd_spec hE h'
      clear h h'
      rcases hmx with ⟨hmx, _⟩ | ⟨y, k, hmx, hy⟩
      · cases hmx
      cases hmx
      have hm0 : 0 ≤ m := by omega
      have hmc : m ≤ (cap : Int) := by omega
      have hr0 : 0 ≤ r := by omega
      have hrm : r ≤ (m.toNat : Int) := by omega
      have hlr : l ≤ (r.toNat : Int) := by omega
      have hmm : r ≤ max m 0 := by omega
      have hrr : l ≤ max r 0 := by omega
      rcases hhi with ⟨rfl, _⟩ | ⟨z, k', rfl, hz⟩
      · simp at hsome
      have hb : (Instr.sliceBounds true es.length cap (lo.map a.eval) (some (a.eval z)) (some (a.eval mo))).run C.P w = .ok (l.toNat, r.toNat, m.toNat) w := by
        rcases hlo with ⟨rfl, rfl⟩ | ⟨yl, kl, rfl, hyl⟩
        · simp [Instr.sliceBounds, hz, hy, Instr.sliceBound, asIntOf, hm0, hmc, hr0, hrm]
          intro hh; omega
        · simp [Instr.sliceBounds, hz, hy, hyl, Instr.sliceBound, asIntOf, hm0, hmc, hr0, hrm, h0, hlr, hmm, hrr]
      by_cases hml : m = l
      · rw [if_pos hml] at hk
        subst hml
        have hrl : r = m := by omega
        subst hrl
        refine wp_same hR hN (v := .slice p 0 0) ?_ (.slzero p) hk
        simp [execOp, ho, hu, Instr.sliceAt, run_underlying ht, Instr.slice, hb, sizeT_spec hS w]
      · rw [if_neg hml] at hk
        have hsub := hv.sub hcs (l := l.toNat) (h := r.toNat) (by omega) (by omega)
        have hml' : ¬ m.toNat = l.toNat := by omega
        have hcl : ¬ cap = l.toNat := by omega
        rw [if_neg hcl] at hsub
        refine wp_same hR hN (v := .slice (p.map (·.add (l.toNat * S))) (r.toNat - l.toNat) (m.toNat - l.toNat)) ?_ (hsub.recap (by omega)) hk
        simp [execOp, ho, hu, Instr.sliceAt, run_underlying ht, Instr.slice, hb, sizeT_spec hS w, hml']
  · rename_i id off len cap hx
    rw [hx] at hv
    generalize hu : a.eval x = u' at hv
    cases mx with
    | none =>
      simp only [Option.map_none] at h
      obtain ⟨l, h, hlo⟩ := bnd_spec hE h
      obtain ⟨r, ⟨⟨h0, h1, h2⟩, h⟩, hhi⟩ := bnd_spec hE h
      cases hv with
      | ref _ _ _ _ b hp =>
        have hb := run_bounds (P := C.P) (isS := true) (len := len) (cap := cap) a hlo hhi h0 h1 (by omega) w
        refine wp_same hR hN (v := .slice (some ⟨b, if l = cap then off else off + l.toNat * S, none⟩) (r.toNat - l.toNat) (cap - l.toNat)) ?_ (.ref id _ _ _ b hp) h
        simp [execOp, ho, hu, Instr.sliceAt, run_underlying ht, Instr.slice, hb, sizeT_spec hS w]
        by_cases hc : l = cap
        · have : cap = l.toNat := by omega
          simp [hc]
        · have : ¬ cap = l.toNat := by omega
          simp [hc, this, add_none]
    | some mo => exact h.elim
  · exact h.elim

theorem VE.vl {S : Nat} : ∀ {es : List AV} {vs : List Value}, VE σ w S es vs → VL σ w (es.map AV.cells).flatten (flat vs)
  | [], [], _ => ⟨rfl, by simp⟩
  | e0 :: es, v0 :: vs, h => by
    have h0 := h.val 0 e0 v0 rfl rfl
    have hg0 := h.good e0 List.mem_cons_self
    have ht : VE σ w S es vs := ⟨by simpa using h.len, fun v hv => h.size v (List.mem_cons_of_mem _ hv), fun j e v he hv => h.val (j + 1) e v he hv, fun e he => h.good e (List.mem_cons_of_mem _ he)⟩
    have ih := ht.vl
    have hvl := h0.vl hg0
    rw [flat_cons, List.map_cons, List.flatten_cons]
    refine ⟨by simp only [List.length_append, hvl.len, ih.len], fun i c v hc hv => ?_⟩
    by_cases hi : i < e0.cells.length
    · rw [List.getElem?_append_left hi] at hc
      rw [List.getElem?_append_left (by rw [← hvl.len]; exact hi)] at hv
      exact hvl.val i c v hc hv
    · rw [List.getElem?_append_right (by omega)] at hc
      rw [List.getElem?_append_right (by rw [← hvl.len]; omega), ← hvl.len] at hv
      exact ih.val _ c v hc hv
  | [], v :: vs, h => by simpa using h.len
  | e :: es, [], h => by simpa using h.len

theorem good_cells {av : AV} (hg : av.good = true) : ∀ c : AV, c ∈ av.cells → c.one = true := by
  intro c hc
  cases av <;> first
    | (simp [AV.cells] at hc; subst hc; simpa [AV.good] using hg)
    | (simp [AV.cells, AV.good] at hc hg; exact hg c hc)

theorem VE.ones {S : Nat} {es : List AV} {vs : List Value} (h : VE σ w S es vs) : ∀ c : AV, c ∈ (es.map AV.cells).flatten → c.one = true := by
  intro c hc
  obtain ⟨l, hl, hcl⟩ := List.mem_flatten.1 hc
  obtain ⟨x, hx, rfl⟩ := List.mem_map.1 hl
  exact good_cells (h.good x hx) c hcl

theorem wrap_i64' {i : Int} (h0 : 0 ≤ i) (h1 : i ≤ 9223372036854775807) : IntKind.i64.wrap i = i := by
  simp [IntKind.wrap_i64, wrap64]
  omega

theorem s_mksl {t u : TypeId} {x y : Operand} {z : AV} {i : TypeInfo} (ho : o.op = .makeSlice t x y) (ht : elemT C.P t = some u) (hz : zeroAV C.P u = some z) (hi : C.P.info? u = some i) (hzS : z.csize = i.size) (hS0 : 0 < i.size)
    (h : opW C (.mksl z i.bytes (cOpd x) (cOpd y)) e st K) (hR : R C σ st w) (hE : EnvRel σ w n e a.tmps) (hN : Nx C σ w K N a o.dst) : o.wp C.P a w N Q := by
  simp only [opW] at h
  split at h
  · rename_i k1 l k2 c hx hy
    have vx := val_int (hE.ev x) hx
    have vy := val_int (hE.ev y) hy
    obtain ⟨⟨h0, h1, h2, h3, hg⟩, h⟩ := h
    obtain ⟨zv, hrun, _, hv⟩ := zeroAV_spec hz w
    have hzv : zv.cells.size = i.size := by have := csize_cells (hv σ w) hg; omega
    have hzz : i.zero = some zv := by
      cases hiz : i.zero with
      | none => simp [zeroValue, typeInfo, hi, hiz] at hrun
      | some v' => simp [zeroValue, typeInfo, hi, hiz] at hrun; simp [hrun]
    have hfl := flat_replicate c.toNat i.size zv hzv hS0
    have hve : VE σ w i.size (List.replicate c.toNat z) (List.replicate c.toNat zv) := VE.replicate (hv σ w) hg hzv c.toNat
    have hm := run_make (P := C.P) w t u i zv (elemT_spec ht) hi hzz k1 k2 l c h0 h1 (by rw [Int.mul_comm]; omega) h3
    have hex : (execOp a.eval o).run C.P w = .ok (.value (.slice (some ⟨w.heap.size, 0, none⟩) l.toNat c.toNat)) (w.alloc (.cells (madeCells zv.cells (c.toNat * i.size)) u)) := by
      simp [execOp, ho, vx, vy, hm]
    have hmade : (madeCells zv.cells (c.toNat * i.size)).toList = flat (List.replicate c.toNat zv) := hfl
    have hsize : (madeCells zv.cells (c.toNat * i.size)).size = c.toNat * i.size := size_madeCells _ _
    have hbel : Below w.heap.size w (w.alloc (.cells (madeCells zv.cells (c.toNat * i.size)) u)) := (Below.refl _ w).alloc (Nat.le_refl _) _
    by_cases hl0 : l = 0
    · rw [if_pos hl0] at h
      subst hl0
      obtain ⟨j, σ', hs, hx', hR', hval⟩ := newSlice hR hbel (b := w.heap.size) (Nat.le_refl _) (heap_alloc_new w _) (.inl rfl) (cap := c.toNat) (VE.nil i.size) (by simp [flat]) (by omega) (by simp) (by simp)
      have hk := h j hs
      rw [hzS] at hk
      exact wp_new hN hex hx' hR' hval hk
    · rw [if_neg hl0] at h
      have hvl := hve.vl
      obtain ⟨j, σ', hs, hp, hx', hR'⟩ := hR.newObj hbel (b := w.heap.size) (Nat.le_refl _) (heap_alloc_new w _) (.inl rfl) (cs := ((List.replicate c.toNat z).map AV.cells).flatten) (by rw [hvl.len, ← hmade]; simp) (fun i c v hc hv => hvl.val i c v hc (by rw [← hmade]; simpa using hv)) hve.ones
      rw [List.map_replicate] at hR'
      exact wp_new hN hex hx' hR' (.ref j 0 _ _ _ hp) (h j hs)
  · exact h.elim

/-- Bytes as values. -/
def byteVals (s : List UInt8) : List Value := s.map fun b => .int .u8 b.toNat

theorem VE.bytes (s : List UInt8) : VE σ w 1 (bytesAV s) (byteVals s) := by
  refine ⟨by simp [bytesAV, byteVals], fun v hv => ?_, fun j e v he hv => ?_, fun e he => ?_⟩
  · obtain ⟨b, _, rfl⟩ := List.mem_map.1 hv; rfl
  · simp only [bytesAV, byteVals, List.getElem?_map] at he hv
    cases hj : s[j]? with
    | none => simp [hj] at he
    | some b => simp [hj] at he hv; subst he; subst hv; exact .int _ _
  · obtain ⟨b, _, rfl⟩ := List.mem_map.1 he; rfl

theorem flat_bytes (s : List UInt8) : flat (byteVals s) = byteVals s := by
  induction s with
  | nil => rfl
  | cons b s ih => simp [flat, byteVals, Value.cells] at ih ⊢; exact ih

theorem isU8_spec {P : Program} {t : TypeId} (h : isU8 P t = true) : P.underlying t = some (.int .u8) := by
  unfold isU8 at h
  split at h
  · assumption
  · cases h

theorem s_cvSB {src dst u : TypeId} {x : Operand} (ho : o.op = .convert src dst x) (hs : C.P.underlying src = some .string) (hd : C.P.underlying dst = some (.slice u)) (hu8 : isU8 C.P u = true) (h : opW C (.cvSB (cOpd x)) e st K) (hR : R C σ st w) (hE : EnvRel σ w n e a.tmps) (hN : Nx C σ w K N a o.dst) : o.wp C.P a w N Q := by
  simp only [opW] at h
  split at h
  · rename_i s hx
    obtain ⟨b, vx, rfl⟩ := val_str (hE.ev x) hx
    obtain ⟨hlen, h⟩ := h
    have hbs : b.data.toList.length = b.size := by simp
    rw [hbs] at hlen
    have hcap := grownCap_ge w b.size 0 u
    have hnew := Lib.bytesWorld_at_new w u b
    have harr : (Lib.bytesCells w u b).toList = byteVals b.data.toList ++ List.replicate (grownCap w b.size 0 u - b.size) (.int .u8 0) := by simp [Lib.bytesCells, byteVals]
    have hasz : (Lib.bytesCells w u b).size = grownCap w b.size 0 u := by
      have := congrArg List.length harr
      simp [byteVals] at this
      omega
    have hbel : Below w.heap.size w (Lib.bytesWorld w u b) := ⟨rfl, rfl, rfl, by rw [Lib.bytesWorld_size]; omega, fun k hk => Lib.bytesWorld_at_old w u b k hk⟩
    have hex : (execOp a.eval o).run C.P w = .ok (.value (.slice (some ⟨w.heap.size, 0, none⟩) b.size (grownCap w b.size 0 u))) (Lib.bytesWorld w u b) := by
      simp [execOp, ho, vx, Lib.run_convert_string_bytes w src dst u b hs hd (isU8_spec hu8)]
    have hve : VE σ w 1 (bytesAV b.data.toList) (byteVals b.data.toList) := VE.bytes _
    have hvl : (byteVals b.data.toList).length = b.size := by simp [byteVals]
    obtain ⟨j, σ', hsj, hx', hR', hval⟩ := newSlice hR hbel (b := w.heap.size) (Nat.le_refl _) hnew (.inr (Nat.le_refl _)) (cap := grownCap w b.size 0 u) hve (by rw [flat_bytes, harr, List.take_left']; rfl) (by rw [hasz]; omega) (by rw [hvl]; exact hcap) (by rw [hvl]; exact hlen)
    rw [hvl] at hval
    exact wp_new hN hex hx' hR' hval (h j hsj)
  · exact h.elim

theorem asByte_spec {x : AV} {b : UInt8} (h : asByte x = some b) : x = .int .u8 b.toNat := by
  unfold asByte at h
  split at h
  · rename_i i
    split at h
    · rename_i hi
      injection h with h
      subst h
      congr 1
      have : (UInt8.ofNat i.toNat).toNat = i.toNat := by
        rw [UInt8.toNat_ofNat']
        omega
      rw [this]
      omega
    · cases h
  · cases h

theorem asBytes_spec : ∀ {es : List AV} {l : List UInt8}, asBytes es = some l → es = bytesAV l
  | [], l, h => by simp [asBytes] at h; subst h; rfl
  | x :: es, l, h => by
    simp only [asBytes] at h
    split at h
    · rename_i b l' h1 h2
      injection h with h
      subst h
      rw [asByte_spec h1, asBytes_spec h2]
      rfl
    · cases h

/-- What the first elements of a slice are. -/
theorem first_sl {tk : Tk} {es : List AV} {v : Value} {S : Nat} (h : Val σ w (.sl tk es) v) (hS : (es.all fun a => a.csize == S) = true) :
    ∃ vs, VE σ w S es vs ∧ (Builtin.lenOf v) = pure es.length ∧ ∀ k, k ≤ es.length → ∀ w' : World, w'.heap = w.heap → (Builtin.firstCells S k v).run C.P w' = .ok (flat (vs.take k)).toArray w' := by
  by_cases hne : es = []
  · subst hne
    obtain ⟨p, cap, rfl, _⟩ := val_slice h rfl
    refine ⟨[], VE.nil S, rfl, fun k hk w' _ => ?_⟩
    have : k = 0 := by simpa using hk
    subst this
    cases p <;> simp [Builtin.firstCells, flat, loadCells, loadCellsFrom]
  · obtain ⟨vs, b, o', cap, S', rfl, hl, hcap, hm, ht, hz, hc, hvv, hg⟩ := h.row hne
    have hSS := size_of_csize hl hz hvv hg hne hS
    subst hSS
    have hve : VE σ w S' es vs := ⟨hl, hz, hvv, hg⟩
    refine ⟨vs, hve, by rw [hl]; rfl, fun k hk w' hw' => ?_⟩
    have hlen : (flat (vs.take k)).length = k * S' := by
      rw [flat_length _ (hve.take k).size]; simp; rw [Nat.min_eq_left (by omega)]
    have := run_firstCells_some (P := C.P) w' S' k ⟨b, o', none⟩ vs.length cap (flat (vs.take k)) hlen (fun j v hj => by
      rw [add_none]
      have h0 : 0 < S' := by
        rcases Nat.eq_zero_or_pos S' with h0 | h0
        · subst h0
          have := (List.getElem?_eq_some_iff.1 hj).1
          omega
        · exact h0
      have hj' := flat_sub hz 0 k j v (by simpa using hj)
      rw [Nat.zero_mul, Nat.zero_add] at hj'
      rw [World.cell?_of_block (w := w) (w' := w') (by rw [hw'])]
      exact (hc h0 j v hj').2)
    exact this

theorem foldl_push (ns : List Int) (s : ByteArray) : (ns.foldl (fun r n => r.push (UInt8.ofNat n.toNat)) s).data.toList = s.data.toList ++ ns.map fun n => UInt8.ofNat n.toNat := by
  induction ns generalizing s with
  | nil => simp
  | cons n ns ih => simp [ih]

theorem s_cvBS {src dst u : TypeId} {x : Operand} (ho : o.op = .convert src dst x) (hs : C.P.underlying src = some (.slice u)) (hd : C.P.underlying dst = some .string) (hu8 : isU8 C.P u = true) (h : opW C (.cvBS (cOpd x)) e st K) (hR : R C σ st w) (hE : EnvRel σ w n e a.tmps) (hN : Nx C σ w K N a o.dst) : o.wp C.P a w N Q := by
  simp only [opW] at h
  split at h
  · rename_i tk es hx
    split at h
    · rename_i l hl
      have hes := asBytes_spec hl
      subst hes
      have hv := hE.ev x
      rw [hx] at hv
      obtain ⟨vs, hve, _, hfirst⟩ := first_sl (C := C) (S := 1) hv (by simp [bytesAV, byteAV, AV.csize, AV.cells])
      have hvs : vs = byteVals l := by
        apply List.ext_getElem?
        intro j
        have hlen := hve.len
        by_cases hj : j < l.length
        · have h1 : (bytesAV l)[j]? = some (byteAV l[j]) := by simp [bytesAV, hj]
          have hjv : j < vs.length := by simp [bytesAV] at hlen; omega
          have h2 : vs[j]? = some vs[j] := by simp [hjv]
          have := hve.val j _ _ h1 h2
          rw [h2]
          simp only [byteVals, List.getElem?_map]
          rw [List.getElem?_eq_getElem hj]
          simp only [Option.map_some]
          generalize vs[j] = u at this
          unfold byteAV at this
          cases this
          rfl
        · rw [List.getElem?_eq_none (by simp [bytesAV] at hlen; omega), List.getElem?_eq_none (by simp [byteVals]; omega)]
      subst hvs
      obtain ⟨p, cap, hu, _⟩ := val_slice hv rfl
      have hll : (bytesAV l).length = l.length := by simp [bytesAV]
      rw [hll] at hu
      have hrun := hfirst (bytesAV l).length (Nat.le_refl _) w rfl
      rw [hll] at hrun
      have htk : (byteVals l).take l.length = byteVals l := by rw [List.take_of_length_le]; simp [byteVals]
      rw [htk, flat_bytes, hu] at hrun
      have fin : ∀ s : ByteArray, s.data.toList = l → (Conv.bytesToString (.slice p l.length cap)).run C.P w = .ok (.string s) w → o.wp C.P a w N Q := by
        intro s hs' hr
        refine wp_same hR hN (v := .string s) ?_ (by rw [← hs']; exact .str s) h
        simp [execOp, ho, hu, run_convert_bytes_string w src dst u p _ _ hs (isU8_spec hu8) hd, hr]
      cases p with
      | none =>
        have hl0 : l = [] := by
          cases l with
          | nil => rfl
          | cons b l =>
            rw [hu] at hv
            cases hv
        subst hl0
        exact fin .empty rfl (by simp [Conv.bytesToString])
      | some p =>
        have hbv : byteVals l = (l.map fun b => (b.toNat : Int)).map (Value.int .u8) := by simp [byteVals]
        have hload : (loadCells p l.length).run C.P w = .ok ((l.map fun b => (b.toNat : Int)).map (Value.int .u8)).toArray w := by
          rw [← hbv]
          simpa [Builtin.firstCells] using hrun
        have := run_bytesToString (P := C.P) w p l.length cap _ hload
        refine fin _ ?_ this
        rw [foldl_push]
        have : ∀ b : UInt8, UInt8.ofNat ((b.toNat : Int)).toNat = b := fun b => by simp
        simp [Function.comp_def]
    · exact h.elim
  · exact h.elim
end
end Go.AW
