/- The operations that read memory or make addresses do what the small language says: a library of this claim. No condition. -/
import Derived.Test.YtiipkbkoigcabaaDoorSnd1
namespace Go.AW
open Go Go.RowKit
set_option linter.unusedVariables false

section
variable {C : Ctx} {σ : Sig} {st : St} {w : World} {n : Nat} {e : Env} {a : Act} {o : Oper} {K : AV → St → Prop} {N : Act → World → Prop} {Q : Exit → Act → World → Prop}

theorem add_none (b o' i : Nat) : (⟨b, o', none⟩ : Addr).add i = ⟨b, o' + i, none⟩ := Addr.add_lit b o' i

theorem isAggT_spec {P : Program} {t : TypeId} {g : Bool} (h : isAggT P t = some g) (w : World) : (isAgg t).run P w = .ok g w := by
  unfold isAggT at h
  split at h
  · rename_i fs hu; injection h with h; subst h; simp [isAgg, run_underlying hu]
  · rename_i k d hu; injection h with h; subst h; simp [isAgg, run_underlying hu]
  · rename_i d h1 h2 hu
    injection h with h; subst h
    simp only [isAgg, Sem.run_bind, run_underlying hu, Result.andThen_ok]
    cases d <;> first
      | (exfalso; exact h1 _ rfl)
      | (exfalso; exact h2 _ _ rfl)
      | rfl
  · cases h

theorem sizeT_spec {P : Program} {t : TypeId} {S : Nat} (h : sizeT P t = some S) (w : World) : (sizeOf t).run P w = .ok S w := by
  unfold sizeT at h
  cases hi : P.info? t with
  | none => simp [hi] at h
  | some i =>
    simp [hi] at h
    simp [sizeOf, typeInfo, hi, h]

theorem run_loadVar {t : TypeId} {g : Bool} {S : Nat} (hg : isAggT C.P t = some g) (hS : sizeT C.P t = some S) (h1 : g = false → S = 1) (b o' : Nat) (vs : List Value) (hl : vs.length = S)
    (hc : ∀ i v, vs[i]? = some v → w.cell? ⟨b, o' + i, none⟩ = some v) :
    (loadVar t ⟨b, o', none⟩).run C.P w = .ok (if g then .agg vs.toArray else vs.getD 0 undef) w := by
  simp only [loadVar, Sem.run_bind, isAggT_spec hg w, Result.andThen_ok]
  cases g with
  | true =>
    have := run_loadCells_list (P := C.P) (w := w) ⟨b, o', none⟩ vs (fun j v hv => by rw [add_none]; exact hc j v hv)
    rw [hl] at this
    simp [sizeT_spec hS w, this]
  | false =>
    have hS1 := h1 rfl
    subst hS1
    match vs, hl with
    | [v], _ =>
      have := hc 0 v rfl
      simp at this
      simp [this]

theorem Val.sh1' {av : AV} {v : Value} (h : Val σ w av v) : Val σ w av.sh1 v := by
  cases h with
  | slnil => exact .slempty _ _
  | slzero a => exact .slempty _ _
  | slempty a cap => exact .slempty _ _
  | sl tk es vs b o' cap sz hl hcap hm ht hz hc hv hg => exact .sl .sh es vs b o' cap sz hl hcap hm trivial hz hc hv hg
  | undef v => exact .undef v
  | int k n => exact .int k n
  | bool b => exact .bool b
  | str s => exact .str s
  | nilptr => exact .nilptr
  | ptr id off b h => exact .ptr id off b h
  | rptr cs vs b o' hl hc hv hg => exact .rptr cs vs b o' hl hc hv hg
  | ref id off len cap b h => exact .ref id off len cap b h
  | agg cs vs hl hv hg => exact .agg cs vs hl hv hg
  | tup cs vs hl hv => exact .tup cs vs hl hv
  | iface t a v h => exact .iface t a v h
  | niliface => exact .niliface
  | fn f as bs us vs hl1 hl2 h1 h2 => exact .fn f as bs us vs hl1 hl2 h1 h2
  | nilfn => exact .nilfn
  | val v => exact .val v

theorem one_sh1 {av : AV} (h : av.one = true) : av.sh1.one = true := by cases av <;> simp_all [AV.one, AV.sh1]

theorem Val.sh' {av : AV} {v : Value} (h : Val σ w av v) : Val σ w av.sh v := by
  cases av with
  | agg cs =>
    cases h with
    | agg _ vs hl hv hg =>
      refine .agg _ vs (by simpa using hl) (fun i c v hc hvv => ?_) (fun c hc => ?_)
      · simp only [List.getElem?_map] at hc
        cases h0 : cs[i]? with
        | none => simp [h0] at hc
        | some c0 =>
          simp [h0] at hc
          subst hc
          exact (hv i c0 v h0 hvv).sh1'
      · obtain ⟨c0, h0, rfl⟩ := List.mem_map.1 hc
        exact one_sh1 (hg c0 h0)
  | _ => exact h.sh1'

theorem oneCell_of {av : AV} {v : Value} (h : Val σ w av v) (h1 : av.one = true) : v.oneCell' = true := by
  cases h <;> simp_all [AV.one, Value.oneCell']

theorem cells_one {av : AV} {v : Value} (h : Val σ w av v) (h1 : av.one = true) : v.cells = #[v] := by
  cases h <;> simp_all [AV.one, Value.cells]

/-- The cells of a value show the cells of the abstract one. -/
theorem Val.cells {av : AV} {v : Value} (h : Val σ w av v) (hg : av.good = true) :
    av.cells.length = v.cells.size ∧ (∀ (i : Nat) (c : AV) (u : Value), av.cells[i]? = some c → v.cells[i]? = some u → Val σ w c u) ∧ (∀ c : AV, c ∈ av.cells → c.one = true) := by
  by_cases ha : ∃ cs, av = .agg cs
  · obtain ⟨cs, rfl⟩ := ha
    cases h with
    | agg _ vs hl hv hg' => exact ⟨hl, hv, hg'⟩
  · have h1 : av.one = true := by
      cases av <;> first
        | (exact absurd ⟨_, rfl⟩ ha)
        | simpa [AV.good] using hg
    have hc := cells_one h h1
    have hac : av.cells = [av] := by cases av <;> first | (exact absurd ⟨_, rfl⟩ ha) | rfl
    rw [hc, hac]
    refine ⟨rfl, fun i c u hc hu => ?_, fun c hc => ?_⟩
    · cases i with
      | zero => simp at hc hu; subst hc; subst hu; exact h
      | succ i => simp at hc
    · simp at hc; subst hc; exact h1


/-- What is loaded of cells that show abstract ones. -/
theorem val_part {g : Bool} {S off : Nat} (h1 : g = false → S = 1) {cs : List AV} {vs : List Value} (hl : cs.length = vs.length) (hS : off + S ≤ cs.length)
    (hv : ∀ (i : Nat) (c : AV) (v : Value), cs[i]? = some c → vs[i]? = some v → Val σ w c v) (hg : ∀ c : AV, c ∈ cs → c.one = true) :
    Val σ w (partA g S off cs) (if g then .agg ((vs.drop off).take S).toArray else ((vs.drop off).take S).getD 0 undef) := by
  unfold partA
  cases g with
  | true =>
    simp only [if_true]
    refine .agg _ _ (by simp; omega) (fun i c v hc hvv => ?_) (fun c hc => ?_)
    · simp only [List.getElem?_map, List.getElem?_toArray] at hc hvv
      cases h0 : ((cs.drop off).take S)[i]? with
      | none => simp [h0] at hc
      | some c0 =>
        simp only [h0, Option.map_some, Option.some.injEq] at hc
        subst hc
        rw [List.getElem?_take] at h0 hvv
        split at h0
        · rename_i hi
          rw [if_pos hi] at hvv
          rw [List.getElem?_drop] at h0 hvv
          exact (hv _ c0 v h0 hvv).sh1'
        · cases h0
    · obtain ⟨c0, h0, rfl⟩ := List.mem_map.1 hc
      exact one_sh1 (hg c0 (List.mem_of_mem_drop (List.mem_of_mem_take h0)))
  | false =>
    have hS1 := h1 rfl
    subst hS1
    simp only [Bool.false_eq_true, if_false]
    have hc : off < cs.length := by omega
    have hvl : off < vs.length := by omega
    refine hv off _ _ (by simp [List.getD_eq_getElem?_getD, hc]) ?_
    simp [List.getD_eq_getElem?_getD, List.getElem?_take, List.getElem?_drop, hvl]

theorem run_part {t : TypeId} {g : Bool} {S : Nat} (hg : isAggT C.P t = some g) (hS : sizeT C.P t = some S) (h1 : g = false → S = 1) (vs : Array Value) (off : Nat) (hl : off + S ≤ vs.size) :
    (part t vs off).run C.P w = .ok (if g then .agg ((vs.toList.drop off).take S).toArray else ((vs.toList.drop off).take S).getD 0 undef) w := by
  simp only [part, Sem.run_bind, isAggT_spec hg w, Result.andThen_ok]
  cases g with
  | true =>
    simp only [if_true, sizeT_spec hS w, Sem.run_bind, Result.andThen_ok, Sem.run_pure]
    congr 2
    apply Array.ext'
    simp [List.drop_take]
  | false =>
    have hS1 := h1 rfl
    subst hS1
    have : off < vs.size := by omega
    simp [List.getD_eq_getElem?_getD, List.getElem?_take, List.getElem?_drop, this]

theorem s_load {t : TypeId} {x : Operand} (ho : o.op = .load t x) {g : Bool} {S : Nat} (hg : isAggT C.P t = some g) (hS : sizeT C.P t = some S) (h : opW C (.load g S (cOpd x)) e st K) (hR : R C σ st w) (hE : EnvRel σ w n e a.tmps) (hN : Nx C σ w K N a o.dst) : o.wp C.P a w N Q := by
  simp only [opW] at h
  have hv := hE.ev x
  split at h
  · rename_i id off hx
    rw [hx] at hv
    generalize hu : a.eval x = u at hv
    cases hv with
    | ptr _ _ b hp =>
      split at h
      · rename_i cs hs
        obtain ⟨hlen, h1, h⟩ := h
        obtain ⟨b', hp', hob⟩ := hR.obj id cs hs
        rw [hp] at hp'
        cases hp'
        obtain ⟨arr, T, fr, hh, _, hsz, hvv, hone⟩ := hob.row
        have hcell : ∀ i, w.cell? ⟨b, i, none⟩ = arr[i]? := fun i => cell_of_row w b i arr T fr hh
        have hl2 : ((arr.toList.drop off).take S).length = S := by simp; omega
        refine wp_same hR hN ?_ (val_part h1 (cs := cs) (vs := arr.toList) (by simp [hsz]) hlen (fun i c v hc hv => hvv i c v hc (by simpa using hv)) hone) h
        have := run_loadVar (w := w) hg hS h1 b off ((arr.toList.drop off).take S) hl2 (fun i v hi => by
          rw [hcell]
          rw [List.getElem?_take] at hi
          split at hi
          · rw [List.getElem?_drop] at hi; simpa using hi
          · cases hi)
        simp [execOp, ho, hu, Instr.loadAt, Instr.sureAddr, this]
      · exact h.elim
  · rename_i cs hx
    rw [hx] at hv
    generalize hu : a.eval x = u at hv
    cases hv with
    | rptr _ vs b o' hl hc hvv hgd =>
      obtain ⟨hlen, h1, h⟩ := h
      refine wp_same hR hN ?_ (val_part h1 hl (by simpa using hlen) hvv hgd) h
      have := run_loadVar (w := w) hg hS h1 b o' ((vs.drop 0).take S) (by simp; omega) (fun i v hi => by
          rw [List.getElem?_take] at hi
          split at hi
          · exact (hc i v (by simpa using hi)).2
          · cases hi)
      simp [execOp, ho, hu, Instr.loadAt, Instr.sureAddr, this]
  · exact h.elim

theorem fieldOf_spec {P : Program} {s : TypeId} {f : Nat} {fd : Field} (h : fieldOf P s f = some fd) : ∃ fs : Array Field, P.underlying s = some (.struct fs) ∧ fs[f]? = some fd := by
  unfold fieldOf at h
  split at h
  · rename_i fs hu; exact ⟨fs, hu, h⟩
  · cases h

theorem s_faddr {s : TypeId} {x : Operand} {f : Nat} (ho : o.op = .fieldAddr s x f) {fd : Field} (hf : fieldOf C.P s f = some fd) {S : Nat} (hS : sizeT C.P fd.type = some S) (hS0 : 0 < S) (h : opW C (.faddr fd.offset (cOpd x)) e st K) (hR : R C σ st w) (hE : EnvRel σ w n e a.tmps) (hN : Nx C σ w K N a o.dst) : o.wp C.P a w N Q := by
  simp only [opW] at h
  obtain ⟨fs, hu', hfs⟩ := fieldOf_spec hf
  have hv := hE.ev x
  have hrun : ∀ b o', a.eval x = .pointer (some ⟨b, o', none⟩) → (execOp a.eval o).run C.P w = .ok (.value (.pointer (some ⟨b, o' + fd.offset, none⟩))) w := by
    intro b o' hu
    have hS' : ¬ S = 0 := by omega
    simp [execOp, ho, hu, Instr.fieldAt, Instr.sureAddr, run_underlying hu', hfs, fieldPlace, sizeT_spec hS w, hS', add_none]
  split at h
  · rename_i id off hx
    rw [hx] at hv
    generalize hu : a.eval x = u at hv
    cases hv with
    | ptr _ _ b hp => exact wp_same hR hN (hrun b off hu) (.ptr id _ b hp) h
  · rename_i cs hx
    rw [hx] at hv
    generalize hu : a.eval x = u at hv
    cases hv with
    | rptr _ vs b o' hl hc hvv hgd =>
      refine wp_same hR hN (hrun b o' hu) (.rptr (cs.drop fd.offset) (vs.drop fd.offset) b _ (by simp; omega) (fun i v hi => ?_) (fun i c v hi hi' => ?_) (fun c hcm => hgd c (List.mem_of_mem_drop hcm))) h
      · rw [List.getElem?_drop] at hi
        have := hc _ v hi
        rwa [← Nat.add_assoc] at this
      · rw [List.getElem?_drop] at hi hi'
        exact hvv _ c v hi hi'
  · exact h.elim

theorem s_fld {s : TypeId} {x : Operand} {f : Nat} (ho : o.op = .field s x f) {fd : Field} (hf : fieldOf C.P s f = some fd) {g : Bool} {S : Nat} (hg : isAggT C.P fd.type = some g) (hS : sizeT C.P fd.type = some S) (h : opW C (.fld g fd.offset S (cOpd x)) e st K) (hR : R C σ st w) (hE : EnvRel σ w n e a.tmps) (hN : Nx C σ w K N a o.dst) : o.wp C.P a w N Q := by
  simp only [opW] at h
  obtain ⟨fs, hu', hfs⟩ := fieldOf_spec hf
  have hv := hE.ev x
  split at h
  · rename_i cs hx
    rw [hx] at hv
    generalize hu : a.eval x = u at hv
    cases hv with
    | agg _ vs hl hvv hgd =>
      obtain ⟨hlen, h1, h⟩ := h
      have hp := run_part (w := w) hg hS h1 vs fd.offset (by omega)
      refine wp_same hR hN ?_ (val_part h1 (vs := vs.toList) (by simpa using hl) hlen (fun i c v hc hv => hvv i c v hc (by simpa using hv)) hgd) h
      simp [execOp, ho, hu, Instr.field, run_underlying hu', hfs, asAgg, hp]
  · exact h.elim

theorem elemT_spec {P : Program} {t u : TypeId} (h : elemT P t = some u) : P.underlying t = some (.slice u) := by
  unfold elemT at h
  split at h
  · rename_i k hu; injection h with h; subst h; exact hu
  · cases h

theorem csize_cells {av : AV} {v : Value} (h : Val σ w av v) (hg : av.good = true) : av.csize = v.cells.size := (h.cells hg).1

theorem getD_of {es : List AV} {i : Nat} (h : i < es.length) : es[i]? = some (es.getD i .undef) := by
  simp [List.getD_eq_getElem?_getD, h]

theorem s_iaddr {t u : TypeId} {x y : Operand} (ho : o.op = .indexAddr t x y) (ht : elemT C.P t = some u) {S : Nat} (hS : sizeT C.P u = some S) (h : opW C (.iaddr S (cOpd x) (cOpd y)) e st K) (hR : R C σ st w) (hE : EnvRel σ w n e a.tmps) (hN : Nx C σ w K N a o.dst) : o.wp C.P a w N Q := by
  simp only [opW] at h
  have hv := hE.ev x
  have hu' := elemT_spec ht
  have hrun : ∀ (b o' : Nat) (len cap : Nat) (k : IntKind) (i : Int), a.eval x = .slice (some ⟨b, o', none⟩) len cap → a.eval y = .int k i → 0 ≤ i → i < len → (execOp a.eval o).run C.P w = .ok (.value (.pointer (some ⟨b, o' + i.toNat * S, none⟩))) w := by
    intro b o' len cap k i hu hy h0 h1
    simp [execOp, ho, hu, hy, Instr.indexAt, asIntOf, run_underlying hu', h0, h1, sizeT_spec hS w, add_none]
  split at h
  · rename_i tk es k i hx hy
    have vy := val_int (hE.ev y) hy
    rw [hx] at hv
    generalize hu : a.eval x = u at hv
    obtain ⟨⟨h0, h1⟩, hcs, h⟩ := h
    cases hv with
    | slnil => simp at h1; omega
    | slzero _ => simp at h1; omega
    | slempty _ _ => simp at h1; omega
    | sl _ _ vs b o' cap sz hl hcap hm htk hz hc hvv hgd =>
      have hi : i.toNat < es.length := by omega
      have hiv : i.toNat < vs.length := by omega
      have he := getD_of hi
      have hvi : vs[i.toNat]? = some vs[i.toNat] := by simp [hiv]
      have hval := hvv _ _ _ he hvi
      have hgood := hgd _ (List.mem_of_getElem? he)
      obtain ⟨c1, c2, c3⟩ := hval.cells hgood
      have hsz : sz = S := by rw [← hz _ _ hvi, ← c1]; exact hcs
      subst hsz
      refine wp_same hR hN (hrun b o' _ cap k i hu vy h0 (by omega)) (.rptr _ (vs[i.toNat].cells.toList) b _ (by simpa using c1) (fun j v hj => ?_) (fun j c v hj hj' => c2 j c v hj (by simpa using hj')) c3) h
      exact hc i.toNat j vs[i.toNat] v hvi (by simpa using hj)
  · rename_i id off len cap k i hx hy
    have vy := val_int (hE.ev y) hy
    rw [hx] at hv
    generalize hu : a.eval x = u at hv
    obtain ⟨⟨h0, h1⟩, h⟩ := h
    cases hv with
    | ref _ _ _ _ b hp => exact wp_same hR hN (hrun b off len cap k i hu vy h0 h1) (.ptr id _ b hp) h
  · exact h.elim

theorem isStrT_spec {P : Program} {t : TypeId} (h : isStrT P t = true) : P.underlying t = some .string := by
  unfold isStrT at h
  split at h
  · assumption
  · cases h

theorem s_idxS {t : TypeId} {x y : Operand} (ho : o.op = .index t x y) (ht : isStrT C.P t = true) (h : opW C (.idxS (cOpd x) (cOpd y)) e st K) (hR : R C σ st w) (hE : EnvRel σ w n e a.tmps) (hN : Nx C σ w K N a o.dst) : o.wp C.P a w N Q := by
  simp only [opW] at h
  split at h
  · rename_i s k i hx hy
    have vy := val_int (hE.ev y) hy
    obtain ⟨b, vx, rfl⟩ := val_str (hE.ev x) hx
    obtain ⟨⟨h0, h1⟩, h⟩ := h
    have hi : i.toNat < b.size := by have : b.data.toList.length = b.size := by simp
                                     omega
    refine wp_same hR hN ?_ (.int _ _) h
    have hb : b[i.toNat]? = some (b[i.toNat]'hi) := ByteArray.getElem?_lt' b _ hi
    have hd : b.data.toList.getD i.toNat 0 = b[i.toNat]'hi := by
      have hi2 : i.toNat < b.data.size := hi
      rw [List.getD_eq_getElem?_getD, Array.getElem?_toList, Array.getElem?_eq_getElem hi2]
      rfl
    simp [execOp, ho, vx, vy, Instr.index, asIntOf, run_underlying (isStrT_spec ht), h0, hb]
    simpa using congrArg (fun u : UInt8 => (u.toNat : Int)) hd.symm
  · exact h.elim

theorem val_slice {av : AV} {es : List AV} {tk : Tk} {v : Value} (h : Val σ w av v) (ea : av = .sl tk es) : ∃ (p : Option Addr) (cap : Nat), v = .slice p es.length cap ∧ es.length ≤ cap := by
  subst ea
  cases h with
  | slnil => exact ⟨_, _, rfl, by simp⟩
  | slzero _ => exact ⟨_, _, rfl, by simp⟩
  | slempty _ _ => exact ⟨_, _, rfl, by simp⟩
  | sl _ _ vs b o' cap sz hl hcap hm htk hz hc hvv hgd => exact ⟨_, cap, by rw [hl], by omega⟩

theorem s_len {t u : TypeId} {x : Operand} (ho : o.op = .call { callee := .builtin .len, args := #[x], argTypes := #[t] }) (ht : C.P.underlying t = some (.slice u)) (h : opW C (.len (cOpd x)) e st K) (hR : R C σ st w) (hE : EnvRel σ w n e a.tmps) (hN : Nx C σ w K N a o.dst) : o.wp C.P a w N Q := by
  simp only [opW] at h
  have hrun : ∀ p len cap, a.eval x = .slice p len cap → (execOp a.eval o).run C.P w = .ok (.value (.int .i64 len)) w := by
    intro p len cap hu
    simp [execOp, ho, hu, resolve, invoke, builtin, Builtin.len_, run_underlying ht, goInt]
  split at h
  · rename_i tk es hx
    obtain ⟨p, cap, hu, _⟩ := val_slice (hE.ev x) hx
    exact wp_same hR hN (hrun _ _ _ hu) (.int _ _) h
  · rename_i id off len cap hx
    have hv := hE.ev x
    rw [hx] at hv
    generalize hu : a.eval x = u at hv
    cases hv with
    | ref _ _ _ _ b hp => exact wp_same hR hN (hrun _ _ _ hu) (.int _ _) h
  · exact h.elim

theorem s_lenS {t : TypeId} {x : Operand} (ho : o.op = .call { callee := .builtin .len, args := #[x], argTypes := #[t] }) (ht : C.P.underlying t = some .string) (h : opW C (.lenS (cOpd x)) e st K) (hR : R C σ st w) (hE : EnvRel σ w n e a.tmps) (hN : Nx C σ w K N a o.dst) : o.wp C.P a w N Q := by
  simp only [opW] at h
  split at h
  · rename_i s hx
    obtain ⟨b, vx, rfl⟩ := val_str (hE.ev x) hx
    refine wp_same hR hN (v := .int .i64 b.size) ?_ ?_ h
    · simp [execOp, ho, vx, resolve, invoke, builtin, Builtin.len_, run_underlying ht, goInt]
    · have : b.data.toList.length = b.size := by simp
      rw [this]
      exact .int _ _
  · exact h.elim

theorem s_cap {t u : TypeId} {x : Operand} (ho : o.op = .call { callee := .builtin .cap, args := #[x], argTypes := #[t] }) (ht : C.P.underlying t = some (.slice u)) (h : opW C (.cap (cOpd x)) e st K) (hR : R C σ st w) (hE : EnvRel σ w n e a.tmps) (hN : Nx C σ w K N a o.dst) : o.wp C.P a w N Q := by
  simp only [opW] at h
  have hrun : ∀ p len cap, a.eval x = .slice p len cap → (execOp a.eval o).run C.P w = .ok (.value (.int .i64 cap)) w := by
    intro p len cap hu
    simp [execOp, ho, hu, resolve, invoke, builtin, Builtin.cap_, run_underlying ht, goInt]
  split at h
  · rename_i tk es hx
    obtain ⟨p, cap, hu, hc⟩ := val_slice (hE.ev x) hx
    exact wp_same hR hN (hrun _ _ _ hu) (.int _ _) (h cap hc)
  · rename_i id off len cap hx
    have hv := hE.ev x
    rw [hx] at hv
    generalize hu : a.eval x = u at hv
    cases hv with
    | ref _ _ _ _ b hp => exact wp_same hR hN (hrun _ _ _ hu) (.int _ _) h
  · exact h.elim

section
variable {P : Program} {t : TypeId} {w : World} (d : Nat)
theorem eq_i1 {ms} (h : P.underlying t = some (.interface ms)) : (Op.equalIn (d + 1) t .nilIface .nilIface).run P w = .ok true w := by simp [Op.equalIn, run_underlying h]
theorem eq_i2 {ms} (h : P.underlying t = some (.interface ms)) (k : TypeId) (v : Value) : (Op.equalIn (d + 1) t (.iface k v) .nilIface).run P w = .ok false w := by simp [Op.equalIn, run_underlying h]
theorem eq_i3 {ms} (h : P.underlying t = some (.interface ms)) (k : TypeId) (v : Value) : (Op.equalIn (d + 1) t .nilIface (.iface k v)).run P w = .ok false w := by simp [Op.equalIn, run_underlying h]
theorem eq_p1 {ms} (h : P.underlying t = some (.pointer ms)) : (Op.equalIn (d + 1) t (.pointer none) (.pointer none)).run P w = .ok true w := by simp [Op.equalIn, run_underlying h]
theorem eq_p2 {ms} (h : P.underlying t = some (.pointer ms)) (k : Addr) : (Op.equalIn (d + 1) t (.pointer (some k)) (.pointer none)).run P w = .ok false w := by simp [Op.equalIn, run_underlying h]
theorem eq_s1 {ms} (h : P.underlying t = some (.slice ms)) (n c m k : Nat) : (Op.equalIn (d + 1) t (.slice none n c) (.slice none m k)).run P w = .ok true w := by simp [Op.equalIn, run_underlying h]
theorem eq_s2 {ms} (h : P.underlying t = some (.slice ms)) (a : Addr) (n c m k : Nat) : (Op.equalIn (d + 1) t (.slice (some a) n c) (.slice none m k)).run P w = .ok false w := by simp [Op.equalIn, run_underlying h]
theorem eq_f1 {p r v} (h : P.underlying t = some (.func p r v)) : (Op.equalIn (d + 1) t .nilFunc .nilFunc).run P w = .ok true w := by simp [Op.equalIn, run_underlying h]
theorem eq_f2 {p r v} (h : P.underlying t = some (.func p r v)) (f : Fn) (x y : Array Value) : (Op.equalIn (d + 1) t (.func f x y) .nilFunc).run P w = .ok false w := by simp [Op.equalIn, run_underlying h]
end

theorem s_eqv {neg : Bool} {op : BinOp} (hop : op = if neg then .neq else .eql) {t u : TypeId} {x y : Operand} (ho : o.op = .binOp op t x y u) (h : opW C (.eqv (eqKind C.P t) neg (cOpd x) (cOpd y)) e st K) (hR : R C σ st w) (hE : EnvRel σ w n e a.tmps) (hN : Nx C σ w K N a o.dst) : o.wp C.P a w N Q := by
  simp only [opW] at h
  have hx := hE.ev x
  have hy := hE.ev y
  have fin : ∀ b : Bool, (eqGuard op t x y (a.eval x) (a.eval y)).run C.P w = .ok () w → (Op.equal t (a.eval x) (a.eval y)).run C.P w = .ok b w →
      (∀ op', (op' = .eql ∨ op' = .neq) → binOp op' t (a.eval x) (a.eval y) = (do let b ← Op.equal t (a.eval x) (a.eval y); pure (.bool (if op' = .neq then !b else b)))) →
      K (.bool (if neg then !b else b)) st → o.wp C.P a w N Q := by
    intro b hg he hb hk
    refine wp_same hR hN (v := .bool (if neg then !b else b)) ?_ (.bool _) hk
    have hb' := hb op (by cases neg <;> simp [hop])
    simp only [execOp, ho, Sem.run_bind, hg, Result.andThen_ok, hb', he, Sem.run_pure]
    cases neg <;> simp [hop]
  have kind4 : eqKind C.P t = 4 → ∃ ms, C.P.underlying t = some (.interface ms) := by
    intro hk; unfold eqKind at hk; split at hk <;> simp_all
  have kind5 : eqKind C.P t = 5 → ∃ ms, C.P.underlying t = some (.slice ms) := by
    intro hk; unfold eqKind at hk; split at hk <;> simp_all
  have kind6 : eqKind C.P t = 6 → ∃ ms, C.P.underlying t = some (.pointer ms) := by
    intro hk; unfold eqKind at hk; split at hk <;> simp_all
  have kind7 : eqKind C.P t = 7 → ∃ p r v, C.P.underlying t = some (.func p r v) := by
    intro hk; unfold eqKind at hk; split at hk <;> simp_all
  have hops : op = .eql ∨ op = .neq := by cases neg <;> simp [hop]
  generalize hu : a.eval x = ux at *
  generalize hv : a.eval y = vy at *
  unfold eqW at h
  split at h
  · rename_i h1 h2
    rw [h1] at hx; rw [h2] at hy; cases hx; cases hy
    obtain ⟨hk, hc, h⟩ := h
    obtain ⟨ms, hms⟩ := kind4 hk
    refine fin true ?_ (eq_i1 9999 hms) ?_ h
    · have : (∃ c, y = .const c) ∨ (∃ c, x = .const c) := by
        split at hc
        · rename_i c he; left; cases y <;> simp_all [cOpd]
        · rename_i c he _; right; cases x <;> simp_all [cOpd]
        · exact hc.elim
      rcases this with ⟨c, rfl⟩ | ⟨c, rfl⟩
      · rw [eqGuard_nil_constR]; rfl
      · rw [eqGuard_nil_constL]; rfl
    · rintro op' (rfl | rfl) <;> simp [binOp]
  · rename_i ti ai h1 h2
    rw [h1] at hx; rw [h2] at hy; cases hy
    obtain ⟨hk, h⟩ := h
    obtain ⟨ms, hms⟩ := kind4 hk
    cases hx with
    | iface _ _ v' hv' =>
      refine fin false (by rw [eqGuard_at_iface]; rfl) (eq_i2 9999 hms _ _) ?_ h
      rintro op' (rfl | rfl) <;> simp [binOp]
  · rename_i ti ai h1 h2
    rw [h1] at hx; rw [h2] at hy; cases hx
    obtain ⟨hk, h⟩ := h
    obtain ⟨ms, hms⟩ := kind4 hk
    cases hy with
    | iface _ _ v' hv' =>
      refine fin false (by rw [eqGuard_nil_iface]; rfl) (eq_i3 9999 hms _ _) ?_ h
      rintro op' (rfl | rfl) <;> simp [binOp]
  · rename_i h1 h2
    rw [h1] at hx; rw [h2] at hy; cases hx; cases hy
    obtain ⟨hk, h⟩ := h
    obtain ⟨ms, hms⟩ := kind6 hk
    refine fin true (by rw [eqGuard_at_pointer]; rfl) (eq_p1 9999 hms) ?_ h
    rintro op' (rfl | rfl) <;> simp [binOp]
  · rename_i id off h1 h2
    rw [h1] at hx; rw [h2] at hy; cases hy
    obtain ⟨hk, h⟩ := h
    obtain ⟨ms, hms⟩ := kind6 hk
    cases hx with
    | ptr _ _ b hp =>
      refine fin false (by rw [eqGuard_at_pointer]; rfl) (eq_p2 9999 hms _) ?_ h
      rintro op' (rfl | rfl) <;> simp [binOp]
  · rename_i cs h1 h2
    rw [h1] at hx; rw [h2] at hy; cases hy
    obtain ⟨hk, h⟩ := h
    obtain ⟨ms, hms⟩ := kind6 hk
    cases hx with
    | rptr _ vs b o' hl hc hvv hgd =>
      refine fin false (by rw [eqGuard_at_pointer]; rfl) (eq_p2 9999 hms _) ?_ h
      rintro op' (rfl | rfl) <;> simp [binOp]
  · rename_i h1 h2
    rw [h1] at hx; rw [h2] at hy
    obtain ⟨hk, h⟩ := h
    obtain ⟨ms, hms⟩ := kind5 hk
    cases hy with
    | slnil => cases hx with
      | slnil =>
        refine fin true (by rw [eqGuard_at_slice]; rfl) (eq_s1 9999 hms _ _ _ _) ?_ h
        rintro op' (rfl | rfl) <;> simp [binOp]
      | sl _ _ vs b o' cap sz hl hcap hm htk hz hc hvv hgd => exact htk.elim
    | sl _ _ vs b o' cap sz hl hcap hm htk hz hc hvv hgd => exact htk.elim
  · rename_i tk hd tl h1 h2
    rw [h1] at hx; rw [h2] at hy
    obtain ⟨hk, h⟩ := h
    obtain ⟨ms, hms⟩ := kind5 hk
    cases hy with
    | slnil => cases hx with
      | sl _ _ vs b o' cap sz hl hcap hm htk hz hc hvv hgd =>
        refine fin false (by rw [eqGuard_at_slice]; rfl) (eq_s2 9999 hms _ _ _ _ _) ?_ h
        rintro op' (rfl | rfl) <;> simp [binOp]
    | sl _ _ vs b o' cap sz hl hcap hm htk hz hc hvv hgd => exact htk.elim
  · rename_i id off len cap h1 h2
    rw [h1] at hx; rw [h2] at hy
    obtain ⟨hk, h⟩ := h
    obtain ⟨ms, hms⟩ := kind5 hk
    cases hy with
    | slnil => cases hx with
      | ref _ _ _ _ b hp =>
        refine fin false (by rw [eqGuard_at_slice]; rfl) (eq_s2 9999 hms _ _ _ _ _) ?_ h
        rintro op' (rfl | rfl) <;> simp [binOp]
    | sl _ _ vs b o' cap sz hl hcap hm htk hz hc hvv hgd => exact htk.elim
  · rename_i tk hn h1 h2
    rw [h1] at hx; rw [h2] at hy
    obtain ⟨hk, h⟩ := h
    obtain ⟨ms, hms⟩ := kind5 hk
    cases hy with
    | slnil =>
      obtain ⟨p, cap, rfl, _⟩ := val_slice hx rfl
      cases p with
      | none =>
        refine fin true (by rw [eqGuard_at_slice]; rfl) (eq_s1 9999 hms _ _ _ _) ?_ (h _)
        rintro op' (rfl | rfl) <;> simp [binOp]
      | some p =>
        refine fin false (by rw [eqGuard_at_slice]; rfl) (eq_s2 9999 hms _ _ _ _ _) ?_ (h _)
        rintro op' (rfl | rfl) <;> simp [binOp]
    | sl _ _ vs b o' cap sz hl hcap hm htk hz hc hvv hgd => exact htk.elim
  · rename_i h1 h2
    rw [h1] at hx; rw [h2] at hy; cases hx; cases hy
    obtain ⟨hk, h⟩ := h
    obtain ⟨p, r, vv, hms⟩ := kind7 hk
    refine fin true (by rw [eqGuard_at_nilFunc]; rfl) (eq_f1 9999 hms) ?_ h
    rintro op' (rfl | rfl) <;> simp [binOp]
  · rename_i f as bs h1 h2
    rw [h1] at hx; rw [h2] at hy; cases hy
    obtain ⟨hk, h⟩ := h
    obtain ⟨p, r, vv, hms⟩ := kind7 hk
    cases hx with
    | fn _ _ _ us vs k1 k2 k3 k4 =>
      refine fin false (by rw [eqGuard_at_func]; rfl) (eq_f2 9999 hms _ _ _) ?_ h
      rintro op' (rfl | rfl) <;> simp [binOp]
  · exact h.elim
end
end Go.AW
