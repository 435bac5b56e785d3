/- The small language's code does in the model what it says: a library of this claim. No condition. -/
import Derived.Test.YtiipkbkoigcabaaDoorSnd5
namespace Go.AW
open Go Go.RowKit
set_option linter.unusedVariables false
set_option linter.unusedSimpArgs false

section
variable {C : Ctx} {σ : Sig} {st : St} {w : World} {n : Nat} {e : Env} {a : Act} {o : Oper} {Q : Exit → Act → World → Prop}

theorem opW_congr {o : AOp} {e e' : Env} (h : ∀ x ∈ o.opds, e.ev x = e'.ev x) (K : AV → St → Prop) : opW C o e st K = opW C o e' st K := by
  have hfillA : ∀ (ps : List (Nat × Nat × Opd)) (cs : List AV), (∀ p ∈ ps, e.ev p.2.2 = e'.ev p.2.2) → fillA e ps cs = fillA e' ps cs := by
    intro ps
    induction ps with
    | nil => intro cs _; rfl
    | cons p ps ih =>
      intro cs hp
      obtain ⟨off, S, x⟩ := p
      have h0 := hp _ List.mem_cons_self
      simp only at h0
      simp only [fillA, h0]
      split
      · exact ih _ fun q hq => hp q (List.mem_cons_of_mem _ hq)
      · rfl
  have hfillE : ∀ (S : Nat) (ps : List (Nat × Opd)) (cs : List AV), (∀ p ∈ ps, e.ev p.2 = e'.ev p.2) → fillE e S ps cs = fillE e' S ps cs := by
    intro S ps
    induction ps with
    | nil => intro cs _; rfl
    | cons p ps ih =>
      intro cs hp
      obtain ⟨i, x⟩ := p
      have h0 := hp _ List.mem_cons_self
      simp only at h0
      simp only [fillE, h0]
      split
      · exact ih _ fun q hq => hp q (List.mem_cons_of_mem _ hq)
      · rfl
  have hevs : ∀ l : List Opd, (∀ x ∈ l, e.ev x = e'.ev x) → evs e l = evs e' l := fun l hl => List.map_congr_left hl
  have hbnd : ∀ (x : Option Opd) (d : Int) (K : Int → Prop), (∀ y, x = some y → e.ev y = e'.ev y) → bndW e x d K = bndW e' x d K := by
    intro x d K hx
    cases x with
    | none => rfl
    | some y => simp only [bndW, hx y rfl]
  cases o <;> simp only [AOp.opds, List.mem_cons, List.mem_append, List.not_mem_nil, or_false, forall_eq_or_imp, forall_eq, List.mem_map, forall_exists_index, and_imp] at h
  case build z ps => simp only [opW]; rw [hfillA ps _ fun p hp => h _ p hp rfl]
  case mk z m ps => simp only [opW]; rw [hfillE _ ps _ fun p hp => h _ p hp rfl]
  case mkfn f x y => simp only [opW]; rw [hevs x fun q hq => h q (.inl hq), hevs y fun q hq => h q (.inr hq)]
  case call f args => simp only [opW, h.1]; rw [hevs args fun q hq => h.2 q hq]
  case slS x lo hi =>
    have e1 : ∀ K d, bndW e lo d K = bndW e' lo d K := fun K d => hbnd lo d K fun y hy => h.2 y (.inl (by simp [hy]))
    have e2 : ∀ K d, bndW e hi d K = bndW e' hi d K := fun K d => hbnd hi d K fun y hy => h.2 y (.inr (by simp [hy]))
    simp only [opW, h.1, e1, e2]
  case sl S x lo hi mx =>
    have e1 : ∀ K d, bndW e lo d K = bndW e' lo d K := fun K d => hbnd lo d K fun y hy => h.2 y (.inl (.inl (by simp [hy])))
    have e2 : ∀ K d, bndW e hi d K = bndW e' hi d K := fun K d => hbnd hi d K fun y hy => h.2 y (.inl (.inr (by simp [hy])))
    cases mx with
    | none => simp only [opW, h.1, e1, e2]
    | some m =>
      have e3 : ∀ K d, bndW e (some m) d K = bndW e' (some m) d K := fun K d => hbnd (some m) d K fun y hy => h.2 y (.inr (by cases hy; simp))
      simp only [opW, h.1, e1, e2, e3]
  all_goals first
    | rfl
    | simp only [opW, h]


/-! ### Regions in order -/

/-- Freezing a row of the call's own. -/
theorem frz_sound {d : Nat} {K : AV → St → Prop} (h : opW C (.frz d) e st K) (hR : R C σ st w) (hE : EnvRel σ w n e a.tmps) :
    ∃ σ' st' av, Ext σ w σ' w ∧ R C σ' st' w ∧ Val σ' w av (a.tmps.getD d undef) ∧ K av st' := by
  simp only [opW] at h
  have hv := hE.val d
  split at h
  · rename_i id off m cap hx
    simp only [Env.ev] at hx
    rw [hx] at hv
    split at h
    · rename_i cs hs
      obtain ⟨⟨hoff, hm, hmc⟩, hk⟩ := h
      generalize hu : a.tmps.getD d undef = u at hv
      cases hv with
      | ref _ _ _ _ b hp =>
        obtain ⟨b', hp', hob⟩ := hR.obj id cs hs
        rw [hp] at hp'
        cases hp'
        obtain ⟨arr, T, fr, hh, hfr, hasz, hvv, hone⟩ := hob.row
        have hblt : b < w.heap.size := (Array.getElem?_eq_some_iff.1 hh).1
        have hR1 := hR.del id
        have hlive : ∀ k q, (st.del id k).isSome → σ.pl k = some q → q.block ≠ b := by
          intro k q hk hq
          have hki : k ≠ id := by rintro rfl; simp [St.del] at hk
          have hks : (st k).isSome := by simpa [St.del, hki] using hk
          exact hR.inj k id q (.obj b) hki hks (by simp [hs]) hq hp
        obtain ⟨hR2, hx2⟩ := hR1.addVis (V := fun b' o => b' = b) (fun b' o hv => by subst hv; exact hblt)
          (fun k b' hpk hk o hv => hlive k _ hk hpk hv) (fun k b' e2 top hpk hk o _ hv => hlive k _ hk hpk hv)
        have hlen : ((arr.toList.drop off).take m).length = m := by simp; omega
        have hval : Val (σ.see fun b' o => b' = b) w (.sl .sh ((cs.drop off).take m)) (.slice (some ⟨b, off, none⟩) ((arr.toList.drop off).take m).length (max m cap)) := by
          have hcell : ∀ k, w.cell? ⟨b, k, none⟩ = arr[k]? := fun k => cell_of_row w b k arr T fr hh
          have hcells : ∀ v ∈ (arr.toList.drop off).take m, v.cells = #[v] := by
            intro v hv
            have hv1 := List.mem_of_mem_drop (List.mem_of_mem_take hv)
            obtain ⟨j, hj⟩ := List.mem_iff_getElem?.1 hv1
            have hjl : j < cs.length := by
              have := (List.getElem?_eq_some_iff.1 hj).1
              simp at this; omega
            have hcj : cs[j]? = some cs[j] := by simp [hjl]
            exact cells_one (hvv j _ v hcj (by simpa using hj)) (hone _ (mem_of_get hcj))
          have hflat : ∀ l : List Value, (∀ v ∈ l, v.cells = #[v]) → flat l = l := by
            intro l hl
            induction l with
            | nil => rfl
            | cons x l ih => rw [flat_cons, hl x List.mem_cons_self, ih (fun v hv => hl v (List.mem_cons_of_mem _ hv))]; rfl
          refine Val.of_row (S := 1) (by rw [hlen]; simp; omega) (by rw [hlen]; omega) (by rw [hlen]; omega) trivial (fun v hv => by rw [hcells v hv]; rfl) (fun k c hk => ?_) (fun j c v hc hv => ?_) (fun c hc => ?_)
          · rw [hflat _ hcells] at hk
            refine ⟨Or.inr rfl, ?_⟩
            rw [hcell]
            rw [List.getElem?_take] at hk
            split at hk
            · rw [List.getElem?_drop] at hk; simpa using hk
            · cases hk
          · rw [List.getElem?_take] at hc hv
            split at hc
            · rename_i hj
              rw [if_pos hj] at hv
              rw [List.getElem?_drop] at hc hv
              exact (hvv _ c v hc (by simpa using hv)).ext hx2
            · cases hc
          · have := hone c (List.mem_of_mem_drop (List.mem_of_mem_take hc))
            cases c <;> simp_all [AV.one, AV.good]
        rw [hlen] at hval
        exact ⟨_, _, _, hx2, hR2, hval.recap hmc, hk⟩
    · exact h.elim
  · exact h.elim

/-- The frame's part of a post. -/
def Goes (C : Ctx) (σ : Sig) (w : World) (n : Nat) (K : Env → St → Prop) (a : Act) (w' : World) : Prop :=
  ∃ σ' e st, Ext σ w σ' w' ∧ R C σ' st w' ∧ EnvRel σ' w' n e a.tmps ∧ a.defers = [] ∧ K e st

theorem put_defers (a : Act) (d : Option Nat) (v : Value) : (a.put d v).defers = a.defers := by cases d <;> rfl

theorem undef_tup : Val σ w (.tup []) undef := .tup [] #[] rfl (by simp)

theorem put_getD (a : Act) (d : Nat) : (a.put (some d) (a.tmps.getD d undef)) = a := by
  cases a with
  | mk tmps defers =>
    simp only [Act.put, Act.mk.injEq, and_true]
    apply Array.ext
    · simp
    · intro i h1 h2
      rw [Array.getElem_setIfInBounds (by simpa using h2)]
      split
      · rename_i he; subst he; simp [Array.getD_eq_getD_getElem?, h2]
      · rfl

theorem guard_true {ops : Array Oper} {s : Nat} {want : Bool} {j : Nat} {b : Bool} (hg : o.guard = some (j, want)) (hs : (ops[j]?).bind (·.dst) = some s) (hE : EnvRel σ w n e a.tmps) (hb : e.get s = .bool b) :
    Region.wanted o (yielded ops a.tmps) = (b == want) := by
  have hv := hE.val s
  rw [hb] at hv
  have : a.tmps.getD s undef = .bool b := val_bool hv rfl
  have h2 : a.tmps[s]? = some (.bool b) := by
    rw [Array.getD_eq_getD_getElem?] at this
    cases h : a.tmps[s]? with
    | none => rw [h] at this; simp [undef] at this
    | some v => rw [h] at this; simp at this; rw [this]
  simp only [Region.wanted, hg, yielded, hs, Option.bind_some, h2]
  cases b <;> cases want <;> rfl

theorem guard_tup {ops : Array Oper} {s : Nat} {want : Bool} {j : Nat} {vs : List AV} (hg : o.guard = some (j, want)) (hs : (ops[j]?).bind (·.dst) = some s) (hE : EnvRel σ w n e a.tmps) (hb : e.get s = .tup vs) :
    Region.wanted o (yielded ops a.tmps) = false := by
  have hv := hE.val s
  rw [hb] at hv
  generalize hu : a.tmps.getD s undef = u at hv
  cases hv with
  | tup _ us _ _ =>
    simp only [Region.wanted, hg, yielded, hs, Option.bind_some]
    rw [Array.getD_eq_getD_getElem?] at hu
    cases h : a.tmps[s]? with
    | none => rfl
    | some v => rw [h] at hu; simp at hu; subst hu; rfl

theorem cGuard_spec {ops : Array Oper} {g : Option (Nat × Bool)} (h : cGuard ops o = some g) : (o.guard = none ∧ g = none) ∨ ∃ j want s, o.guard = some (j, want) ∧ (ops[j]?).bind (·.dst) = some s ∧ g = some (s, want) := by
  unfold cGuard at h
  split at h
  · rename_i hg; injection h with h; exact .inl ⟨hg, h.symm⟩
  · rename_i j want hg
    split at h
    · rename_i d hd; injection h with h; exact .inr ⟨j, want, d, hg, hd, h.symm⟩
    · cases h

theorem cOper_spec {P : Program} {ops : Array Oper} {x : AOper} (h : cOper P n ops o = some x) : cGuard ops o = some x.gd ∧ x.op = cOp P o.op ∧ x.dst = o.dst ∧ ∀ d, o.dst = some d → d < n := by
  unfold cOper at h
  split at h
  · rename_i g d hg hd
    split at h
    · rename_i hlt
      injection h with h; subst h
      exact ⟨hg, rfl, hd.symm, fun d' hd' => by rw [hd] at hd'; cases hd'; exact hlt⟩
    · cases h
  · rename_i g hg hd
    injection h with h; subst h
    exact ⟨hg, rfl, hd.symm, fun d' hd' => by rw [hd] at hd'; cases hd'⟩
  · cases h

theorem vcOps_sound {K : Env → St → Prop} {ops : Array Oper} (hK : ∀ a' w', Goes C σ w n K a' w' → Q .normal a' w') : ∀ (A : List AOper) (l : List Oper) (L : List AOper), cOpers C.P n ops l = some L → eraseOps A = L →
    ∀ (σ1 : Sig) (w1 : World) (e : Env) (st : St) (a : Act), Ext σ w σ1 w1 → R C σ1 st w1 → EnvRel σ1 w1 n e a.tmps → a.defers = [] → vcOps C K A e st → wpList C.P ops Q l a w1
  | [], l, L, hL, hA, σ1, w1, e, st, a, hx, hR, hE, hd, h => by
    simp [eraseOps] at hA
    subst hA
    cases l with
    | nil => exact hK a w1 ⟨σ1, e, st, hx, hR, hE, hd, h⟩
    | cons o l =>
      simp only [cOpers, Option.bind_eq_bind, Option.bind_eq_some_iff] at hL
      obtain ⟨_, _, _, _, hL⟩ := hL
      cases hL
  | x :: A, l, L, hL, hA, σ1, w1, e, st, a, hx, hR, hE, hd, h => by
    have nx : ∀ (o : Oper) (l : List Oper) (L' : List AOper), cOpers C.P n ops l = some L' → eraseOps A = L' → (∀ d, o.dst = some d → d < n) → ∀ (σ1 : Sig) (w1 : World) (a : Act) (e : Env), Ext σ w σ1 w1 → EnvRel σ1 w1 n e a.tmps → a.defers = [] → Nx C σ1 w1 (KC (vcOps C K A) o.dst e) (wpList C.P ops Q l) a o.dst := by
      intro o l L' hL' hA' hlt σ1 w1 a e hx hE hd σ2 st2 w2 av v hx2 hR2 hv hk
      exact vcOps_sound hK A l L' hL' hA' σ2 w2 _ st2 _ (hx.trans hx2) hR2 ((hE.ext hx2).put hlt hv) (by rw [put_defers]; exact hd) hk
    by_cases hgh : x.ghost = true
    · have hA' : eraseOps A = L := by simpa [eraseOps, hgh] using hA
      obtain ⟨dst, op, gd⟩ := x
      unfold AOper.ghost at hgh
      cases op <;> simp at hgh
      case frz d =>
        have key : (dst = some d ∨ dst = none) → gd = none → wpList C.P ops Q l a w1 := by
          intro hds hgd
          subst hgd
          simp only [vcOps] at h
          obtain ⟨σ2, st2, av, hx2, hR2, hv, hk⟩ := frz_sound h hR hE
          have hE2 := hE.ext hx2
          refine vcOps_sound hK A l L hL hA' σ2 w1 _ st2 a (hx.trans hx2) hR2 ?_ hd hk
          rcases hds with rfl | rfl
          · refine ⟨hE2.size, fun t => ?_⟩
            simp only [Env.put, Env.get]
            split
            · rename_i ht; subst ht; exact hv
            · exact hE2.val t
          · exact hE2
        exact key (.inl hgh.1) hgh.2
    · have hA' : eraseOps (x :: A) = x :: eraseOps A := by simp [eraseOps, hgh]
      rw [hA'] at hA
      subst hA
      cases l with
      | nil => simp [cOpers] at hL
      | cons o l =>
        simp only [cOpers, Option.bind_eq_bind, Option.bind_eq_some_iff, Option.some.injEq] at hL
        obtain ⟨x', hx', L', hL', hLL⟩ := hL
        injection hLL with h1 h2
        subst h1
        obtain ⟨hg, hop, hdst, hlt⟩ := cOper_spec hx'
        have hnx := nx o l L' hL' h2.symm hlt σ1 w1 a e hx hE hd
        unfold wpList
        rcases cGuard_spec hg with ⟨hgn, hgd⟩ | ⟨j, want, s, hgn, hs, hgd⟩
        · simp only [vcOps, hgd, hop, hdst] at h
          have : Region.wanted o (yielded ops a.tmps) = true := by simp [Region.wanted, hgn]
          rw [if_pos this]
          exact .inl (opW_sound h hR hE hnx)
        · simp only [vcOps, hgd, hop, hdst] at h
          unfold VG at h
          split at h
          · rename_i b hb
            have hw := guard_true hgn hs hE hb
            rw [hw]
            by_cases hbw : b = want
            · rw [if_pos (by simp [hbw])]
              exact .inl (opW_sound (h.1 hbw) hR hE hnx)
            · rw [if_neg (by simpa using hbw)]
              have hnb : (!b) = want := by cases b <;> cases want <;> simp_all
              exact hnx σ1 st w1 (.tup []) undef (Ext.refl _ _) hR undef_tup (h.2 hnb)
          · rename_i vs hb
            have hw := guard_tup hgn hs hE hb
            rw [hw]
            simp only [Bool.false_eq_true, if_false]
            exact hnx σ1 st w1 (.tup []) undef (Ext.refl _ _) hR undef_tup h
          · exact h.elim

/-! ### Regions whose order is open -/

/-- Is an operation carried out? -/
def wantA (o : AOper) (e : Env) : Option Bool :=
  match o.gd with
  | none => some true
  | some (s, want) => match e.get s with
    | .bool b => some (b == want)
    | .tup _ => some false
    | _ => none

/-- One and the same value, whatever new there is in the state. -/
def quietA (C : Ctx) (st0 : St) (o : AOper) (e : Env) (v : AV) : Prop := ∀ st, st0.le st → opW C o.op e st fun r st' => r = v ∧ st.le st'

def YieldsA (C : Ctx) (st0 : St) (o : AOper) (v : AV) (e : Env) : Prop :=
  (wantA o e = some true ∧ quietA C st0 o e v) ∨ (wantA o e = some false ∧ v = .tup [])

def qA (C : Ctx) (st0 : St) (L : List AOper) (i : Nat) (K : Env → Prop) (e : Env) : Prop :=
  match L[i]? with
  | none => False
  | some o => ∃ v, YieldsA C st0 o v e ∧ K (e.put o.dst v)

/-- Alike as far as slots go. -/
def EqE (e e' : Env) : Prop := ∀ t, e.get t = e'.get t
theorem EqE.refl (e : Env) : EqE e e := fun _ => rfl
theorem EqE.trans {a b c : Env} (h : EqE a b) (k : EqE b c) : EqE a c := fun t => (h t).trans (k t)
theorem EqE.ev {e e' : Env} (h : EqE e e') (x : Opd) : e.ev x = e'.ev x := by cases x <;> simp [Env.ev, h _]
theorem EqE.put {e e' : Env} (h : EqE e e') (d : Option Nat) (v : AV) : EqE (e.put d v) (e'.put d v) := by
  cases d with
  | none => exact h
  | some d => intro t; simp only [Env.put, Env.get]; split; rfl; exact h t

theorem get_put_ne {e : Env} {d : Option Nat} {v : AV} {t : Nat} (h : d ≠ some t) : (e.put d v).get t = e.get t := by
  cases d with
  | none => rfl
  | some d => simp only [Env.put, Env.get]; rw [if_neg (fun h' => h (by rw [h']))]

theorem put_comm {e : Env} {x y : Option Nat} (u v : AV) (h : ∀ d, x = some d → y ≠ some d) : EqE ((e.put x u).put y v) ((e.put y v).put x u) := by
  cases x with
  | none => exact EqE.refl _
  | some d =>
    cases y with
    | none => exact EqE.refl _
    | some d' =>
      have : d' ≠ d := fun h' => h d rfl (by rw [h'])
      intro t
      simp only [Env.put, Env.get]
      by_cases h1 : d' = t
      · subst h1; simp [Ne.symm this]
      · simp [h1]

theorem looks_op {o : AOper} {d : Nat} (h : o.looks d = false) : ∀ x ∈ o.op.opds, x ≠ .t d := by
  intro x hx he
  subst he
  simp only [AOper.looks, Bool.or_eq_false_iff] at h
  have := List.any_eq_false.1 h.1 _ hx
  simp at this

theorem ev_put {e : Env} {d : Option Nat} {v : AV} {x : Opd} (h : ∀ k, d = some k → x ≠ .t k) : (e.put d v).ev x = e.ev x := by
  cases x with
  | t s => exact get_put_ne fun hd => h s hd rfl
  | _ => rfl

theorem quietA_congr {st0 : St} {o : AOper} {e e' : Env} {v : AV} (h : ∀ x ∈ o.op.opds, e.ev x = e'.ev x) : quietA C st0 o e v ↔ quietA C st0 o e' v := by
  unfold quietA
  constructor
  · intro k st hs; rw [← opW_congr h]; exact k st hs
  · intro k st hs; rw [opW_congr h]; exact k st hs

theorem wantA_congr {o : AOper} {e e' : Env} (h : ∀ s want, o.gd = some (s, want) → e.get s = e'.get s) : wantA o e = wantA o e' := by
  unfold wantA
  cases hg : o.gd with
  | none => rfl
  | some p => obtain ⟨s, want⟩ := p; simp only [h s want hg]

theorem YieldsA.congr {st0 : St} {o : AOper} {e e' : Env} {v : AV} (h1 : ∀ x ∈ o.op.opds, e.ev x = e'.ev x) (h2 : ∀ s want, o.gd = some (s, want) → e.get s = e'.get s) (h : YieldsA C st0 o v e) : YieldsA C st0 o v e' := by
  rcases h with ⟨a, b⟩ | ⟨a, b⟩
  · exact .inl ⟨by rw [← wantA_congr h2]; exact a, (quietA_congr h1).1 b⟩
  · exact .inr ⟨by rw [← wantA_congr h2]; exact a, b⟩

theorem YieldsA.eqE {st0 : St} {o : AOper} {e e' : Env} {v : AV} (h : EqE e e') (k : YieldsA C st0 o v e) : YieldsA C st0 o v e' := k.congr (fun x _ => h.ev x) fun s _ _ => h s

theorem looks_gd {o : AOper} {d : Nat} (h : o.looks d = false) : ∀ s want, o.gd = some (s, want) → s ≠ d := by
  intro s want hg he
  subst he
  simp [AOper.looks, hg] at h

theorem YieldsA.put {st0 : St} {o : AOper} {e : Env} {v : AV} {d : Option Nat} (u : AV) (hd : ∀ k, d = some k → o.looks k = false) : YieldsA C st0 o v (e.put d u) ↔ YieldsA C st0 o v e := by
  have h1 : ∀ x ∈ o.op.opds, (e.put d u).ev x = e.ev x := fun x hx => ev_put fun k hk => looks_op (hd k hk) x hx
  have h2 : ∀ s want, o.gd = some (s, want) → (e.put d u).get s = e.get s := fun s want hg => get_put_ne fun hds => looks_gd (hd s hds) s want hg rfl
  exact ⟨fun h => h.congr h1 h2, fun h => h.congr (fun x hx => (h1 x hx).symm) fun s w hg => (h2 s w hg).symm⟩

theorem apartA_spec {x y : AOper} (h : apartA x y = true) : (∀ d, x.dst = some d → y.looks d = false) ∧ (∀ d, x.dst = some d → y.dst ≠ some d) ∧ (∀ d, y.dst = some d → x.looks d = false) := by
  simp only [apartA, Bool.and_eq_true] at h
  refine ⟨fun d hd => ?_, fun d hd => ?_, fun d hd => ?_⟩
  · have := h.1; rw [hd] at this; simp at this; exact this.1
  · have := h.1; rw [hd] at this; simp at this; exact this.2
  · have := h.2; rw [hd] at this; simpa using this

/-- Whatever order is picked from here on. -/
def anyA (C : Ctx) (st0 : St) (ops : Array Oper) (L : List AOper) (Q : Env → Prop) : Nat → Array Bool → Env → Prop
  | 0, listed, e => Region.ready .any ops listed = [] ∧ Q e
  | f + 1, listed, e => (Region.ready .any ops listed = [] → Q e) ∧ ∀ i ∈ Region.ready .any ops listed, qA C st0 L i (anyA C st0 ops L Q f (listed.setIfInBounds i true)) e

theorem qA_mono {st0 : St} {L : List AOper} {i : Nat} {K K' : Env → Prop} {e : Env} (h : ∀ e, K e → K' e) (k : qA C st0 L i K e) : qA C st0 L i K' e := by
  unfold qA at *
  split
  · rename_i h0; simp only [h0] at k
  · rename_i o h0
    simp only [h0] at k
    obtain ⟨v, h1, h2⟩ := k
    exact ⟨v, h1, h _ h2⟩

theorem anyA_eqE {st0 : St} {ops : Array Oper} {L : List AOper} {Q : Env → Prop} (hQ : ∀ e e', EqE e e' → Q e → Q e') : ∀ (f : Nat) (listed : Array Bool) (e e' : Env), EqE e e' → anyA C st0 ops L Q f listed e → anyA C st0 ops L Q f listed e'
  | 0, _, _, _, he, h => ⟨h.1, hQ _ _ he h.2⟩
  | f + 1, listed, e, e', he, h => ⟨fun h0 => hQ _ _ he (h.1 h0), fun i hi => by
    have := h.2 i hi
    unfold qA at *
    split
    · rename_i h0; simp only [h0] at this
    · rename_i o h0
      simp only [h0] at this
      obtain ⟨v, h1, h2⟩ := this
      exact ⟨v, h1.eqE he, anyA_eqE hQ f _ _ _ (he.put _ _) h2⟩⟩

theorem anyA_first {st0 : St} {ops : Array Oper} {L : List AOper} {Q : Env → Prop} (hQ : ∀ e e', EqE e e' → Q e → Q e') {i : Nat} {oi : AOper} {v : AV} (hi : L[i]? = some oi) :
    ∀ (f : Nat) (listed : Array Bool) (e : Env),
      (∀ j oj cj, ops[j]? = some oj → L[j]? = some cj → j ≠ i → listed.getD j true = false → (∀ ed ∈ oj.after, Region.binds .any ed = true → ed.on ≠ i) → apartA oi cj = true) →
      i ∈ Region.ready .any ops listed → YieldsA C st0 oi v e → anyA C st0 ops L Q f (listed.setIfInBounds i true) (e.put oi.dst v) → anyA C st0 ops L Q (f + 1) listed e := by
  intro f
  induction f with
  | zero =>
    intro listed e _ hr hy H
    refine ⟨fun h => (by rw [h] at hr; cases hr), fun j hj => ?_⟩
    by_cases hji : j = i
    · subst hji; unfold qA; simp only [hi]; exact ⟨v, hy, H⟩
    · have := ready_mono hj hji
      rw [H.1] at this
      cases this
  | succ f ih =>
    intro listed e hfree hr hy H
    refine ⟨fun h => (by rw [h] at hr; cases hr), fun j hj => ?_⟩
    by_cases hji : j = i
    · subst hji; unfold qA; simp only [hi]; exact ⟨v, hy, H⟩
    · have h1 := H.2 j (ready_mono hj hji)
      obtain ⟨hjun, oj, hoj, hall⟩ := mem_ready.1 hj
      have hnot : ∀ ed ∈ oj.after, Region.binds .any ed = true → ed.on ≠ i := fun ed he hb heq => by
        have h1 := hall ed he hb
        have h0 := (mem_ready.1 hr).1
        rw [heq] at h1
        rcases Nat.lt_or_ge i listed.size with h' | h'
        · simp [h'] at h0 h1; rw [h0] at h1; cases h1
        · simp [Array.getElem?_eq_none h'] at h1
      unfold qA at h1 ⊢
      split
      · rename_i h0; simp only [h0] at h1
      · rename_i cj h0
        simp only [h0] at h1
        obtain ⟨u, hu1, hu2⟩ := h1
        have hap := apartA_spec (hfree j oj cj hoj h0 hji hjun hnot)
        have hu3 : YieldsA C st0 cj u e := (YieldsA.put v hap.1).1 hu1
        have hy2 : YieldsA C st0 oi v (e.put cj.dst u) := (YieldsA.put u hap.2.2).2 hy
        refine ⟨u, hu3, ih (listed.setIfInBounds j true) _ (fun k ok ck hk hck hki hun hno => ?_) (ready_mono hr (Ne.symm hji)) hy2 ?_⟩
        · refine hfree k ok ck hk hck hki ?_ hno
          by_cases hjk : j = k
          · subst hjk; exact hjun
          · rw [getD_set_ne true hjk] at hun; exact hun
        · rw [Array.setIfInBounds_comm _ _ hji]
          exact anyA_eqE hQ _ _ _ _ (put_comm v u hap.2.1) hu2

theorem anyA_lex {st0 : St} {ops : Array Oper} {L : List AOper} {Q : Env → Prop} (hQ : ∀ e e', EqE e e' → Q e → Q e') (hLs : L.length = ops.size) : ∀ (l : List AOper) (k : Nat) (listed : Array Bool) (e : Env), (∀ j, l[j]? = L[k + j]?) →
    lexA ops L l.length k listed = true → vcDraw C st0 Q l e → anyA C st0 ops L Q l.length listed e
  | [], _, _, _, _, hB, h => ⟨by simpa [lexA] using hB, h⟩
  | o :: l, k, listed, e, hl, hB, h => by
    have h0 : L[k]? = some o := by simpa using (hl 0).symm
    simp only [List.length_cons, lexA, Bool.and_eq_true] at hB
    obtain ⟨⟨hr, hf⟩, hB'⟩ := hB
    have hy : ∃ v, YieldsA C st0 o v e ∧ vcDraw C st0 Q l (e.put o.dst v) := by
      simp only [vcDraw] at h
      split at h
      · rename_i hg
        obtain ⟨v, h1, h2⟩ := h
        exact ⟨v, .inl ⟨by simp [wantA, hg], h1⟩, h2⟩
      · rename_i s want hg
        split at h
        · rename_i b hb
          by_cases hbw : b = want
          · obtain ⟨v, h1, h2⟩ := h.1 hbw
            exact ⟨v, .inl ⟨by simp [wantA, hg, hb, hbw], h1⟩, h2⟩
          · have hnb : (!b) = want := by cases b <;> cases want <;> simp_all
            exact ⟨_, .inr ⟨by simp [wantA, hg, hb, hbw], rfl⟩, h.2 hnb⟩
        · rename_i vs hb
          exact ⟨_, .inr ⟨by simp [wantA, hg, hb], rfl⟩, h⟩
        · exact h.elim
    obtain ⟨v, hy, hK⟩ := hy
    refine anyA_first hQ h0 l.length listed e (fun j oj cj hoj hcj hji hun hno => ?_) (by simpa using hr) hy
      (anyA_lex hQ hLs l (k + 1) _ _ (fun j => by have := hl (j + 1); simpa [Nat.add_assoc, Nat.add_comm 1 j] using this) hB' hK)
    unfold freeA at hf
    simp only [h0] at hf
    have hjlt : j < ops.size := (Array.getElem?_eq_some_iff.1 hoj).1
    have := List.all_eq_true.1 hf j (List.mem_range.2 hjlt)
    simp only [Bool.or_eq_true, beq_iff_eq, hoj, hcj] at this
    rcases this with ((h1 | h1) | h1) | h1
    · exact absurd h1 hji
    · rw [hun] at h1; cases h1
    · obtain ⟨ed, hed, hb⟩ := Array.any_eq_true'.1 h1
      simp only [Bool.and_eq_true, beq_iff_eq] at hb
      exact absurd hb.2 (hno ed hed hb.1)
    · exact h1

theorem cOpers_len {P : Program} {ops : Array Oper} : ∀ (l : List Oper) (L : List AOper), cOpers P n ops l = some L → L.length = l.length ∧ ∀ (j : Nat) (o : Oper) (c : AOper), l[j]? = some o → L[j]? = some c → cOper P n ops o = some c
  | [], L, h => by simp [cOpers] at h; subst h; exact ⟨rfl, by simp⟩
  | o :: l, L, h => by
    simp only [cOpers, Option.bind_eq_bind, Option.bind_eq_some_iff, Option.some.injEq] at h
    obtain ⟨x, hx, L', hL', rfl⟩ := h
    obtain ⟨h1, h2⟩ := cOpers_len l L' hL'
    refine ⟨by simp [h1], fun j o' c ho hc => ?_⟩
    cases j with
    | zero => simp at ho hc; subst ho; subst hc; exact hx
    | succ j => exact h2 j o' c (by simpa using ho) (by simpa using hc)

/-- In every world that shows more than the state. -/
theorem wpAny_of_anyA {st0 : St} {ops : Array Oper} {L : List AOper} (hL : cOpers C.P n ops ops.toList = some L) {QA : Env → Prop} (hQ : ∀ (σ1 : Sig) (w1 : World) (e : Env) (st : St) (a : Act), Ext σ w σ1 w1 → R C σ1 st w1 → st0.le st → EnvRel σ1 w1 n e a.tmps → a.defers = [] → QA e → Q .normal a w1) :
    ∀ (f : Nat) (listed : Array Bool) (σ1 : Sig) (w1 : World) (e : Env) (st : St) (a : Act), Ext σ w σ1 w1 → R C σ1 st w1 → st0.le st → EnvRel σ1 w1 n e a.tmps → a.defers = [] → anyA C st0 ops L QA f listed e → wpAny C.P .any ops Q f listed a w1
  | 0, _, σ1, w1, e, st, a, hx, hR, hs, hE, hd, h => ⟨h.1, hQ σ1 w1 e st a hx hR hs hE hd h.2⟩
  | f + 1, listed, σ1, w1, e, st, a, hx, hR, hs, hE, hd, h => by
    refine ⟨fun h0 => hQ σ1 w1 e st a hx hR hs hE hd (h.1 h0), fun i hi => ?_⟩
    have hq := h.2 i hi
    obtain ⟨_, o, ho, _⟩ := mem_ready.1 hi
    unfold qA at hq
    split at hq
    · exact hq.elim
    · rename_i c hc
      obtain ⟨v, hy, hk⟩ := hq
      have hcomp := (cOpers_len ops.toList L hL).2 i o c (by simpa using ho) hc
      obtain ⟨hg, hop, hdst, hlt⟩ := cOper_spec hcomp
      rw [hdst] at hk
      have next : ∀ σ2 st2 w2 u, Ext σ1 w1 σ2 w2 → R C σ2 st2 w2 → st.le st2 → Val σ2 w2 v u → wpAny C.P .any ops Q f (listed.setIfInBounds i true) (a.put o.dst u) w2 := fun σ2 st2 w2 u hx2 hR2 hs2 hv =>
        wpAny_of_anyA hL hQ f _ σ2 w2 (e.put o.dst v) st2 _ (hx.trans hx2) hR2 (St.le_trans hs hs2) ((hE.ext hx2).put hlt hv) (by rw [put_defers]; exact hd) hk
      unfold wpOp
      simp only [ho]
      have hw : ∀ b, wantA c e = some b → Region.wanted o (yielded ops a.tmps) = b := by
        intro b hb
        rcases cGuard_spec hg with ⟨hgn, hgd⟩ | ⟨j, want, s, hgn, hs', hgd⟩
        · simp [wantA, hgd] at hb; subst hb; simp [Region.wanted, hgn]
        · simp only [wantA, hgd] at hb
          split at hb
          · rename_i b' hb'
            rw [guard_true hgn hs' hE hb']
            simpa using hb
          · rename_i vs hb'
            rw [guard_tup hgn hs' hE hb']
            simpa using hb
          · cases hb
      rcases hy with ⟨hw1, hquiet⟩ | ⟨hw1, rfl⟩
      · rw [hw true hw1]
        simp only [if_true]
        refine .inl ?_
        have := hquiet st hs
        rw [hop] at this
        exact opW_sound this hR hE fun σ2 st2 w2 av u hx2 hR2 hv hh => by
          obtain ⟨rfl, hle⟩ := hh
          exact next σ2 st2 w2 u hx2 hR2 hle hv
      · rw [hw false hw1]
        simp only [Bool.false_eq_true, if_false]
        exact next σ1 st w1 undef (Ext.refl _ _) hR (St.le_refl _) undef_tup

/-! ### Code -/

def PostOf (C : Ctx) (σ : Sig) (w : World) (n : Nat) (K : Post) : Exit → Act → World → Prop := fun x a' w' =>
  ∃ σ' e st, Ext σ w σ' w' ∧ R C σ' st w' ∧ EnvRel σ' w' n e a'.tmps ∧ a'.defers = [] ∧ K x e st

theorem PostOf.of {K : Post} {x : Exit} (hR : R C σ st w) (hE : EnvRel σ w n e a.tmps) (hd : a.defers = []) (hk : K x e st) : PostOf C σ w n K x a w :=
  ⟨σ, e, st, Ext.refl _ _, hR, hE, hd, hk⟩

theorem PostOf.trans {K : Post} {σ1 : Sig} {w1 : World} {x : Exit} {a' : Act} {w' : World} (hx : Ext σ w σ1 w1) (h : PostOf C σ1 w1 n K x a' w') : PostOf C σ w n K x a' w' := by
  obtain ⟨σ', e, st, h1, h2⟩ := h
  exact ⟨σ', e, st, hx.trans h1, h2⟩

theorem wp_unroll {P : Program} {c : Code} {Q : Exit → Act → World → Prop} (I : Act → World → Prop) (μ : Act → World → Nat → Prop) (hμ : ∀ a w, I a w → ∃ m, μ a w m)
    (round : ∀ a w m, I a w → μ a w m → c.wp P (Exit.then (fun a' w' => I a' w' ∧ ∃ m', m' < m ∧ μ a' w' m') Q) a w) : ∀ a w, I a w → (Code.loop c).wp P Q a w := by
  intro a w hI b k cs
  have key : ∀ m a w, μ a w m → I a w → ∃ e a' w', Q e a' w' ∧ Arrives P (lone (b.at a (.code c :: .inLoop c :: k)) cs w) b k cs e a' w' := by
    intro m
    induction m using Nat.strongRecOn with
    | _ m ih =>
      intro a w hm hI
      obtain ⟨e, a₁, w₁, hq, harr⟩ := round a w m hI hm b (.inLoop c :: k) cs
      cases e with
      | normal =>
        obtain ⟨hI₁, m', hlt, hm'⟩ := hq
        obtain ⟨e₂, a₂, w₂, hq₂, harr₂⟩ := ih m' hlt a₁ w₁ hm' hI₁
        exact ⟨e₂, a₂, w₂, hq₂, .of_steps (Steps.trans harr (.one step_inLoop)) harr₂⟩
      | exit id => exact ⟨_, a₁, w₁, hq, .pass (x := .inLoop c) rfl (fun _ _ => .inl (by simp)) harr⟩
      | goto l => exact ⟨_, a₁, w₁, hq, .pass (x := .inLoop c) rfl (fun _ _ => .inl (by simp)) harr⟩
      | ret => exact ⟨_, a₁, w₁, hq, .pass (x := .inLoop c) rfl (fun _ _ => .inl (by simp)) harr⟩
      | panic ch => exact ⟨_, a₁, w₁, hq, .pass (x := .inLoop c) rfl (fun _ _ => .inl (by simp)) harr⟩
      | outgrown => exact ⟨_, a₁, w₁, hq, .pass (x := .inLoop c) rfl (fun _ _ => .inl (by simp)) harr⟩
  obtain ⟨m, hm⟩ := hμ a w hI
  obtain ⟨e, a', w', hq, harr⟩ := key m a w hm hI
  exact ⟨e, a', w', hq, .of_steps (.one step_loop) harr⟩

theorem vc_sound : ∀ (c : Code) (A : ACode), erase A = compile C.P n c → ∀ (K : Post) (σ : Sig) (w : World) (e : Env) (st : St) (a : Act), R C σ st w → EnvRel σ w n e a.tmps → a.defers = [] → vc C A K e st → c.wp C.P (PostOf C σ w n K) a w := by
  intro c
  induction c with
  | skip =>
    intro A hA K σ w e st a hR hE hd h
    cases A <;> simp only [erase, compile] at hA <;> first | (cases hA; done) | skip
    exact wp_skip (PostOf.of hR hE hd h)
  | label l =>
    intro A hA K σ w e st a hR hE hd h
    cases A <;> simp only [erase, compile] at hA <;> first | (cases hA; done) | skip
    exact wp_label (PostOf.of hR hE hd h)
  | region id ops draw =>
    intro A hA K σ w e st a hR hE hd h
    simp only [compile] at hA
    split at hA
    · rename_i L hL
      cases draw with
      | false =>
        simp only [Bool.false_eq_true, if_false] at hA
        cases A <;> simp only [erase] at hA <;> first | (cases hA; done) | skip
        rename_i l
        injection hA with hA
        refine wp_region_list ?_
        exact vcOps_sound (σ := σ) (w := w) (K := K .normal) (fun a' w' hg => by
          obtain ⟨σ', e', st', h1, h2, h3, h4, h5⟩ := hg
          exact ⟨σ', e', st', h1, h2, h3, h4, h5⟩) l ops.toList L hL hA σ w e st a (Ext.refl _ _) hR hE hd h
      | true =>
        simp only [if_true] at hA
        split at hA
        · rename_i hcond
          simp only [Bool.and_eq_true] at hcond
          cases A <;> simp only [erase] at hA <;> first | (cases hA; done) | skip
          rename_i l
          injection hA with hA
          subst hA
          simp only [vc] at h
          have hlen := (cOpers_len ops.toList l hL).1
          have hls : l.length = ops.size := by simpa using hlen
          refine wp_region_any hcond.1 ?_
          obtain ⟨hR1, hx1⟩ := hR.heap (w' := { w with drawn := w.drawn + 1 }) ⟨rfl, rfl, rfl, Nat.le_refl _, fun _ _ => rfl⟩
          let QA : Env → Prop := fun e' => ∃ e1, EqE e' e1 ∧ ∀ st', st.le st' → K .normal e1 st'
          have hQA : ∀ e e', EqE e e' → QA e → QA e' := fun e e' he ⟨e1, h1, h2⟩ => ⟨e1, (fun t => ((he t).symm.trans (h1 t))), h2⟩
          have hdr : vcDraw C st QA l e := by
            have : ∀ (l : List AOper) (e : Env), vcDraw C st (fun e' => ∀ st', st.le st' → K .normal e' st') l e → vcDraw C st QA l e := by
              intro l
              induction l with
              | nil => intro e h; exact ⟨e, EqE.refl e, h⟩
              | cons o l ih =>
                intro e h
                simp only [vcDraw] at h ⊢
                split
                · rename_i hg
                  simp only [hg] at h
                  obtain ⟨v, h1, h2⟩ := h
                  exact ⟨v, h1, ih _ h2⟩
                · rename_i s want hg
                  simp only [hg] at h
                  split
                  · rename_i b hb
                    simp only [hb] at h
                    exact ⟨fun hh => by obtain ⟨v, h1, h2⟩ := h.1 hh; exact ⟨v, h1, ih _ h2⟩, fun hh => ih _ (h.2 hh)⟩
                  · rename_i vs hb
                    simp only [hb] at h
                    exact ih _ h
                  · rename_i h1 h2
                    split at h
                    · rename_i b hb; exact absurd hb (h1 b)
                    · rename_i vs hb; exact absurd hb (h2 vs)
                    · exact h
            exact this l e h
          have hany := anyA_lex (C := C) (st0 := st) (ops := ops) (L := l) (Q := QA) hQA hls l 0 (Array.replicate ops.size false) e (by simp) (by rw [hls]; exact hcond.2) hdr
          rw [hls] at hany
          exact wpAny_of_anyA (σ := σ) (w := w) (st0 := st) hL (QA := QA) (fun σ1 w1 e1 st1 a1 hx hR' hs hE' hd' hq => by
            obtain ⟨e2, he, hk⟩ := hq
            exact ⟨σ1, e2, st1, hx, hR', ⟨hE'.size, fun t => by rw [← he t]; exact hE'.val t⟩, hd', hk st1 hs⟩) ops.size _ σ _ e st a hx1 hR1 (St.le_refl _) (hE.ext hx1) hd hany
        · cases A <;> simp only [erase] at hA <;> first | (cases hA; done) | exact h.elim
    · cases A <;> simp only [erase] at hA <;> first | (cases hA; done) | exact h.elim
  | seq x y ihx ihy =>
    intro A hA K σ w e st a hR hE hd h
    cases A <;> simp only [erase, compile] at hA <;> first | (cases hA; done) | skip
    injection hA with h1 h2
    refine wp_seq (wp_mono (ihx _ h1 _ σ w e st a hR hE hd h) fun ex a' w' hp => ?_)
    obtain ⟨σ', e', st', hx, hR', hE', hd', hk⟩ := hp
    cases ex with
    | normal => exact wp_mono (ihy _ h2 K σ' w' e' st' a' hR' hE' hd' hk) fun _ _ _ hp => hp.trans hx
    | _ => exact ⟨σ', e', st', hx, hR', hE', hd', hk⟩
  | cond c x y ihx ihy =>
    intro A hA K σ w e st a hR hE hd h
    cases A <;> simp only [erase, compile] at hA <;> first | (cases hA; done) | skip
    injection hA with h1 h2 h3
    subst h1
    simp only [vc, VCond] at h
    split at h
    · rename_i b hb
      have hv := val_bool (hE.ev c) hb
      refine wp_cond_split hv (fun ht => ?_) (fun ht => ?_)
      · exact ihx _ h2 K σ w e st a hR hE hd (h.1 ht)
      · exact ihy _ h3 K σ w e st a hR hE hd (h.2 ht)
    · exact h.elim
  | block id b ih =>
    intro A hA K σ w e st a hR hE hd h
    cases A <;> simp only [erase, compile] at hA <;> first | (cases hA; done) | skip
    injection hA with h1 h2
    subst h1
    refine wp_block (wp_mono (ih _ h2 _ σ w e st a hR hE hd h) fun ex a' w' hp => ?_)
    obtain ⟨σ', e', st', hx, hR', hE', hd', hk⟩ := hp
    cases ex with
    | exit i =>
      simp only [blockK] at hk
      simp only [Exit.inBlock]
      split
      · rename_i hi; rw [if_pos hi] at hk; exact ⟨σ', e', st', hx, hR', hE', hd', hk⟩
      · rename_i hi; rw [if_neg hi] at hk; exact ⟨σ', e', st', hx, hR', hE', hd', hk⟩
    | _ => exact ⟨σ', e', st', hx, hR', hE', hd', hk⟩
  | loop b ih =>
    intro A hA K σ w e st a hR hE hd h
    cases A <;> simp only [erase, compile] at hA <;> first | (cases hA; done) | skip
    injection hA with h1
    obtain ⟨J, h0, hround⟩ := h
    refine wp_unroll (fun a' w' => ∃ m σ' e' st', Ext σ w σ' w' ∧ R C σ' st' w' ∧ EnvRel σ' w' n e' a'.tmps ∧ a'.defers = [] ∧ J m e' st')
      (fun a' w' m => ∃ σ' e' st', Ext σ w σ' w' ∧ R C σ' st' w' ∧ EnvRel σ' w' n e' a'.tmps ∧ a'.defers = [] ∧ J m e' st') (fun a' w' ⟨m, σ', e', st', k1, k2, k3, k4, k5⟩ => ⟨m, σ', e', st', k1, k2, k3, k4, k5⟩)
      (fun a' w' m _ ⟨σ', e', st', k1, k2, k3, k4, k5⟩ => ?_) a w (by obtain ⟨m, hm⟩ := h0; exact ⟨m, σ, e, st, Ext.refl _ _, hR, hE, hd, hm⟩)
    refine wp_mono (ih _ h1 _ σ' w' e' st' a' k2 k3 k4 (hround m e' st' k5)) fun ex a2 w2 hp => ?_
    obtain ⟨σ2, e2, st2, hx, hR', hE', hd', hk⟩ := hp
    cases ex with
    | normal =>
      obtain ⟨m', hlt, hj⟩ := hk
      exact ⟨⟨m', σ2, e2, st2, k1.trans hx, hR', hE', hd', hj⟩, m', hlt, σ2, e2, st2, k1.trans hx, hR', hE', hd', hj⟩
    | _ => exact ⟨σ2, e2, st2, k1.trans hx, hR', hE', hd', hk⟩
  | exit id =>
    intro A hA K σ w e st a hR hE hd h
    cases A <;> simp only [erase, compile] at hA <;> first | (cases hA; done) | skip
    injection hA with h1
    subst h1
    exact wp_exit (PostOf.of hR hE hd h)
  | scope b ih =>
    intro A hA K σ w e st a hR hE hd h
    cases A <;> simp only [erase, compile] at hA <;> first | (cases hA; done) | skip
    injection hA with h1
    refine wp_scope_straight (wp_mono (ih _ h1 _ σ w e st a hR hE hd h) fun ex a' w' hp => ?_)
    obtain ⟨σ', e', st', hx, hR', hE', hd', hk⟩ := hp
    cases ex with
    | goto l => exact hk.elim
    | _ => exact ⟨σ', e', st', hx, hR', hE', hd', hk⟩
  | ret =>
    intro A hA K σ w e st a hR hE hd h
    cases A <;> simp only [erase, compile] at hA <;> first | (cases hA; done) | skip
    exact wp_ret (PostOf.of hR hE hd h)
  | rangeFunc f ps x y =>
    intro A hA K σ w e st a hR hE hd h
    cases A <;> simp only [erase, compile] at hA <;> first | (cases hA; done) | exact h.elim
  | goto l =>
    intro A hA K σ w e st a hR hE hd h
    cases A <;> simp only [erase, compile] at hA <;> first | (cases hA; done) | exact h.elim
  | refuse s =>
    intro A hA K σ w e st a hR hE hd h
    cases A <;> simp only [erase, compile] at hA <;> first | (cases hA; done) | exact h.elim
end
end Go.AW
