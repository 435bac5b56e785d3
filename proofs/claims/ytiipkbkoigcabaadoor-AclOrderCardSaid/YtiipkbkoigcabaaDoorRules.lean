/- From the small language to contracts: a library of this claim. No condition. -/
import Derived.Test.YtiipkbkoigcabaaDoorCode
namespace Go.AW
open Go Go.RowKit
set_option linter.unusedVariables false
set_option linter.unusedSimpArgs false

/-- A function as the small language has it: its code, its results, how many slots. -/
def fnComp (P : Program) (f : Nat) : Option (ACode × List ARes × Nat) :=
  match P.funcs[f]? with
  | some fn => match fn.body, cRes P fn.results.toList with
    | some c, some rs => if fn.name == "runtime.NumGoroutine" then none else some (compile P fn.ntmps c, rs, fn.ntmps)
    | _, _ => none
  | none => none

section
variable {C : Ctx} {σ : Sig} {st : St} {w : World} {n : Nat} {e : Env}

theorem argEnv_get : ∀ (args : List AV) (k t : Nat), (argEnv k args).get t = if k ≤ t then args.getD (t - k) .undef else .undef
  | [], k, t => by simp [argEnv, Env.get]
  | a :: args, k, t => by
    simp only [argEnv, Env.get, argEnv_get args (k + 1) t]
    by_cases h : k = t
    · subst h; simp
    · rw [if_neg h]
      by_cases h2 : k ≤ t
      · rw [if_pos h2, if_pos (by omega)]
        have : t - k = (t - (k + 1)) + 1 := by omega
        rw [this]
        rfl
      · rw [if_neg h2, if_neg (by omega)]

/-- How a result is read. -/
def resRun (tmps : Array Value) (r : ResultVar) : Sem Value :=
  match r with
  | .tmp t => pure (tmps.getD t undef)
  | .cell a t => do loadVar t (← asAddr (tmps.getD a undef))

theorem results_eq (fn : Func) (tmps : Array Value) : results fn tmps = (do
    let vs ← fn.results.mapM (resRun tmps)
    pure (if h : vs.size = 1 then vs[0] else .tuple vs)) := by
  unfold results
  rfl

theorem resA_sound {e : Env} {a : Act} (hR : R C σ st w) (hE : EnvRel σ w n e a.tmps) : ∀ (l : List ResultVar) (rs : List ARes) (vs : List AV), cRes C.P l = some rs → resAs e st rs = some vs →
    ∃ us : List Value, (l.mapM (resRun a.tmps)).run C.P w = .ok us w ∧ VL σ w vs us
  | [], rs, vs, h, hr => by
    simp [cRes] at h; subst h
    simp [resAs] at hr; subst hr
    exact ⟨[], by simp, ⟨rfl, by simp⟩⟩
  | .tmp t :: l, rs, vs, h, hr => by
    simp only [cRes, Option.map_eq_some_iff] at h
    obtain ⟨rs', h', rfl⟩ := h
    simp only [resAs, resA] at hr
    split at hr
    · rename_i v vs' hv hvs
      injection hv with hv
      subst hv
      injection hr with hr
      subst hr
      obtain ⟨us, hrun, hvl⟩ := resA_sound hR hE l rs' vs' h' hvs
      refine ⟨a.tmps.getD t undef :: us, by simp only [List.mapM_cons, resRun, Sem.run_bind, Sem.run_pure, Result.andThen_ok, hrun], ⟨by simp [hvl.len], fun i c u hc hu => ?_⟩⟩
      cases i with
      | zero => simp at hc hu; subst hc; subst hu; simpa using hE.val t
      | succ i => exact hvl.val i c u (by simpa using hc) (by simpa using hu)
    · cases hr
  | .cell a' t :: l, rs, vs, h, hr => by
    simp only [cRes] at h
    split at h
    · rename_i g S hg hS
      simp only [Option.map_eq_some_iff] at h
      obtain ⟨rs', h', rfl⟩ := h
      simp only [resAs] at hr
      split at hr
      · rename_i v vs' hv hvs
        injection hr with hr
        subst hr
        obtain ⟨us, hrun, hvl⟩ := resA_sound hR hE l rs' vs' h' hvs
        simp only [resA] at hv
        have hav := hE.val a'
        split at hv
        · rename_i id off hx
          rw [hx] at hav
          generalize hu : a.tmps.getD a' undef = u at hav
          cases hav with
          | ptr _ _ b hp =>
            split at hv
            · rename_i cs hs
              split at hv
              · rename_i hcond
                obtain ⟨hlen, h1⟩ := hcond
                injection hv with hv
                subst hv
                obtain ⟨b', hp', hob⟩ := hR.obj id cs hs
                rw [hp] at hp'
                cases hp'
                obtain ⟨arr, T, fr, hh, _, hsz, hvv, hone⟩ := hob.row
                have hcell : ∀ i, w.cell? ⟨b, i, none⟩ = arr[i]? := fun i => cell_of_row w b i arr T fr hh
                have hl2 : ((arr.toList.drop off).take S).length = S := by simp; omega
                have hload := run_loadVar (w := w) hg hS h1 b off ((arr.toList.drop off).take S) hl2 (fun i v hi => by
                  rw [hcell]
                  rw [List.getElem?_take] at hi
                  split at hi
                  · rw [List.getElem?_drop] at hi; simpa using hi
                  · cases hi)
                have hval := val_part (σ := σ) (w := w) h1 (cs := cs) (vs := arr.toList) (by simp [hsz]) hlen (fun i c v hc hv => hvv i c v hc (by simpa using hv)) hone
                have hasA : (asAddr (a.tmps.getD a' undef)).run C.P w = .ok ⟨b, off, none⟩ w := by rw [hu]; rfl
                refine ⟨_ :: us, by simp only [List.mapM_cons, resRun, Sem.run_bind, hasA, Result.andThen_ok, hload, hrun, Sem.run_pure]; rfl, ⟨by simp [hvl.len], fun i c u hc hu => ?_⟩⟩
                cases i with
                | zero => simp only [List.getElem?_cons_zero, Option.some.injEq] at hc hu; subst hc; subst hu; exact hval
                | succ i => exact hvl.val i c u (by simpa using hc) (by simpa using hu)
              · cases hv
            · cases hv
        · cases hv
      · cases hr
    · cases h

/-- A contract out of what is shown of the code. -/
theorem ACalls.of_vc {f : Nat} {A : ACode} {rs : List ARes} {m : Nat} {args : List AV} {K : AV → St → Prop} (hf : fnComp C.P f = some (erase A, rs, m)) (hm : args.length ≤ m) (h : vc C A (endK rs K) (argEnv 0 args) st) : ACalls C f args st K := by
  intro σ w vs hR hlen hvals
  unfold fnComp at hf
  split at hf
  · rename_i fn hfn
    split at hf
    · rename_i c rs' hb hrs
      split at hf
      · cases hf
      · rename_i hname
        injection hf with hf
        simp only [Prod.mk.injEq] at hf
        obtain ⟨hA, rfl, rfl⟩ := hf
        refine .inl ⟨w, ?_, rfl, ?_⟩
        · have hname' : (fn.name == "runtime.NumGoroutine") = false := by simpa using hname
          simp [callFunc, hfn, hb]
          exact fun he => by simp [he] at hname'
        · refine calls_of_wp hfn hb ?_
          have hE : EnvRel σ w fn.ntmps (argEnv 0 args) (vs ++ Array.replicate (fn.ntmps - vs.size) undef) := by
            refine ⟨by simp; omega, fun t => ?_⟩
            rw [argEnv_get]
            simp only [Nat.zero_le, if_true, Nat.sub_zero]
            by_cases ht : t < args.length
            · have h1 : args[t]? = some (args.getD t .undef) := by simp [List.getD_eq_getElem?_getD, ht]
              have htv : t < vs.size := by omega
              have h2 : vs[t]? = some vs[t] := by simp [htv]
              have h3 : (vs ++ Array.replicate (fn.ntmps - vs.size) undef).getD t undef = vs[t] := by
                rw [Array.getD_eq_getD_getElem?, Array.getElem?_append_left htv, h2]; rfl
              rw [h3]
              exact hvals t _ _ h1 h2
            · have : args.getD t .undef = .undef := by simp [List.getD_eq_getElem?_getD, List.getElem?_eq_none (show args.length ≤ t by omega)]
              rw [this]
              exact .undef _
          refine wp_mono (vc_sound c A hA.symm (endK rs' K) σ w (argEnv 0 args) st _ hR hE rfl h) fun x a' w' hp => ?_
          obtain ⟨σ', e', st', hx, hR', hE', hd', hk⟩ := hp
          have fin : (match resAs e' st' rs' with | some vs => K (tupOf vs) st' | none => False) → a'.defers = [] ∧ ∃ v, (results fn a'.tmps).run C.P w' = .ok v w' ∧ ∃ σ' r v' st', Ending.returned v = .returned v' ∧ Ext σ w σ' w' ∧ R C σ' st' w' ∧ Val σ' w' r v' ∧ K r st' := by
            intro hk
            split at hk
            · rename_i avs hres
              obtain ⟨us, hrun, hvl⟩ := resA_sound hR' hE' fn.results.toList rs' avs hrs hres
              have hrun2 : (fn.results.mapM (resRun a'.tmps)).run C.P w' = .ok us.toArray w' := by
                rw [Array.mapM_eq_mapM_toList]
                simp only [Sem.run_map, hrun, Result.andThen_ok]
              refine ⟨hd', (if h : us.toArray.size = 1 then us.toArray[0] else .tuple us.toArray), ?_, σ', tupOf avs, _, st', rfl, hx, hR', ?_, hk⟩
              · rw [results_eq, Sem.run_bind, hrun2]
                rfl
              · match avs, us, hvl with
                | [], [], _ => exact .tup [] #[] rfl (by simp)
                | [x], [u], hvl => exact hvl.val 0 x u rfl rfl
                | x :: y :: l, u :: v :: m, hvl =>
                  have : ¬ (u :: v :: m).toArray.size = 1 := by simp
                  rw [dif_neg this]
                  exact .tup _ _ (by simpa using hvl.len) (fun i c v hc hv => hvl.val i c v hc (by simpa using hv))
                | [], _ :: _, hvl => exact absurd hvl.len (by simp)
                | [_], [], hvl => exact absurd hvl.len (by simp)
                | [_], _ :: _ :: _, hvl => exact absurd hvl.len (by simp)
                | _ :: _ :: _, [], hvl => exact absurd hvl.len (by simp)
                | _ :: _ :: _, [_], hvl => exact absurd hvl.len (by simp)
            · exact hk.elim
          cases x <;> simp only [endK] at hk
          case normal => exact fin hk
          case ret => exact fin hk
    · cases hf
  · cases hf

theorem ACalls.mono {f : Nat} {args : List AV} {K K' : AV → St → Prop} (h : ACalls C f args st K) (hk : ∀ r st', K r st' → K' r st') : ACalls C f args st K' := by
  intro σ w vs hR hlen hvals
  rcases h σ w vs hR hlen hvals with ⟨w1, h1, h2, h3⟩ | ⟨σ', r, v, st', w', h1, h2, h3, h4, h5⟩
  · exact .inl ⟨w1, h1, h2, h3.mono fun e w' ⟨σ', r, v, st', g1, g2, g3, g4, g5⟩ => ⟨σ', r, v, st', g1, g2, g3, g4, hk r st' g5⟩⟩
  · exact .inr ⟨σ', r, v, st', w', h1, h2, h3, h4, hk r st' h5⟩

/-! ### Weaker values -/

/-- b says less than a. -/
def Le (a b : AV) : Prop := ∀ σ w v, Val σ w a v → Val σ w b v
theorem Le.refl (a : AV) : Le a a := fun _ _ _ h => h
theorem Le.trans {a b c : AV} (h : Le a b) (k : Le b c) : Le a c := fun σ w v hv => k σ w v (h σ w v hv)
theorem Le.sh1 (a : AV) : Le a a.sh1 := fun _ _ _ h => h.sh1'
theorem Le.sh (a : AV) : Le a a.sh := fun _ _ _ h => h.sh'
theorem Le.sl (tk : Tk) (es : List AV) : Le (.sl tk es) (.sl .sh es) := Le.sh1 _
theorem Le.tup {as bs : List AV} (h : as.length = bs.length) (hv : ∀ (i : Nat) (a b : AV), as[i]? = some a → bs[i]? = some b → Le a b) : Le (.tup as) (.tup bs) := by
  intro σ w v hv'
  cases hv' with
  | tup _ vs hl hvv =>
    refine .tup _ vs (by omega) fun i c u hc hu => ?_
    have hi : i < as.length := by have := (List.getElem?_eq_some_iff.1 hc).1; omega
    have ha : as[i]? = some as[i] := by simp [hi]
    exact hv i _ _ ha hc σ w u (hvv i _ u ha hu)

theorem ACalls.args_le {f : Nat} {args args' : List AV} {K : AV → St → Prop} (h : ACalls C f args' st K) (hl : args.length = args'.length) (hle : ∀ (i : Nat) (a b : AV), args[i]? = some a → args'[i]? = some b → Le a b) : ACalls C f args st K := by
  intro σ w vs hR hlen hvals
  refine h σ w vs hR (by omega) fun i b v hb hv => ?_
  have hi : i < args.length := by have := (List.getElem?_eq_some_iff.1 hb).1; omega
  have ha : args[i]? = some args[i] := by simp [hi]
  exact hle i _ b ha hb σ w v (hvals i _ v ha hv)

theorem ACalls.res {f : Nat} {args : List AV} {K K' : AV → St → Prop} (h : ACalls C f args st K) (hk : ∀ r st', K r st' → ∃ r', Le r r' ∧ K' r' st') : ACalls C f args st K' := by
  intro σ w vs hR hlen hvals
  rcases h σ w vs hR hlen hvals with ⟨w1, h1, h2, h3⟩ | ⟨σ', r, v, st', w', h1, h2, h3, h4, h5⟩
  · refine .inl ⟨w1, h1, h2, h3.mono fun e w' ⟨σ', r, v, st', g1, g2, g3, g4, g5⟩ => ?_⟩
    obtain ⟨r', hle, hk'⟩ := hk r st' g5
    exact ⟨σ', r', v, st', g1, g2, g3, hle _ _ _ g4, hk'⟩
  · obtain ⟨r', hle, hk'⟩ := hk r st' h5
    exact .inr ⟨σ', r', v, st', w', h1, h2, h3, hle _ _ _ h4, hk'⟩

/-! ### What is asked may be weakened -/
theorem bndW_mono {e : Env} {o : Option Opd} {d : Int} {K K' : Int → Prop} (h : ∀ i, K i → K' i) (k : bndW e o d K) : bndW e o d K' := by
  cases o with
  | none => exact h _ k
  | some x =>
    simp only [bndW] at *
    split at k
    · exact h _ k
    · exact k.elim

theorem eqW_mono {kd : Nat} {x y : Opd} {u v : AV} {K K' : Bool → Prop} (h : ∀ i, K i → K' i) (k : eqW kd x y u v K) : eqW kd x y u v K' := by
  unfold eqW at *
  split at k <;> first
    | (exact ⟨k.1, k.2.1, h _ k.2.2⟩)
    | (exact ⟨k.1, fun b => h _ (k.2 b)⟩)
    | (exact ⟨k.1, h _ k.2⟩)
    | (exact k.elim)

theorem arithW_mono {op : BinOp} {k : IntKind} {a b : Int} {K K' : Int → Prop} (h : ∀ i, K i → K' i) (hk : arithW op k a b K) : arithW op k a b K' := by
  unfold arithW at *
  cases op <;> simp only at hk ⊢ <;> first
    | (exact h _ hk)
    | (exact ⟨hk.1, h _ hk.2⟩)
    | (exact hk)

theorem opW_mono {o : AOp} {K K' : AV → St → Prop} (hk : ∀ v st, K v st → K' v st) (h : opW C o e st K) : opW C o e st K' := by
  cases o
  case bad => exact h
  case frz d =>
    simp only [opW] at *
    split at h
    · split at h
      · exact ⟨h.1, hk _ _ h.2⟩
      · exact h.elim
    · exact h.elim
  case mv x => exact hk _ _ h
  case pick c a b =>
    simp only [opW] at *
    split at h
    · exact hk _ _ h
    · exact h.elim
  case alloc z => exact ⟨h.1, fun id hid => hk _ _ (h.2 id hid)⟩
  case box S x => exact ⟨h.1, fun id hid => hk _ _ (h.2 id hid)⟩
  case build z ps =>
    simp only [opW] at *
    split at h
    · exact ⟨h.1, hk _ _ h.2⟩
    · exact h.elim
  case mk z m ps =>
    simp only [opW] at *
    split at h
    · exact ⟨h.1, fun id hid => hk _ _ (h.2 id hid)⟩
    · exact h.elim
  case load g S a =>
    simp only [opW] at *
    split at h
    · split at h
      · exact ⟨h.1, h.2.1, hk _ _ h.2.2⟩
      · exact h.elim
    · exact ⟨h.1, h.2.1, hk _ _ h.2.2⟩
    · exact h.elim
  case store S a x =>
    simp only [opW] at *
    split at h
    · split at h
      · exact ⟨h.1, hk _ _ h.2⟩
      · exact h.elim
    · exact h.elim
  case nilck x =>
    simp only [opW] at *
    split at h <;> first | exact hk _ _ h | exact h.elim
  case arith op x y =>
    simp only [opW] at *
    split at h
    · exact ⟨h.1, arithW_mono (fun i hi => hk _ _ hi) h.2⟩
    · exact ⟨h.1, h.2.1, hk _ _ h.2.2⟩
    · exact h.elim
  case cmp op x y =>
    simp only [opW] at *
    split at h
    · exact ⟨h.1, h.2.1, hk _ _ h.2.2⟩
    · exact ⟨h.1, hk _ _ h.2⟩
    · exact h.elim
  case cmpB neg x y =>
    simp only [opW] at *
    split at h
    · exact hk _ _ h
    · exact h.elim
  case eqv kd neg x y =>
    simp only [opW] at *
    exact eqW_mono (fun b hb => hk _ _ hb) h
  case shift op x y =>
    simp only [opW] at *
    split at h
    · refine ⟨h.1, ?_⟩
      have h2 := h.2
      cases op <;> first | exact hk _ _ h2 | exact h2
    · exact h.elim
  case un op x =>
    simp only [opW] at *
    split at h <;> first | exact hk _ _ h | exact h.elim
  case cvI k x =>
    simp only [opW] at *
    split at h <;> first | exact hk _ _ h | exact h.elim
  case cvS x =>
    simp only [opW] at *
    split at h <;> first | exact hk _ _ h | exact h.elim
  case cvSB x =>
    simp only [opW] at *
    split at h
    · exact ⟨h.1, fun id hid => hk _ _ (h.2 id hid)⟩
    · exact h.elim
  case cvBS x =>
    simp only [opW] at *
    split at h
    · split at h
      · exact hk _ _ h
      · exact h.elim
    · exact h.elim
  case mkif t x => exact hk _ _ h
  case mkfn f a b => exact hk _ _ h
  case mksl z bytes x y =>
    simp only [opW] at *
    split at h
    · refine ⟨h.1, ?_⟩
      have h2 := h.2
      split
      · rename_i h0; rw [if_pos h0] at h2; exact fun t ht => hk _ _ (h2 t ht)
      · rename_i h0; rw [if_neg h0] at h2; exact fun t ht => hk _ _ (h2 t ht)
    · exact h.elim
  case slS x lo hi =>
    simp only [opW] at *
    split at h
    · exact bndW_mono (fun i hi => bndW_mono (fun j hj => ⟨hj.1, hk _ _ hj.2⟩) hi) h
    · exact h.elim
  case sl S x lo hi mx =>
    simp only [opW] at *
    split at h
    · cases mx with
      | none => exact bndW_mono (fun i hi => bndW_mono (fun j hj => ⟨hj.1, hj.2.1, hk _ _ hj.2.2⟩) hi) h
      | some m => exact bndW_mono (fun i hi => bndW_mono (fun j hj => bndW_mono (fun l hl => ⟨hl.1, hl.2.1, hl.2.2.1, hl.2.2.2.1, hl.2.2.2.2.1, hk _ _ hl.2.2.2.2.2⟩) hj) hi) h
    · cases mx with
      | none => exact bndW_mono (fun i hi => bndW_mono (fun j hj => ⟨hj.1, hk _ _ hj.2⟩) hi) h
      | some m => exact h.elim
    · exact h.elim
  case faddr off x =>
    simp only [opW] at *
    split at h <;> first | exact hk _ _ h | exact h.elim
  case fld g off S x =>
    simp only [opW] at *
    split at h
    · exact ⟨h.1, h.2.1, hk _ _ h.2.2⟩
    · exact h.elim
  case iaddr S x i =>
    simp only [opW] at *
    split at h
    · exact ⟨h.1, h.2.1, hk _ _ h.2.2⟩
    · exact ⟨h.1, hk _ _ h.2⟩
    · exact h.elim
  case idxS x i =>
    simp only [opW] at *
    split at h
    · exact ⟨h.1, hk _ _ h.2⟩
    · exact h.elim
  case ext x i =>
    simp only [opW] at *
    split at h
    · exact ⟨h.1, hk _ _ h.2⟩
    · exact h.elim
  case call f args =>
    simp only [opW] at *
    split at h
    · exact ACalls.mono h hk
    · exact h.elim
  case app S bytes x y =>
    simp only [opW] at *
    split at h
    · refine ⟨h.1, h.2.1, ?_⟩
      have h2 := h.2.2
      split at h2
      · exact ⟨h2.1, h2.2.1, fun tk st' a b c => hk _ _ (h2.2.2 tk st' a b c)⟩
      · split at h2
        · exact ⟨h2.1, h2.2.1, fun tk st' a b c => hk _ _ (h2.2.2 tk st' a b c)⟩
        · exact h2.elim
      · exact ⟨h2.1, h2.2.1, fun tk st' a b c => hk _ _ (h2.2.2 tk st' a b c)⟩
      · exact h2.elim
    · exact h.elim
  case len x =>
    simp only [opW] at *
    split at h <;> first | exact hk _ _ h | exact h.elim
  case lenS x =>
    simp only [opW] at *
    split at h <;> first | exact hk _ _ h | exact h.elim
  case cap x =>
    simp only [opW] at *
    split at h <;> first | exact hk _ _ h | (exact fun c hc => hk _ _ (h c hc)) | exact h.elim
  case copy S d s =>
    simp only [opW] at *
    split at h
    · split at h
      · split at h
        · exact ⟨h.1, h.2.1, hk _ _ h.2.2⟩
        · exact h.elim
      · exact h.elim
    · exact h.elim
  case min2 x y =>
    simp only [opW] at *
    split at h <;> first | exact hk _ _ h | exact h.elim
  case max2 x y =>
    simp only [opW] at *
    split at h <;> first | exact hk _ _ h | exact h.elim

theorem VG_mono {g : AV} {want : Bool} {A A' B B' : Env → St → Prop} (ha : A e st → A' e st) (hb : B e st → B' e st) (h : VG g want A B e st) : VG g want A' B' e st := by
  cases g <;> first
    | exact ⟨fun k => ha (h.1 k), fun k => hb (h.2 k)⟩
    | exact hb h
    | exact h

theorem vcOps_mono {K K' : Env → St → Prop} (hk : ∀ e st, K e st → K' e st) : ∀ (l : List AOper) (e : Env) (st : St), vcOps C K l e st → vcOps C K' l e st
  | [], e, st, h => hk e st h
  | o :: l, e, st, h => by
    simp only [vcOps] at *
    split
    · rename_i hg
      simp only [hg] at h
      exact opW_mono (fun v st' hv => vcOps_mono hk l _ st' hv) h
    · rename_i s want hg
      simp only [hg] at h
      exact VG_mono (fun h => opW_mono (fun v st' hv => vcOps_mono hk l _ st' hv) h) (fun h => vcOps_mono hk l _ st h) h

theorem vcDraw_mono {st0 : St} {K K' : Env → Prop} (hk : ∀ e, K e → K' e) : ∀ (l : List AOper) (e : Env), vcDraw C st0 K l e → vcDraw C st0 K' l e
  | [], e, h => hk e h
  | o :: l, e, h => by
    simp only [vcDraw] at *
    split
    · rename_i hg
      simp only [hg] at h
      obtain ⟨v, h1, h2⟩ := h
      exact ⟨v, h1, vcDraw_mono hk l _ h2⟩
    · rename_i s want hg
      simp only [hg] at h
      split
      · rename_i b hb
        simp only [hb] at h
        exact ⟨fun k => by obtain ⟨v, h1, h2⟩ := h.1 k; exact ⟨v, h1, vcDraw_mono hk l _ h2⟩, fun k => vcDraw_mono hk l _ (h.2 k)⟩
      · rename_i vs hb
        simp only [hb] at h
        exact vcDraw_mono hk l _ h
      · rename_i h1 h2
        split at h
        · rename_i b hb; exact absurd hb (h1 b)
        · rename_i vs hb; exact absurd hb (h2 vs)
        · exact h

theorem vc_mono : ∀ (c : ACode) {K K' : Post}, (∀ x e st, K x e st → K' x e st) → ∀ (e : Env) (st : St), vc C c K e st → vc C c K' e st
  | .skip, _, _, hk, e, st, h => hk _ _ _ h
  | .bad, _, _, _, _, _, h => h
  | .ops l, _, _, hk, e, st, h => vcOps_mono (fun e st h => hk _ e st h) l e st h
  | .draw l, _, _, hk, e, st, h => vcDraw_mono (fun e h st' hs => hk _ _ _ (h st' hs)) l e h
  | .seq a b, _, _, hk, e, st, h => vc_mono a (fun x e st h => by cases x <;> first | exact vc_mono b hk e st h | exact hk _ e st h) e st h
  | .cond c x y, _, _, hk, e, st, h => by
    simp only [vc, VCond] at *
    split at h
    · exact ⟨fun k => vc_mono x hk e st (h.1 k), fun k => vc_mono y hk e st (h.2 k)⟩
    · exact h.elim
  | .block id b, _, _, hk, e, st, h => vc_mono b (fun x e st h => by
      cases x <;> simp only [blockK] at * <;> first
        | exact hk _ e st h
        | (split <;> rename_i hi
           · rw [if_pos hi] at h; exact hk _ e st h
           · rw [if_neg hi] at h; exact hk _ e st h)) e st h
  | .loop b, _, _, hk, e, st, h => by
    obtain ⟨J, h0, hr⟩ := h
    exact ⟨J, h0, fun n e st hj => vc_mono b (fun x e st h => by cases x <;> first | exact h | exact hk _ e st h) e st (hr n e st hj)⟩
  | .exit id, _, _, hk, e, st, h => hk _ e st h
  | .scope b, _, _, hk, e, st, h => vc_mono b (fun x e st h => by cases x <;> first | exact h.elim | exact hk _ e st h) e st h
  | .ret, _, _, hk, e, st, h => hk _ e st h

/-- A loop that counts up. -/
theorem VLoop.up {b : ACode} {K : Post} {e : Env} {st : St} (N : Nat) (J : Nat → Env → St → Prop) (h0 : J 0 e st)
    (hr : ∀ k e st, J k e st → vc C b (thenK (fun e' st' => k < N ∧ J (k + 1) e' st') K) e st) : VLoop (vc C b) K e st :=
  ⟨fun n e st => ∃ k, n = N - k ∧ J k e st, ⟨N, 0, rfl, h0⟩, fun n e st ⟨k, hn, hj⟩ => vc_mono b (fun x e st h => by
    cases x <;> first
      | (obtain ⟨hk, hj⟩ := h; exact ⟨N - (k + 1), by omega, k + 1, rfl, hj⟩)
      | exact h) e st (hr k e st hj)⟩

/-- A loop by a number that falls. -/
theorem VLoop.down {b : ACode} {K : Post} {e : Env} {st : St} (J : Nat → Env → St → Prop) (n : Nat) (h0 : J n e st)
    (hr : ∀ n e st, J n e st → vc C b (thenK (fun e' st' => ∃ m, m < n ∧ J m e' st') K) e st) : VLoop (vc C b) K e st := ⟨J, ⟨n, h0⟩, hr⟩

/-- Something is said of what lies between two pieces of code. -/
theorem vc_cut {a b : ACode} {K : Post} {e : Env} {st : St} (M : Env → St → Prop) (h : vc C a (thenK M K) e st) (k : ∀ e st, M e st → vc C b K e st) : vc C (.seq a b) K e st :=
  vc_mono a (fun x e st h => by cases x <;> first | exact k e st h | exact h) e st h
end
end Go.AW
