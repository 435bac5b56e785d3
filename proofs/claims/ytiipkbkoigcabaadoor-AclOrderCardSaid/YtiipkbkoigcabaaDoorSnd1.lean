/- The operations that make no memory and turn none do what the small language says: a library of this claim. No condition. -/
import Derived.Test.YtiipkbkoigcabaaDoorVc
namespace Go.AW
open Go Go.RowKit

structure EnvRel (σ : Sig) (w : World) (n : Nat) (e : Env) (tmps : Array Value) : Prop where
  size : tmps.size = n
  val : ∀ t, Val σ w (e.get t) (tmps.getD t undef)

theorem EnvRel.ext {σ σ' : Sig} {w w' : World} {n : Nat} {e : Env} {tmps : Array Value} (h : EnvRel σ w n e tmps) (x : Ext σ w σ' w') : EnvRel σ' w' n e tmps :=
  ⟨h.size, fun t => (h.val t).ext x⟩

theorem Val.ofConst (σ : Sig) (w : World) (v : Value) : Val σ w (ofConst v) v := by
  unfold AW.ofConst
  split
  · exact .bool _
  · exact .int _ _
  · exact .str _
  · exact .nilptr
  · exact .slnil
  · exact .niliface
  · exact .nilfn
  · exact .val _

theorem EnvRel.ev {σ : Sig} {w : World} {n : Nat} {e : Env} {a : Act} (h : EnvRel σ w n e a.tmps) (x : Operand) : Val σ w (e.ev (cOpd x)) (a.eval x) := by
  cases x with
  | tmp t => exact h.val t
  | const v => exact Val.ofConst σ w v
  | global g => exact .val _
  | func f => exact .fn _ _ _ _ _ rfl rfl (by simp) (by simp)

theorem getD_set (ts : Array Value) (d t : Nat) (v u : Value) : (ts.setIfInBounds d v).getD t u = if d = t ∧ d < ts.size then v else ts.getD t u := by
  simp only [Array.getD_eq_getD_getElem?, Array.getElem?_setIfInBounds]
  by_cases h : d = t
  · subst h
    by_cases hd : d < ts.size
    · simp [hd]
    · simp [hd]
  · simp [h]

theorem EnvRel.put {σ : Sig} {w : World} {n : Nat} {e : Env} {a : Act} (h : EnvRel σ w n e a.tmps) {dst : Option Nat} (hd : ∀ d, dst = some d → d < n) {av : AV} {v : Value} (hv : Val σ w av v) :
    EnvRel σ w n (e.put dst av) (a.put dst v).tmps := by
  cases dst with
  | none => exact h
  | some d =>
    have hdn := hd d rfl
    refine ⟨by simp [Act.put, h.size], fun t => ?_⟩
    simp only [Act.put, Env.put, Env.get, getD_set]
    by_cases e : d = t
    · rw [if_pos e, if_pos ⟨e, by rw [h.size]; exact hdn⟩]; exact hv
    · rw [if_neg e, if_neg (fun k => e k.1)]; exact h.val t

/-- What a step needs of what comes behind it. -/
def Nx (C : Ctx) (σ : Sig) (w : World) (K : AV → St → Prop) (N : Act → World → Prop) (a : Act) (dst : Option Nat) : Prop :=
  ∀ σ' st' w' av v, Ext σ w σ' w' → R C σ' st' w' → Val σ' w' av v → K av st' → N (a.put dst v) w'

section
variable {C : Ctx} {σ : Sig} {st : St} {w : World} {n : Nat} {e : Env} {a : Act} {o : Oper} {K : AV → St → Prop} {N : Act → World → Prop} {Q : Exit → Act → World → Prop}

theorem wp_value {v : Value} {w' : World} (h : (execOp a.eval o).run C.P w = .ok (.value v) w') (hn : N (a.put o.dst v) w') : o.wp C.P a w N Q := by
  unfold Oper.wp; rw [h]; exact hn

theorem wp_skip' {w' : World} (h : (execOp a.eval o).run C.P w = .ok .skip w') (hn : N (a.put o.dst undef) w') : o.wp C.P a w N Q := by
  unfold Oper.wp; rw [h]; exact hn

/-- A value in the same world. -/
theorem wp_same (hR : R C σ st w) (hN : Nx C σ w K N a o.dst) {av : AV} {v : Value} (h : (execOp a.eval o).run C.P w = .ok (.value v) w) (hv : Val σ w av v) (hk : K av st) : o.wp C.P a w N Q :=
  wp_value h (hN σ st w av v (Ext.refl σ w) hR hv hk)

theorem s_mv {x : Operand} (ho : o.op = .move x ∨ o.op = .assign x) (h : opW C (.mv (cOpd x)) e st K) (hR : R C σ st w) (hE : EnvRel σ w n e a.tmps) (hN : Nx C σ w K N a o.dst) : o.wp C.P a w N Q := by
  refine wp_same hR hN (v := a.eval x) ?_ (hE.ev x) h
  rcases ho with ho | ho <;> simp [execOp, ho]

theorem val_bool {av : AV} {b : Bool} {v : Value} (h : Val σ w av v) (e : av = .bool b) : v = .bool b := by
  subst e; cases h; rfl
theorem val_int {av : AV} {k : IntKind} {i : Int} {v : Value} (h : Val σ w av v) (e : av = .int k i) : v = .int k i := by
  subst e; cases h; rfl
theorem val_str {av : AV} {s : List UInt8} {v : Value} (h : Val σ w av v) (e : av = .str s) : ∃ b : ByteArray, v = .string b ∧ b.data.toList = s := by
  subst e; cases h; exact ⟨_, rfl, rfl⟩

theorem s_pick {c x y : Operand} (ho : o.op = .pick c x y) (h : opW C (.pick (cOpd c) (cOpd x) (cOpd y)) e st K) (hR : R C σ st w) (hE : EnvRel σ w n e a.tmps) (hN : Nx C σ w K N a o.dst) : o.wp C.P a w N Q := by
  simp only [opW] at h
  split at h
  · rename_i t ht
    have hc := val_bool (hE.ev c) ht
    refine wp_same hR hN (v := if t then a.eval x else a.eval y) ?_ ?_ h
    · simp [execOp, ho, hc, asBool]
    · split
      · exact hE.ev x
      · exact hE.ev y
  · exact h.elim

theorem toList_eq (s : ByteArray) : s.toList = s.data.toList := ByteArray.toList_eq s

theorem eqGuard_int (op : BinOp) (t : TypeId) (x y : Operand) (k : IntKind) (i : Int) (v : Value) : eqGuard op t x y (.int k i) v = pure () := by cases op <;> rfl
theorem eqGuard_str (op : BinOp) (t : TypeId) (x y : Operand) (s : ByteArray) (v : Value) : eqGuard op t x y (.string s) v = pure () := by cases op <;> rfl
theorem eqGuard_bool (op : BinOp) (t : TypeId) (x y : Operand) (s : Bool) (v : Value) : eqGuard op t x y (.bool s) v = pure () := by cases op <;> rfl

theorem str_mk (b : ByteArray) (l : List UInt8) (h : b.data.toList = l) : b = ⟨l.toArray⟩ := by
  cases b with
  | mk d => simp at h; subst h; simp

theorem s_arith {op : BinOp} {t u : TypeId} {x y : Operand} (ho : o.op = .binOp op t x y u) (h : opW C (.arith op (cOpd x) (cOpd y)) e st K) (hR : R C σ st w) (hE : EnvRel σ w n e a.tmps) (hN : Nx C σ w K N a o.dst) : o.wp C.P a w N Q := by
  simp only [opW] at h
  split at h
  · rename_i k i k' j hx hy
    obtain ⟨rfl, h⟩ := h
    have vx := val_int (hE.ev x) hx
    have vy := val_int (hE.ev y) hy
    have run : ∀ v : Value, (binOp op t (.int k i) (.int k j)).run C.P w = .ok v w → (execOp a.eval o).run C.P w = .ok (.value v) w := by
      intro v hv
      simp [execOp, ho, vx, vy, eqGuard_int, hv]
    unfold arithW at h
    cases op <;> simp only at h
    case add => exact wp_same hR hN (run _ (by simp [binOp, Op.intArith])) (.int _ _) h
    case sub => exact wp_same hR hN (run _ (by simp [binOp, Op.intArith])) (.int _ _) h
    case mul => exact wp_same hR hN (run _ (by simp [binOp, Op.intArith])) (.int _ _) h
    case quo => exact wp_same hR hN (run _ (by simp [binOp, Op.intDiv, h.1])) (.int _ _) h.2
    case rem => exact wp_same hR hN (run _ (by simp [binOp, Op.intDiv, h.1])) (.int _ _) h.2
    case and => exact wp_same hR hN (run _ (by simp [binOp, intBits_and])) (.int _ _) h
    case or => exact wp_same hR hN (run _ (by simp [binOp, intBits_or])) (.int _ _) h
    case xor => exact wp_same hR hN (run _ (by simp [binOp, intBits_xor])) (.int _ _) h
    case andNot => exact wp_same hR hN (run _ (by simp [binOp, intBits_andNot])) (.int _ _) h
  · rename_i s s' hx hy
    obtain ⟨rfl, hl, h⟩ := h
    obtain ⟨b, vx, rfl⟩ := val_str (hE.ev x) hx
    obtain ⟨b', vy, rfl⟩ := val_str (hE.ev y) hy
    have hl' : ¬ (((b.size + b'.size : Nat) : Int) > IntKind.i64.max) := by
      have e1 : b.data.toList.length = b.size := by simp
      have e2 : b'.data.toList.length = b'.size := by simp
      have e3 : IntKind.i64.max = 9223372036854775807 := rfl
      omega
    refine wp_same hR hN (v := .string (b ++ b')) ?_ ?_ h
    · simp only [execOp, ho, vx, vy, eqGuard_str, binOp, Op.stringOp, hl', if_false, Sem.run_bind, Sem.run_pure, Result.andThen_ok]
    · have : (b ++ b').data.toList = b.data.toList ++ b'.data.toList := by simp
      rw [← this]
      exact .str _
  · exact h.elim

theorem s_cmp {op : BinOp} {t u : TypeId} {x y : Operand} (ho : o.op = .binOp op t x y u) (h : opW C (.cmp op (cOpd x) (cOpd y)) e st K) (hR : R C σ st w) (hE : EnvRel σ w n e a.tmps) (hN : Nx C σ w K N a o.dst) : o.wp C.P a w N Q := by
  simp only [opW] at h
  split at h
  · rename_i k i k' j hx hy
    obtain ⟨rfl, hc, h⟩ := h
    have vx := val_int (hE.ev x) hx
    have vy := val_int (hE.ev y) hy
    refine wp_same hR hN (v := .bool (cmpI op i j)) ?_ (.bool _) h
    cases op <;> first
      | (simp [isCmp] at hc; done)
      | simp [execOp, ho, vx, vy, eqGuard_int, binOp, Op.intCmp, cmpI]
  · rename_i s s' hx hy
    obtain ⟨hc, h⟩ := h
    obtain ⟨b, vx, rfl⟩ := val_str (hE.ev x) hx
    obtain ⟨b', vy, rfl⟩ := val_str (hE.ev y) hy
    refine wp_same hR hN (v := .bool (cmpS op b.data.toList b'.data.toList)) ?_ (.bool _) h
    cases op <;> first
      | (simp [isCmp] at hc; done)
      | simp [execOp, ho, vx, vy, eqGuard_str, binOp, Op.stringOp, cmpS, toList_eq]
  · exact h.elim

theorem eqKind_bool {t : TypeId} (h : eqKind C.P t = 1) : C.P.underlying t = some .bool := by
  unfold eqKind at h
  split at h <;> simp_all

theorem s_cmpB {neg : Bool} {op : BinOp} (hop : op = if neg then .neq else .eql) {t u : TypeId} {x y : Operand} (ho : o.op = .binOp op t x y u) (ht : eqKind C.P t = 1) (h : opW C (.cmpB neg (cOpd x) (cOpd y)) e st K) (hR : R C σ st w) (hE : EnvRel σ w n e a.tmps) (hN : Nx C σ w K N a o.dst) : o.wp C.P a w N Q := by
  simp only [opW] at h
  split at h
  · rename_i i j hx hy
    have vx := val_bool (hE.ev x) hx
    have vy := val_bool (hE.ev y) hy
    have hu := eqKind_bool ht
    refine wp_same hR hN (v := .bool (if neg then !(i == j) else i == j)) ?_ (.bool _) h
    cases neg
    · subst hop
      simp only [if_false, Bool.false_eq_true] at ho ⊢
      simp only [execOp, ho, vx, vy, eqGuard_bool, Sem.run_bind, Sem.run_pure, Result.andThen_ok, run_eql_bool w t i j hu]
    · subst hop
      simp only [if_true] at ho ⊢
      simp only [execOp, ho, vx, vy, eqGuard_bool, Sem.run_bind, Sem.run_pure, Result.andThen_ok, run_neq_bool w t i j hu]
  · exact h.elim

theorem s_shift {op : BinOp} (hop : op = .shl ∨ op = .shr) {t u : TypeId} {x y : Operand} (ho : o.op = .binOp op t x y u) (h : opW C (.shift op (cOpd x) (cOpd y)) e st K) (hR : R C σ st w) (hE : EnvRel σ w n e a.tmps) (hN : Nx C σ w K N a o.dst) : o.wp C.P a w N Q := by
  simp only [opW] at h
  split at h
  · rename_i k i k' j hx hy
    obtain ⟨h0, h⟩ := h
    have vx := val_int (hE.ev x) hx
    have vy := val_int (hE.ev y) hy
    have hn : ¬ j < 0 := by omega
    rcases hop with rfl | rfl
    · simp only at h
      refine wp_same hR hN ?_ (.int _ _) h
      simp only [execOp, ho, vx, vy, eqGuard_int, binOp, Op.shift, hn, if_false, Sem.run_bind, Sem.run_pure, Result.andThen_ok]
    · simp only at h
      refine wp_same hR hN ?_ (.int _ _) h
      simp only [execOp, ho, vx, vy, eqGuard_int, binOp, Op.shift, hn, if_false, Sem.run_bind, Sem.run_pure, Result.andThen_ok]
  · exact h.elim

theorem s_un {op : UnOp} {t : TypeId} {x : Operand} (ho : o.op = .unOp op t x) (h : opW C (.un op (cOpd x)) e st K) (hR : R C σ st w) (hE : EnvRel σ w n e a.tmps) (hN : Nx C σ w K N a o.dst) : o.wp C.P a w N Q := by
  simp only [opW] at h
  split at h
  · rename_i b hx
    have vx := val_bool (hE.ev x) hx
    exact wp_same hR hN (by simp only [execOp, ho, vx, Op.unary, Sem.run_bind, Sem.run_pure, Result.andThen_ok]) (.bool _) h
  · rename_i k i hx
    have vx := val_int (hE.ev x) hx
    exact wp_same hR hN (by simp only [execOp, ho, vx, Op.unary, Op.intArith, Sem.run_bind, Sem.run_pure, Result.andThen_ok]) (.int _ _) h
  · rename_i k i hx
    have vx := val_int (hE.ev x) hx
    exact wp_same hR hN (by simp only [execOp, ho, vx, Op.unary, intBits_xor, Sem.run_bind, Sem.run_pure, Result.andThen_ok]) (.int _ _) h
  · exact h.elim

theorem s_cvI {k : IntKind} {src dst : TypeId} {x : Operand} (ho : o.op = .convert src dst x) {d : TypeDesc} (hs : C.P.underlying src = some d) (hd : C.P.underlying dst = some (.int k)) (h : opW C (.cvI k (cOpd x)) e st K) (hR : R C σ st w) (hE : EnvRel σ w n e a.tmps) (hN : Nx C σ w K N a o.dst) : o.wp C.P a w N Q := by
  simp only [opW] at h
  split at h
  · rename_i k' i hx
    have vx := val_int (hE.ev x) hx
    refine wp_same hR hN ?_ (.int _ _) h
    simp [execOp, ho, vx, convert, run_underlying hs, run_underlying hd, Conv.intToInt]
  · exact h.elim

theorem s_cvS {src dst : TypeId} {x : Operand} (ho : o.op = .convert src dst x) (hs : C.P.underlying src = some .string) (hd : C.P.underlying dst = some .string) (h : opW C (.cvS (cOpd x)) e st K) (hR : R C σ st w) (hE : EnvRel σ w n e a.tmps) (hN : Nx C σ w K N a o.dst) : o.wp C.P a w N Q := by
  simp only [opW] at h
  split at h
  · rename_i s hx
    obtain ⟨b, vx, rfl⟩ := val_str (hE.ev x) hx
    refine wp_same hR hN ?_ (.str b) h
    simp [execOp, ho, vx, convert, run_underlying hs, run_underlying hd]
  · exact h.elim

theorem s_mkif {t : TypeId} {x : Operand} (ho : o.op = .makeInterface t x) {d : TypeDesc} (hs : C.P.underlying t = some d) (hd : ∀ ms, d ≠ .interface ms) (h : opW C (.mkif t (cOpd x)) e st K) (hR : R C σ st w) (hE : EnvRel σ w n e a.tmps) (hN : Nx C σ w K N a o.dst) : o.wp C.P a w N Q := by
  simp only [opW] at h
  refine wp_same hR hN ?_ (.iface _ _ _ (hE.ev x)) h
  cases d <;> first
    | exact absurd rfl (hd _)
    | simp [execOp, ho, Instr.makeInterface, run_underlying hs]

theorem val_list {l : List Operand} (hE : EnvRel σ w n e a.tmps) : ∀ (i : Nat) (c : AV) (v : Value), (evs e (l.map cOpd))[i]? = some c → (l.map a.eval)[i]? = some v → Val σ w c v := by
  intro i c v hc hv
  simp only [evs, List.map_map, List.getElem?_map] at hc hv
  cases hl : l[i]? with
  | none => simp [hl] at hc
  | some x =>
    simp [hl] at hc hv
    subst hc; subst hv
    exact hE.ev x

theorem s_mkfn {f : Nat} {x y : Array Operand} (ho : o.op = .makeFunc (.func f) x y) (h : opW C (.mkfn f (x.toList.map cOpd) (y.toList.map cOpd)) e st K) (hR : R C σ st w) (hE : EnvRel σ w n e a.tmps) (hN : Nx C σ w K N a o.dst) : o.wp C.P a w N Q := by
  simp only [opW] at h
  refine wp_same hR hN (v := .func (.func f) (x.map a.eval) (y.map a.eval)) (by simp [execOp, ho, Instr.makeFunc]) ?_ h
  refine .fn _ _ _ _ _ (by simp [evs]) (by simp [evs]) ?_ ?_
  · intro i c v hc hv
    exact val_list (l := x.toList) hE i c v hc (by simpa using hv)
  · intro i c v hc hv
    exact val_list (l := y.toList) hE i c v hc (by simpa using hv)

theorem s_ext {i : Nat} {x : Operand} (ho : o.op = .extract x i) (h : opW C (.ext (cOpd x) i) e st K) (hR : R C σ st w) (hE : EnvRel σ w n e a.tmps) (hN : Nx C σ w K N a o.dst) : o.wp C.P a w N Q := by
  simp only [opW] at h
  split at h
  · rename_i vs hx
    obtain ⟨hi, h⟩ := h
    have hv := hE.ev x
    rw [hx] at hv
    generalize hu : a.eval x = u at hv
    cases hv with
    | tup _ us hl hv =>
      have hi' : i < us.size := by omega
      refine wp_same hR hN (v := us[i]) ?_ (hv i (vs.getD i .undef) us[i] ?_ (by simp [hi'])) h
      · simp [execOp, ho, hu, Instr.extract, hi']
      · simp [List.getD_eq_getElem?_getD, hi]
  · exact h.elim

theorem s_min2 {ts : Array TypeId} {x y : Operand} (ho : o.op = .call { callee := .builtin .min, args := #[x, y], argTypes := ts }) (h : opW C (.min2 (cOpd x) (cOpd y)) e st K) (hR : R C σ st w) (hE : EnvRel σ w n e a.tmps) (hN : Nx C σ w K N a o.dst) : o.wp C.P a w N Q := by
  simp only [opW] at h
  split at h
  · rename_i k i k' j hx hy
    have vx := val_int (hE.ev x) hx
    have vy := val_int (hE.ev y) hy
    refine wp_same hR hN ?_ (.int _ _) h
    simp only [execOp, ho, resolve, invoke, builtin, Sem.run_bind, Sem.run_pure, Result.andThen_ok, List.map_toArray, List.map_cons, List.map_nil, vx, vy, run_min_int2]
  · exact h.elim

theorem s_max2 {ts : Array TypeId} {x y : Operand} (ho : o.op = .call { callee := .builtin .max, args := #[x, y], argTypes := ts }) (h : opW C (.max2 (cOpd x) (cOpd y)) e st K) (hR : R C σ st w) (hE : EnvRel σ w n e a.tmps) (hN : Nx C σ w K N a o.dst) : o.wp C.P a w N Q := by
  simp only [opW] at h
  split at h
  · rename_i k i k' j hx hy
    have vx := val_int (hE.ev x) hx
    have vy := val_int (hE.ev y) hy
    refine wp_same hR hN ?_ (.int _ _) h
    simp only [execOp, ho, resolve, invoke, builtin, Sem.run_bind, Sem.run_pure, Result.andThen_ok, List.map_toArray, List.map_cons, List.map_nil, vx, vy, run_max_int2]
  · exact h.elim

theorem s_nilck {x : Operand} (ho : o.op = .nilCheck x) (h : opW C (.nilck (cOpd x)) e st K) (hR : R C σ st w) (hE : EnvRel σ w n e a.tmps) (hN : Nx C σ w K N a o.dst) : o.wp C.P a w N Q := by
  simp only [opW] at h
  have hv := hE.ev x
  split at h
  · rename_i id off hx
    rw [hx] at hv
    generalize hu : a.eval x = u at hv
    cases hv with
    | ptr _ _ b hp => exact wp_same hR hN (by simp [execOp, ho, hu]) (.ptr id off b hp) h
  · rename_i cs hx
    rw [hx] at hv
    generalize hu : a.eval x = u at hv
    cases hv with
    | rptr _ vs b o' hl hc hv hg => exact wp_same hR hN (by simp [execOp, ho, hu]) (.rptr cs vs b o' hl hc hv hg) h
  · rename_i f as bs hx
    rw [hx] at hv
    generalize hu : a.eval x = u at hv
    cases hv with
    | fn _ _ _ us vs h1 h2 h3 h4 => exact wp_same hR hN (by simp [execOp, ho, hu]) (.fn _ as bs us vs h1 h2 h3 h4) h
  · exact h.elim

theorem val_bnd {av : AV} {k : IntKind} {i : Int} {v : Value} (h : Val σ w av v) (e : av = .int k i) : v = .int k i := val_int h e

end
end Go.AW
