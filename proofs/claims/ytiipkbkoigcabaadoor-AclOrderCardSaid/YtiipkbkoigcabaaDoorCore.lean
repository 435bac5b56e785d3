/- Abstract values and states of a Go run, and what it means that a world shows them: a library of this claim, generic in the program. No condition. -/
import Derived.Calls
import Derived.StillTail
import Derived.Scope
import Derived.Below
import Derived.Laws.AppendOwn
import Derived.Laws.Slices
import Derived.Laws.Strings
import Derived.Laws.Small
import Derived.Laws.BytesArg
namespace Go.AW
open Go Go.RowKit

/-- How a slice may be appended to. nil: the nil slice; zero: no capacity; sh: not at all; tip: it is the last of its row (sz cells an element). -/
inductive Tk where
  | nil | zero | sh
  | tip (t sz : Nat)

/-- Abstract values. -/
inductive AV where
  | undef
  | int (k : IntKind) (n : Int)
  | bool (b : Bool)
  | str (s : List UInt8)
  | nilptr
  | ptr (id off : Nat)
  | rptr (cs : List AV)
  | sl (tk : Tk) (es : List AV)
  | ref (id off len cap : Nat)
  | agg (cs : List AV)
  | tup (vs : List AV)
  | iface (t : TypeId) (v : AV)
  | niliface
  | fn (f : Fn) (first captured : List AV)
  | nilfn
  | val (v : Value)

instance : Inhabited AV := ⟨.undef⟩

/-- Where an abstract name lies: a block of its own, or the end of a row that grows (block, end, top). -/
inductive Pl where
  | obj (b : Nat)
  | tok (b e top : Nat)

/-- The ghost state: where names lie, and which cells are seen by immutable values. -/
structure Sig where
  pl : Nat → Option Pl
  vis : Nat → Nat → Prop

def AV.one : AV → Bool
  | .int .. | .bool _ | .str _ | .nilptr | .ptr .. | .rptr _ | .sl .. | .ref .. | .iface .. | .niliface | .fn .. | .nilfn => true
  | _ => false

def AV.cells : AV → List AV
  | .agg cs => cs
  | v => [v]

def AV.csize (v : AV) : Nat := v.cells.length

/-- Good as the content of cells. -/
def AV.good : AV → Bool
  | .agg cs => cs.all AV.one
  | v => v.one

def TipAt (σ : Sig) (tk : Tk) (b o n sz cap : Nat) : Prop :=
  match tk with
  | .tip t s => s = sz ∧ σ.pl t = some (.tok b (o + n * sz) (o + cap * sz))
  | .sh => True
  | _ => False

inductive Val (σ : Sig) (w : World) : AV → Value → Prop
  | undef (v : Value) : Val σ w .undef v
  | int (k : IntKind) (n : Int) : Val σ w (.int k n) (.int k n)
  | bool (b : Bool) : Val σ w (.bool b) (.bool b)
  | str (s : ByteArray) : Val σ w (.str s.data.toList) (.string s)
  | nilptr : Val σ w .nilptr (.pointer none)
  | ptr (id off b : Nat) (h : σ.pl id = some (.obj b)) : Val σ w (.ptr id off) (.pointer (some ⟨b, off, none⟩))
  | rptr (cs : List AV) (vs : List Value) (b o : Nat) (hl : cs.length = vs.length)
      (hc : ∀ (i : Nat) (v : Value), vs[i]? = some v → σ.vis b (o + i) ∧ w.cell? ⟨b, o + i, none⟩ = some v)
      (hv : ∀ (i : Nat) (c : AV) (v : Value), cs[i]? = some c → vs[i]? = some v → Val σ w c v)
      (hg : ∀ c : AV, c ∈ cs → c.one = true) : Val σ w (.rptr cs) (.pointer (some ⟨b, o, none⟩))
  | slnil : Val σ w (.sl .nil []) (.slice none 0 0)
  | slzero (a : Option Addr) : Val σ w (.sl .zero []) (.slice a 0 0)
  | slempty (a : Option Addr) (cap : Nat) : Val σ w (.sl .sh []) (.slice a 0 cap)
  | sl (tk : Tk) (es : List AV) (vs : List Value) (b o cap sz : Nat) (hl : es.length = vs.length) (hcap : vs.length ≤ cap)
      (hm : vs.length ≤ maxLen)
      (ht : TipAt σ tk b o vs.length sz cap)
      (hz : ∀ (j : Nat) (v : Value), vs[j]? = some v → v.cells.size = sz)
      (hc : ∀ (j i : Nat) (v c : Value), vs[j]? = some v → v.cells[i]? = some c → σ.vis b (o + j * sz + i) ∧ w.cell? ⟨b, o + j * sz + i, none⟩ = some c)
      (hv : ∀ (j : Nat) (e : AV) (v : Value), es[j]? = some e → vs[j]? = some v → Val σ w e v)
      (hg : ∀ (e : AV), e ∈ es → e.good = true) :
      Val σ w (.sl tk es) (.slice (some ⟨b, o, none⟩) vs.length cap)
  | ref (id off len cap b : Nat) (h : σ.pl id = some (.obj b)) : Val σ w (.ref id off len cap) (.slice (some ⟨b, off, none⟩) len cap)
  | agg (cs : List AV) (vs : Array Value) (hl : cs.length = vs.size) (hv : ∀ (i : Nat) (c : AV) (v : Value), cs[i]? = some c → vs[i]? = some v → Val σ w c v)
      (hg : ∀ c : AV, c ∈ cs → c.one = true) : Val σ w (.agg cs) (.agg vs)
  | tup (cs : List AV) (vs : Array Value) (hl : cs.length = vs.size) (hv : ∀ (i : Nat) (c : AV) (v : Value), cs[i]? = some c → vs[i]? = some v → Val σ w c v) : Val σ w (.tup cs) (.tuple vs)
  | iface (t : TypeId) (a : AV) (v : Value) (h : Val σ w a v) : Val σ w (.iface t a) (.iface t v)
  | niliface : Val σ w .niliface .nilIface
  | fn (f : Fn) (as bs : List AV) (us vs : Array Value) (hl1 : as.length = us.size) (hl2 : bs.length = vs.size)
      (h1 : ∀ (i : Nat) (c : AV) (v : Value), as[i]? = some c → us[i]? = some v → Val σ w c v)
      (h2 : ∀ (i : Nat) (c : AV) (v : Value), bs[i]? = some c → vs[i]? = some v → Val σ w c v) : Val σ w (.fn f as bs) (.func f us vs)
  | nilfn : Val σ w .nilfn .nilFunc
  | val (v : Value) : Val σ w (.val v) v

/-- What is seen stays as it is; names stay where they lie. -/
structure Ext (σ : Sig) (w : World) (σ' : Sig) (w' : World) : Prop where
  pl : ∀ i p, σ.pl i = some p → σ'.pl i = some p
  vis : ∀ b o, σ.vis b o → σ'.vis b o
  cell : ∀ b o, σ.vis b o → w'.cell? ⟨b, o, none⟩ = w.cell? ⟨b, o, none⟩

theorem Ext.refl (σ : Sig) (w : World) : Ext σ w σ w := ⟨fun _ _ h => h, fun _ _ h => h, fun _ _ _ => rfl⟩

theorem Ext.trans {σ σ1 σ2 : Sig} {w w1 w2 : World} (h : Ext σ w σ1 w1) (k : Ext σ1 w1 σ2 w2) : Ext σ w σ2 w2 :=
  ⟨fun i p hp => k.pl i p (h.pl i p hp), fun b o hv => k.vis b o (h.vis b o hv), fun b o hv => (k.cell b o (h.vis b o hv)).trans (h.cell b o hv)⟩

theorem TipAt.ext {σ σ' : Sig} {w w' : World} (h : Ext σ w σ' w') {tk : Tk} {b o n sz cap : Nat} (k : TipAt σ tk b o n sz cap) : TipAt σ' tk b o n sz cap := by
  cases tk with
  | tip t s => exact ⟨k.1, h.pl _ _ k.2⟩
  | sh => trivial
  | nil => exact k
  | zero => exact k

theorem Val.ext {σ σ' : Sig} {w w' : World} (h : Ext σ w σ' w') {a : AV} {v : Value} (k : Val σ w a v) : Val σ' w' a v := by
  induction k with
  | undef v => exact .undef v
  | int k n => exact .int k n
  | bool b => exact .bool b
  | str s => exact .str s
  | nilptr => exact .nilptr
  | ptr id off b hp => exact .ptr id off b (h.pl _ _ hp)
  | rptr cs vs b o hl hc hv hg ih => exact .rptr cs vs b o hl (fun i v hi => ⟨h.vis _ _ (hc i v hi).1, (h.cell _ _ (hc i v hi).1).trans (hc i v hi).2⟩) ih hg
  | slnil => exact .slnil
  | slzero a => exact .slzero a
  | slempty a cap => exact .slempty a cap
  | sl tk es vs b o cap sz hl hcap hm ht hz hc hv hg ih =>
    exact .sl tk es vs b o cap sz hl hcap hm (ht.ext h) hz
      (fun j i v c hj hi => ⟨h.vis _ _ (hc j i v c hj hi).1, (h.cell _ _ (hc j i v c hj hi).1).trans (hc j i v c hj hi).2⟩) ih hg
  | ref id off len cap b hp => exact .ref id off len cap b (h.pl _ _ hp)
  | agg cs vs hl hv hg ih => exact .agg cs vs hl ih hg
  | tup cs vs hl hv ih => exact .tup cs vs hl ih
  | iface t a v _ ih => exact .iface t a v ih
  | niliface => exact .niliface
  | fn f as bs us vs hl1 hl2 h1 h2 ih1 ih2 => exact .fn f as bs us vs hl1 hl2 ih1 ih2
  | nilfn => exact .nilfn
  | val v => exact .val v

/-! ### The abstract state -/
inductive Res where
  | obj (cs : List AV)
  | tok

abbrev St := Nat → Option Res

def St.le (s s' : St) : Prop := ∀ i r, s i = some r → s' i = some r
theorem St.le_refl (s : St) : s.le s := fun _ _ h => h
theorem St.le_trans {a b c : St} (h : a.le b) (k : b.le c) : a.le c := fun i r hr => k i r (h i r hr)

def St.upd (s : St) (id : Nat) (r : Res) : St := fun i => if i = id then some r else s i
def St.del (s : St) (id : Nat) : St := fun i => if i = id then none else s i

theorem St.upd_same (s : St) (id : Nat) (r : Res) : s.upd id r id = some r := by simp [St.upd]
theorem St.upd_ne (s : St) (id : Nat) (r : Res) {i : Nat} (h : i ≠ id) : s.upd id r i = s i := by simp [St.upd, h]
theorem St.le_upd (s : St) (id : Nat) (r : Res) (h : s id = none) : s.le (s.upd id r) := by
  intro i r' hi
  by_cases e : i = id
  · subst e; rw [h] at hi; cases hi
  · rw [St.upd_ne _ _ _ e]; exact hi

/-- The frozen range of a block lies behind its cells. -/
def FrOk (fr : Nat × Nat) (n : Nat) : Prop := fr = (0, 0) ∨ n ≤ fr.1

structure Ctx where
  P : Program
  w0 : World

structure ObjAt (C : Ctx) (σ : Sig) (w : World) (b : Nat) (cs : List AV) : Prop where
  base : C.w0.heap.size ≤ b
  nvis : ∀ o, ¬ σ.vis b o
  row : ∃ arr T fr, w.heap[b]? = some (.cells arr T fr) ∧ FrOk fr arr.size ∧ arr.size = cs.length ∧ (∀ (i : Nat) (c : AV) (v : Value), cs[i]? = some c → arr[i]? = some v → Val σ w c v) ∧ (∀ c : AV, c ∈ cs → c.one = true)

structure TokAt (C : Ctx) (σ : Sig) (w : World) (b e top : Nat) : Prop where
  base : C.w0.heap.size ≤ b
  nvis : ∀ o, e ≤ o → ¬ σ.vis b o
  row : ∃ arr T fr, w.heap[b]? = some (.cells arr T fr) ∧ FrOk fr arr.size ∧ top ≤ arr.size

def Pl.block : Pl → Nat
  | .obj b => b
  | .tok b _ _ => b

/-- The world shows the state. -/
structure R (C : Ctx) (σ : Sig) (st : St) (w : World) : Prop where
  below : Below C.w0.heap.size C.w0 w
  obj : ∀ i cs, st i = some (.obj cs) → ∃ b, σ.pl i = some (.obj b) ∧ ObjAt C σ w b cs
  tok : ∀ i, st i = some .tok → ∃ b e top, σ.pl i = some (.tok b e top) ∧ TokAt C σ w b e top
  inj : ∀ i j p q, i ≠ j → (st i).isSome → (st j).isSome → σ.pl i = some p → σ.pl j = some q → p.block ≠ q.block
  visok : ∀ b o, σ.vis b o → b < w.heap.size
  fresh : ∃ n, ∀ i, n ≤ i → σ.pl i = none

theorem R.live {C : Ctx} {σ : Sig} {st : St} {w : World} (h : R C σ st w) {i : Nat} (hi : (st i).isSome) : ∃ p, σ.pl i = some p ∧ p.block < w.heap.size ∧ C.w0.heap.size ≤ p.block := by
  cases hs : st i with
  | none => rw [hs] at hi; cases hi
  | some r =>
    cases r with
    | obj cs =>
      obtain ⟨b, hp, ho⟩ := h.obj i cs hs
      obtain ⟨arr, T, fr, hh, _⟩ := ho.row
      exact ⟨_, hp, (Array.getElem?_eq_some_iff.1 hh).1, ho.base⟩
    | tok =>
      obtain ⟨b, e, top, hp, ho⟩ := h.tok i hs
      obtain ⟨arr, T, fr, hh, _⟩ := ho.row
      exact ⟨_, hp, (Array.getElem?_eq_some_iff.1 hh).1, ho.base⟩

/-- A fresh name. -/
theorem R.name {C : Ctx} {σ : Sig} {st : St} {w : World} (h : R C σ st w) : ∃ i, σ.pl i = none ∧ st i = none := by
  obtain ⟨n, hn⟩ := h.fresh
  refine ⟨n, hn n (Nat.le_refl _), ?_⟩
  cases hs : st n with
  | none => rfl
  | some r =>
    obtain ⟨p, hp, _⟩ := h.live (i := n) (by simp [hs])
    rw [hn n (Nat.le_refl _)] at hp
    cases hp

/-- What happens behind old blocks: a world that agrees on all blocks shows the same. -/
theorem R.heap {C : Ctx} {σ : Sig} {st : St} {w w' : World} (h : R C σ st w) (hb : Below w.heap.size w w') : R C σ st w' ∧ Ext σ w σ w' := by
  have hx : Ext σ w σ w' := ⟨fun _ _ h => h, fun _ _ h => h, fun b o hv => hb.cell (p := ⟨b, o, none⟩) (h.visok b o hv)⟩
  refine ⟨⟨h.below.trans (hb.mono h.below.size), fun i cs hi => ?_, fun i hi => ?_, h.inj, fun b o hv => Nat.lt_of_lt_of_le (h.visok b o hv) hb.size, h.fresh⟩, hx⟩
  · obtain ⟨b, hp, ho⟩ := h.obj i cs hi
    refine ⟨b, hp, ho.base, ho.nvis, ?_⟩
    obtain ⟨arr, T, fr, hh, h1, h2, h3, h4⟩ := ho.row
    have hlt := (Array.getElem?_eq_some_iff.1 hh).1
    exact ⟨arr, T, fr, by rw [hb.block b hlt]; exact hh, h1, h2, fun i c v hc hv => (h3 i c v hc hv).ext hx, h4⟩
  · obtain ⟨b, e, top, hp, ho⟩ := h.tok i hi
    refine ⟨b, e, top, hp, ho.base, ho.nvis, ?_⟩
    obtain ⟨arr, T, fr, hh, h1, h2⟩ := ho.row
    have hlt := (Array.getElem?_eq_some_iff.1 hh).1
    exact ⟨arr, T, fr, by rw [hb.block b hlt]; exact hh, h1, h2⟩

end Go.AW
