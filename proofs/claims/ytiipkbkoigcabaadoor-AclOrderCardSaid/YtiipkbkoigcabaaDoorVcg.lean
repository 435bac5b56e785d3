/- Rules by which what is to be shown of code is worked out: a library of this claim. No condition. -/
import Derived.Test.YtiipkbkoigcabaaDoorRules
namespace Go.AW
open Go Go.RowKit
set_option linter.unusedVariables false

def opK (C : Ctx) (op : AOp) (d : Option Nat) (N : Env → St → Prop) : Env → St → Prop := fun e st => opW C op e st (KC N d e)
def skK (d : Option Nat) (N : Env → St → Prop) : Env → St → Prop := fun e st => KC N d e (.tup []) st

/-- The rules, as one fact for simp. -/
theorem VC :
    (∀ (C : Ctx) (a b : ACode) (K : Post) (e : Env) (st : St), vc C (.seq a b) K e st = vc C a (thenK (vc C b K) K) e st) ∧
    (∀ (C : Ctx) (K : Post) (e : Env) (st : St), vc C .skip K e st = K .normal e st) ∧
    (∀ (C : Ctx) (l : List AOper) (K : Post) (e : Env) (st : St), vc C (.ops l) K e st = vcOps C (K .normal) l e st) ∧
    (∀ (C : Ctx) (c : Opd) (x y : ACode) (K : Post) (e : Env) (st : St), vc C (.cond c x y) K e st = VCond (e.ev c) (vc C x) (vc C y) K e st) ∧
    (∀ (C : Ctx) (i : Nat) (b : ACode) (K : Post) (e : Env) (st : St), vc C (.block i b) K e st = vc C b (blockK i K) e st) ∧
    (∀ (C : Ctx) (b : ACode) (K : Post) (e : Env) (st : St), vc C (.loop b) K e st = VLoop (vc C b) K e st) ∧
    (∀ (C : Ctx) (i : Nat) (K : Post) (e : Env) (st : St), vc C (.exit i) K e st = K (.exit i) e st) ∧
    (∀ (C : Ctx) (b : ACode) (K : Post) (e : Env) (st : St), vc C (.scope b) K e st = vc C b (noGotoK K) e st) ∧
    (∀ (C : Ctx) (K : Post) (e : Env) (st : St), vc C .ret K e st = K .ret e st) ∧
    (∀ (N : Env → St → Prop) (K : Post) (e : Env) (st : St), thenK N K .normal e st = N e st) ∧
    (∀ (N : Env → St → Prop) (K : Post) (e : Env) (st : St), thenK N K .ret e st = K .ret e st) ∧
    (∀ (N : Env → St → Prop) (K : Post) (i : Nat) (e : Env) (st : St), thenK N K (.exit i) e st = K (.exit i) e st) ∧
    (∀ (N : Env → St → Prop) (K : Post), thenK N K .normal = N) ∧
    (∀ (i : Nat) (K : Post) (e : Env) (st : St), blockK i K .normal e st = K .normal e st) ∧
    (∀ (i : Nat) (K : Post), blockK i K .normal = K .normal) ∧
    (∀ (i : Nat) (K : Post) (e : Env) (st : St), blockK i K .ret e st = K .ret e st) ∧
    (∀ (i : Nat) (K : Post) (e : Env) (st : St), noGotoK K .normal e st = K .normal e st) ∧
    (∀ (i : Nat) (K : Post) (e : Env) (st : St), noGotoK K .ret e st = K .ret e st) ∧
    (∀ (i : Nat) (K : Post) (e : Env) (st : St), noGotoK K (.exit i) e st = K (.exit i) e st) ∧
    (∀ (K : Post), noGotoK K .normal = K .normal) ∧
    (∀ (i j : Nat) (K : Post) (e : Env) (st : St), blockK i K (.exit j) e st = if j = i then K .normal e st else K (.exit j) e st) ∧
    (∀ (X Y : Post → Env → St → Prop) (K : Post) (e : Env) (st : St), VCond (.bool true) X Y K e st = X K e st) ∧
    (∀ (X Y : Post → Env → St → Prop) (K : Post) (e : Env) (st : St), VCond (.bool false) X Y K e st = Y K e st) ∧
    (∀ (C : Ctx) (K : Env → St → Prop) (e : Env) (st : St), vcOps C K [] e st = K e st) ∧
    (∀ (C : Ctx) (K : Env → St → Prop) (d : Option Nat) (op : AOp) (r : List AOper) (e : Env) (st : St), vcOps C K (⟨d, op, none⟩ :: r) e st = opW C op e st (KC (vcOps C K r) d e)) ∧
    (∀ (C : Ctx) (K : Env → St → Prop) (d : Option Nat) (op : AOp) (s : Nat) (want : Bool) (r : List AOper) (e : Env) (st : St), vcOps C K (⟨d, op, some (s, want)⟩ :: r) e st = VG (e.get s) want (opK C op d (vcOps C K r)) (skK d (vcOps C K r)) e st) ∧
    (∀ (A B : Env → St → Prop) (e : Env) (st : St), VG (.bool true) true A B e st = A e st) ∧
    (∀ (A B : Env → St → Prop) (e : Env) (st : St), VG (.bool false) false A B e st = A e st) ∧
    (∀ (A B : Env → St → Prop) (e : Env) (st : St), VG (.bool true) false A B e st = B e st) ∧
    (∀ (A B : Env → St → Prop) (e : Env) (st : St), VG (.bool false) true A B e st = B e st) ∧
    (∀ (A B : Env → St → Prop) (vs : List AV) (w : Bool) (e : Env) (st : St), VG (.tup vs) w A B e st = B e st) ∧
    (∀ (C : Ctx) (op : AOp) (d : Option Nat) (N : Env → St → Prop) (e : Env) (st : St), opK C op d N e st = opW C op e st (KC N d e)) ∧
    (∀ (d : Option Nat) (N : Env → St → Prop) (e : Env) (st : St), skK d N e st = N (e.put d (.tup [])) st) ∧
    (∀ (d : Option Nat) (N : Env → St → Prop) (e : Env) (v : AV) (st : St), KC N d e v st = N (e.put d v) st) ∧
    (∀ (e : Env) (d : Nat) (v : AV), Env.put e (some d) v = (d, v) :: e) ∧
    (∀ (e : Env) (v : AV), Env.put e none v = e) ∧
    (∀ (e : Env) (n : Nat), Env.ev e (.t n) = e.get n) ∧
    (∀ (e : Env) (a : AV), Env.ev e (.c a) = a) ∧
    (∀ (e : Env) (n : Nat), Env.ev e (.f n) = .fn (.func n) [] []) ∧
    (∀ (e : Env) (n : Nat), Env.ev e (.g n) = .val (.pointer (some ⟨n, 0, none⟩))) ∧
    (∀ (e : Env) (d t : Nat) (v : AV), Env.get ((d, v) :: e) t = if d = t then v else Env.get e t) ∧
    (∀ (e : Env), evs e [] = []) ∧
    (∀ (e : Env) (x : Opd) (l : List Opd), evs e (x :: l) = e.ev x :: evs e l) ∧
    (∀ (k : Nat), argEnv k [] = []) ∧
    (∀ (k : Nat) (a : AV) (l : List AV), argEnv k (a :: l) = (k, a) :: argEnv (k + 1) l) ∧
    (∀ (rs : List ARes) (K : AV → St → Prop) (e : Env) (st : St), endK rs K .ret e st = match resAs e st rs with | some vs => K (tupOf vs) st | none => False) ∧
    (∀ (rs : List ARes) (K : AV → St → Prop) (e : Env) (st : St), endK rs K .normal e st = match resAs e st rs with | some vs => K (tupOf vs) st | none => False) ∧
    (∀ (e : Env) (st : St), resAs e st [] = some []) ∧
    (∀ (e : Env) (st : St) (r : ARes) (rs : List ARes), resAs e st (r :: rs) = match resA e st r, resAs e st rs with | some v, some vs => some (v :: vs) | _, _ => none) ∧
    (∀ (e : Env) (st : St) (n : Nat), resA e st (.t n) = some (e.get n)) ∧
    (∀ (v : AV), tupOf [v] = v) ∧
    (∀ (v w : AV) (l : List AV), tupOf (v :: w :: l) = .tup (v :: w :: l)) ∧ tupOf [] = .tup [] := by
  refine ⟨fun _ _ _ _ _ _ => rfl, fun _ _ _ _ => rfl, fun _ _ _ _ _ => rfl, fun _ _ _ _ _ _ _ => rfl, fun _ _ _ _ _ _ => rfl, fun _ _ _ _ _ => rfl, fun _ _ _ _ _ => rfl, fun _ _ _ _ _ => rfl, fun _ _ _ _ => rfl,
    fun _ _ _ _ => rfl, fun _ _ _ _ => rfl, fun _ _ _ _ _ => rfl, fun _ _ => rfl, fun _ _ _ _ => rfl, fun _ _ => rfl, fun _ _ _ _ => rfl, fun _ _ _ _ => rfl, fun _ _ _ _ => rfl, fun _ _ _ _ => rfl, fun _ => rfl, fun _ _ _ _ _ => rfl,
    fun _ _ _ _ _ => by simp [VCond], fun _ _ _ _ _ => by simp [VCond], fun _ _ _ _ => rfl, fun _ _ _ _ _ _ _ => rfl, fun _ _ _ _ _ _ _ _ _ => rfl,
    fun _ _ _ _ => by simp [VG], fun _ _ _ _ => by simp [VG], fun _ _ _ _ => by simp [VG], fun _ _ _ _ => by simp [VG], fun _ _ _ _ _ _ => rfl, fun _ _ _ _ _ _ => rfl, fun _ _ _ _ => rfl, fun _ _ _ _ _ => rfl, fun _ _ _ => rfl, fun _ _ => rfl,
    fun _ _ => rfl, fun _ _ => rfl, fun _ _ => rfl, fun _ _ => rfl, fun _ _ _ _ => rfl, fun _ => rfl, fun _ _ _ => rfl, fun _ => rfl, fun _ _ _ => rfl, fun _ _ _ _ => rfl, fun _ _ _ _ => rfl, fun _ _ => rfl, fun _ _ _ _ => rfl, fun _ _ _ => rfl, fun _ => rfl, fun _ _ _ => rfl, rfl⟩


/-- What is plain of values. -/
theorem VV :
    (∀ k n, AV.cells (.int k n) = [.int k n]) ∧ (∀ b, AV.cells (.bool b) = [.bool b]) ∧ (∀ s, AV.cells (.str s) = [.str s]) ∧ AV.cells .nilptr = [.nilptr] ∧ (∀ i o, AV.cells (.ptr i o) = [.ptr i o]) ∧ (∀ cs, AV.cells (.rptr cs) = [.rptr cs]) ∧ (∀ tk es, AV.cells (.sl tk es) = [.sl tk es]) ∧ (∀ i o l c, AV.cells (.ref i o l c) = [.ref i o l c]) ∧ (∀ cs, AV.cells (.agg cs) = cs) ∧ (∀ t v, AV.cells (.iface t v) = [.iface t v]) ∧ AV.cells .niliface = [.niliface] ∧ (∀ f a b, AV.cells (.fn f a b) = [.fn f a b]) ∧ AV.cells .nilfn = [.nilfn] ∧
    (∀ k n, AV.csize (.int k n) = 1) ∧ (∀ b, AV.csize (.bool b) = 1) ∧ (∀ s, AV.csize (.str s) = 1) ∧ AV.csize .nilptr = 1 ∧ (∀ i o, AV.csize (.ptr i o) = 1) ∧ (∀ cs, AV.csize (.rptr cs) = 1) ∧ (∀ tk es, AV.csize (.sl tk es) = 1) ∧ (∀ i o l c, AV.csize (.ref i o l c) = 1) ∧ (∀ cs, AV.csize (.agg cs) = cs.length) ∧ (∀ t v, AV.csize (.iface t v) = 1) ∧ AV.csize .niliface = 1 ∧ (∀ f a b, AV.csize (.fn f a b) = 1) ∧ AV.csize .nilfn = 1 ∧
    (∀ k n, AV.one (.int k n) = true) ∧ (∀ b, AV.one (.bool b) = true) ∧ (∀ s, AV.one (.str s) = true) ∧ AV.one .nilptr = true ∧ (∀ i o, AV.one (.ptr i o) = true) ∧ (∀ cs, AV.one (.rptr cs) = true) ∧ (∀ tk es, AV.one (.sl tk es) = true) ∧ (∀ i o l c, AV.one (.ref i o l c) = true) ∧ (∀ t v, AV.one (.iface t v) = true) ∧ AV.one .niliface = true ∧ (∀ f a b, AV.one (.fn f a b) = true) ∧ AV.one .nilfn = true ∧
    (∀ k n, AV.good (.int k n) = true) ∧ (∀ b, AV.good (.bool b) = true) ∧ (∀ s, AV.good (.str s) = true) ∧ AV.good .nilptr = true ∧ (∀ i o, AV.good (.ptr i o) = true) ∧ (∀ cs, AV.good (.rptr cs) = true) ∧ (∀ tk es, AV.good (.sl tk es) = true) ∧ (∀ i o l c, AV.good (.ref i o l c) = true) ∧ (∀ t v, AV.good (.iface t v) = true) ∧ AV.good .niliface = true ∧ (∀ f a b, AV.good (.fn f a b) = true) ∧ AV.good .nilfn = true ∧ (∀ cs, AV.good (.agg cs) = cs.all AV.one) ∧
    (∀ k n, AV.sh1 (.int k n) = .int k n) ∧ (∀ b, AV.sh1 (.bool b) = .bool b) ∧ (∀ s, AV.sh1 (.str s) = .str s) ∧ AV.sh1 .nilptr = .nilptr ∧ (∀ i o, AV.sh1 (.ptr i o) = .ptr i o) ∧ (∀ cs, AV.sh1 (.rptr cs) = .rptr cs) ∧ (∀ tk es, AV.sh1 (.sl tk es) = .sl .sh es) ∧ (∀ i o l c, AV.sh1 (.ref i o l c) = .ref i o l c) ∧ (∀ t v, AV.sh1 (.iface t v) = .iface t v) ∧ AV.sh1 .niliface = .niliface ∧ (∀ f a b, AV.sh1 (.fn f a b) = .fn f a b) ∧ AV.sh1 .nilfn = .nilfn ∧
    (∀ k n, AV.sh (.int k n) = .int k n) ∧ (∀ b, AV.sh (.bool b) = .bool b) ∧ (∀ s, AV.sh (.str s) = .str s) ∧ AV.sh .nilptr = .nilptr ∧ (∀ i o, AV.sh (.ptr i o) = .ptr i o) ∧ (∀ cs, AV.sh (.rptr cs) = .rptr cs) ∧ (∀ tk es, AV.sh (.sl tk es) = .sl .sh es) ∧ (∀ i o l c, AV.sh (.ref i o l c) = .ref i o l c) ∧ (∀ t v, AV.sh (.iface t v) = .iface t v) ∧ AV.sh .niliface = .niliface ∧ (∀ f a b, AV.sh (.fn f a b) = .fn f a b) ∧ AV.sh .nilfn = .nilfn ∧ (∀ cs, AV.sh (.agg cs) = .agg (cs.map AV.sh1)) ∧
    (∀ S off cs, partA false S off cs = cs.getD off .undef) ∧ (∀ S off cs, partA true S off cs = .agg (((cs.drop off).take S).map AV.sh1)) ∧
    (∀ cs off xs, splice cs off xs = cs.take off ++ xs ++ cs.drop (off + xs.length)) ∧ (∀ (e : Env) (cs : List AV), fillA e [] cs = some cs) ∧ (∀ (e : Env) (S : Nat) (cs : List AV), fillE e S [] cs = some cs) ∧
    (∀ (e : Env) (off S : Nat) (x : Opd) r cs, fillA e ((off, S, x) :: r) cs = if (e.ev x).csize = S ∧ (e.ev x).good = true ∧ off + S ≤ cs.length then fillA e r (splice cs off (e.ev x).sh.cells) else none) ∧
    (∀ (e : Env) (S i : Nat) (x : Opd) r es, fillE e S ((i, x) :: r) es = if (e.ev x).csize = S ∧ (e.ev x).good = true ∧ i < es.length then fillE e S r (es.set i (e.ev x).sh) else none) ∧
    (∀ (x : AV), List.replicate 0 x = []) ∧ (∀ (n : Nat) (x : AV), List.replicate (n + 1) x = x :: List.replicate n x) ∧
    (∀ (x y : AV) (l : List AV), List.set (x :: l) 0 y = y :: l) ∧ (∀ (x y : AV) (n : Nat) (l : List AV), List.set (x :: l) (n + 1) y = x :: List.set l n y) ∧
    (∀ (e : Env) (d : Int) (K : Int → Prop), bndW e none d K = K d) ∧ (∀ (e : Env) (x : Opd) (d : Int) (K : Int → Prop), bndW e (some x) d K = match e.ev x with | .int _ n => K n | _ => False) := by
  refine ⟨fun _ _ => rfl, fun _ => rfl, fun _ => rfl, rfl, fun _ _ => rfl, fun _ => rfl, fun _ _ => rfl, fun _ _ _ _ => rfl, fun _ => rfl, fun _ _ => rfl, rfl, fun _ _ _ => rfl, rfl,
    fun _ _ => rfl, fun _ => rfl, fun _ => rfl, rfl, fun _ _ => rfl, fun _ => rfl, fun _ _ => rfl, fun _ _ _ _ => rfl, fun _ => rfl, fun _ _ => rfl, rfl, fun _ _ _ => rfl, rfl,
    fun _ _ => rfl, fun _ => rfl, fun _ => rfl, rfl, fun _ _ => rfl, fun _ => rfl, fun _ _ => rfl, fun _ _ _ _ => rfl, fun _ _ => rfl, rfl, fun _ _ _ => rfl, rfl,
    fun _ _ => rfl, fun _ => rfl, fun _ => rfl, rfl, fun _ _ => rfl, fun _ => rfl, fun _ _ => rfl, fun _ _ _ _ => rfl, fun _ _ => rfl, rfl, fun _ _ _ => rfl, rfl, fun _ => rfl,
    fun _ _ => rfl, fun _ => rfl, fun _ => rfl, rfl, fun _ _ => rfl, fun _ => rfl, fun _ _ => rfl, fun _ _ _ _ => rfl, fun _ _ => rfl, rfl, fun _ _ _ => rfl, rfl,
    fun _ _ => rfl, fun _ => rfl, fun _ => rfl, rfl, fun _ _ => rfl, fun _ => rfl, fun _ _ => rfl, fun _ _ _ _ => rfl, fun _ _ => rfl, rfl, fun _ _ _ => rfl, rfl, fun _ => rfl,
    fun _ _ _ => rfl, fun _ _ _ => rfl, fun _ _ _ => rfl, fun _ _ => rfl, fun _ _ _ => rfl, fun _ _ _ _ _ _ => rfl, fun _ _ _ _ _ _ => rfl, fun _ => rfl, fun _ _ => rfl, fun _ _ _ => rfl, fun _ _ _ _ => rfl, fun _ _ _ => rfl, fun _ _ _ _ => rfl⟩
end Go.AW
