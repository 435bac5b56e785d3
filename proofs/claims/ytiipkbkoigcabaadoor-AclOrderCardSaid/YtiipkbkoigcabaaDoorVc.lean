/- A small language for Go's loaded code, the program that turns loaded code into it, and what is to be shown of a piece of it: a library of this claim, generic in the program. No condition. -/
import Derived.Test.YtiipkbkoigcabaaDoorCore
namespace Go.AW
open Go Go.RowKit

abbrev Env := List (Nat × AV)

def Env.get : Env → Nat → AV
  | [], _ => .undef
  | (d, v) :: e, t => if d = t then v else Env.get e t

def Env.put (e : Env) (d : Option Nat) (v : AV) : Env :=
  match d with
  | some d => (d, v) :: e
  | none => e

inductive Opd where
  | t (n : Nat)
  | c (a : AV)
  | g (n : Nat)
  | f (n : Nat)

def ofConst : Value → AV
  | .bool b => .bool b
  | .int k n => .int k n
  | .string s => .str s.data.toList
  | .pointer none => .nilptr
  | .slice none 0 0 => .sl .nil []
  | .nilIface => .niliface
  | .nilFunc => .nilfn
  | v => .val v

def cOpd : Operand → Opd
  | .tmp t => .t t
  | .const v => .c (ofConst v)
  | .global g => .g g
  | .func f => .f f

def Env.ev (e : Env) : Opd → AV
  | .t t => e.get t
  | .c a => a
  | .g g => .val (.pointer (some ⟨g, 0, none⟩))
  | .f f => .fn (.func f) [] []

def evs (e : Env) (l : List Opd) : List AV := l.map e.ev

inductive AOp where
  | bad
  | frz (d : Nat)
  | mv (x : Opd)
  | pick (c a b : Opd)
  | alloc (z : List AV)
  | box (S : Nat) (x : Opd)
  | build (z : List AV) (parts : List (Nat × Nat × Opd))
  | mk (z : AV) (len : Nat) (parts : List (Nat × Opd))
  | load (agg : Bool) (S : Nat) (a : Opd)
  | store (S : Nat) (a x : Opd)
  | nilck (x : Opd)
  | arith (op : BinOp) (x y : Opd)
  | cmp (op : BinOp) (x y : Opd)
  | cmpB (neg : Bool) (x y : Opd)
  | eqv (kd : Nat) (neg : Bool) (x y : Opd)
  | shift (op : BinOp) (x y : Opd)
  | un (op : UnOp) (x : Opd)
  | cvI (k : IntKind) (x : Opd)
  | cvS (x : Opd)
  | cvSB (x : Opd)
  | cvBS (x : Opd)
  | mkif (t : TypeId) (x : Opd)
  | mkfn (f : Nat) (first captured : List Opd)
  | mksl (z : AV) (bytes : Nat) (len cap : Opd)
  | slS (x : Opd) (lo hi : Option Opd)
  | sl (S : Nat) (x : Opd) (lo hi mx : Option Opd)
  | faddr (off : Nat) (x : Opd)
  | fld (agg : Bool) (off S : Nat) (x : Opd)
  | iaddr (S : Nat) (x i : Opd)
  | idxS (x i : Opd)
  | ext (x : Opd) (i : Nat)
  | call (f : Opd) (args : List Opd)
  | app (S bytes : Nat) (s x : Opd)
  | len (x : Opd)
  | lenS (x : Opd)
  | cap (x : Opd)
  | copy (S : Nat) (d s : Opd)
  | min2 (x y : Opd)
  | max2 (x y : Opd)

structure AOper where
  dst : Option Nat
  op : AOp
  gd : Option (Nat × Bool)

inductive ACode where
  | skip
  | bad
  | ops (l : List AOper)
  | draw (l : List AOper)
  | seq (a b : ACode)
  | cond (c : Opd) (x y : ACode)
  | block (id : Nat) (b : ACode)
  | loop (b : ACode)
  | exit (id : Nat)
  | scope (b : ACode)
  | ret

/-! ### From loaded code -/
def isAggT (P : Program) (t : TypeId) : Option Bool :=
  match P.underlying t with
  | some (.struct _) | some (.array _ _) => some true
  | some _ => some false
  | none => none

def sizeT (P : Program) (t : TypeId) : Option Nat := (P.info? t).map (·.size)

/-- The zero value of a type, as an abstract one: none, where it isn't plain. -/
def zeroAV (P : Program) (t : TypeId) : Option AV :=
  match (P.info? t).bind (·.zero) with
  | some (.agg cs) => if cs.all (fun v => (ofConst v).one) then some (.agg (cs.toList.map ofConst)) else none
  | some v => if (ofConst v).one then some (ofConst v) else none
  | none => none

def fieldOf (P : Program) (s : TypeId) (f : Nat) : Option Field :=
  match P.underlying s with
  | some (.struct fs) => fs[f]?
  | _ => none

/-- The element type of a slice. -/
def elemT (P : Program) (t : TypeId) : Option TypeId :=
  match P.underlying t with
  | some (.slice e) => some e
  | _ => none

def isU8 (P : Program) (t : TypeId) : Bool :=
  match P.underlying t with
  | some (.int .u8) => true
  | _ => false

def isStrT (P : Program) (t : TypeId) : Bool :=
  match P.underlying t with
  | some .string => true
  | _ => false

/-- Where a struct's fields lie, and how many cells they have. -/
def placesT (P : Program) (t : TypeId) : Option (List (Nat × Nat)) :=
  match P.underlying t with
  | some (.struct fs) => fs.toList.mapM fun f => (P.info? f.type).map fun i => (f.offset, i.size)
  | _ => none

def partsB (pl : List (Nat × Nat)) : List (Nat × Operand) → Option (List (Nat × Nat × Opd))
  | [] => some []
  | (i, x) :: r => match pl[i]?, partsB pl r with
    | some (off, s), some l => some ((off, s, cOpd x) :: l)
    | _, _ => none

/-- Equality by the type's underlying kind. -/
def eqKind (P : Program) (t : TypeId) : Nat :=
  match P.underlying t with
  | some .bool => 1
  | some (.int _) => 2
  | some .string => 3
  | some (.interface _) => 4
  | some (.slice _) => 5
  | some (.pointer _) => 6
  | some (.func ..) => 7
  | _ => 0

def cBin (P : Program) (op : BinOp) (t : TypeId) (x y : Opd) : AOp :=
  match op with
  | .add | .sub | .mul | .quo | .rem | .and | .or | .xor | .andNot => .arith op x y
  | .shl | .shr => .shift op x y
  | .lss | .leq | .gtr | .geq => .cmp op x y
  | .eql => if eqKind P t = 0 then .bad else if eqKind P t = 1 then .cmpB false x y else if eqKind P t ≤ 3 then .cmp op x y else .eqv (eqKind P t) false x y
  | .neq => if eqKind P t = 0 then .bad else if eqKind P t = 1 then .cmpB true x y else if eqKind P t ≤ 3 then .cmp op x y else .eqv (eqKind P t) true x y

def cCall (P : Program) (c : Call) : AOp :=
  match c.callee, c.args.toList, c.argTypes.toList with
  | .value f, args, _ => .call (cOpd f) (args.map cOpd)
  | .builtin .append, [s, x], [t, u] =>
    match elemT P t with
    | some e => match P.info? e with
      | some i => match zeroAV P e with
        | some z => if ((elemT P u).isSome || isStrT P u) && decide (z.csize = i.size) && decide (0 < i.size) then .app i.size i.bytes (cOpd s) (cOpd x) else .bad
        | none => .bad
      | none => .bad
    | none => .bad
  | .builtin .len, [x], [t] =>
    match P.underlying t with
    | some (.slice _) => .len (cOpd x)
    | some .string => .lenS (cOpd x)
    | _ => .bad
  | .builtin .cap, [x], [t] =>
    match P.underlying t with
    | some (.slice _) => .cap (cOpd x)
    | _ => .bad
  | .builtin .copy, [d, s], [t, _] =>
    match (elemT P t).bind (sizeT P) with
    | some S => .copy S (cOpd d) (cOpd s)
    | none => .bad
  | .builtin .min, [x, y], _ => .min2 (cOpd x) (cOpd y)
  | .builtin .max, [x, y], _ => .max2 (cOpd x) (cOpd y)
  | _, _, _ => .bad

def cOp (P : Program) (op : Op) : AOp :=
  match op with
  | .move x | .assign x => .mv (cOpd x)
  | .pick c a b => .pick (cOpd c) (cOpd a) (cOpd b)
  | .alloc t => match zeroAV P t with
    | some z => .alloc z.cells
    | none => .bad
  | .box t x => match sizeT P t with
    | some S => .box S (cOpd x)
    | none => .bad
  | .build t parts =>
    match zeroAV P t, placesT P t with
    | some z, some pl => match partsB pl parts.toList with
      | some l => .build z.cells l
      | none => .bad
    | _, _ => .bad
  | .buildSlice t len parts =>
    match elemT P t with
    | some e => match zeroAV P e, sizeT P e with
      | some z, some S => if z.csize = S && decide (0 < S) && decide (len * S ≤ 16777216) then .mk z len (parts.toList.map fun p => (p.1, cOpd p.2)) else .bad
      | _, _ => .bad
    | none => .bad
  | .load t a => match isAggT P t, sizeT P t with
    | some g, some S => .load g S (cOpd a)
    | _, _ => .bad
  | .store t a x => match sizeT P t with
    | some S => .store S (cOpd a) (cOpd x)
    | none => .bad
  | .nilCheck x => .nilck (cOpd x)
  | .binOp op t x y _ => cBin P op t (cOpd x) (cOpd y)
  | .unOp op _ x => .un op (cOpd x)
  | .convert src dst x =>
    match P.underlying src, P.underlying dst with
    | some _, some (.int k) => .cvI k (cOpd x)
    | some .string, some .string => .cvS (cOpd x)
    | some .string, some (.slice e) => if isU8 P e then .cvSB (cOpd x) else .bad
    | some (.slice e), some .string => if isU8 P e then .cvBS (cOpd x) else .bad
    | _, _ => .bad
  | .makeInterface t x => match P.underlying t with
    | some (.interface _) | none => .bad
    | _ => .mkif t (cOpd x)
  | .makeFunc (.func f) a b => .mkfn f (a.toList.map cOpd) (b.toList.map cOpd)
  | .makeSlice t l c =>
    match elemT P t with
    | some e => match zeroAV P e, P.info? e with
      | some z, some i => if z.csize = i.size && decide (0 < i.size) then .mksl z i.bytes (cOpd l) (cOpd c) else .bad
      | _, _ => .bad
    | none => .bad
  | .slice t x lo hi mx =>
    match P.underlying t with
    | some .string => if mx.isNone then .slS (cOpd x) (lo.map cOpd) (hi.map cOpd) else .bad
    | some (.slice e) => match sizeT P e with
      | some S => .sl S (cOpd x) (lo.map cOpd) (hi.map cOpd) (mx.map cOpd)
      | none => .bad
    | _ => .bad
  | .fieldAddr s x f => match fieldOf P s f with
    | some fd => match sizeT P fd.type with
      | some S => if 0 < S then .faddr fd.offset (cOpd x) else .bad
      | none => .bad
    | none => .bad
  | .field s x f => match fieldOf P s f with
    | some fd => match isAggT P fd.type, sizeT P fd.type with
      | some g, some S => .fld g fd.offset S (cOpd x)
      | _, _ => .bad
    | none => .bad
  | .indexAddr t x i => match elemT P t with
    | some e => match sizeT P e with
      | some S => .iaddr S (cOpd x) (cOpd i)
      | none => .bad
    | none => .bad
  | .index t x i => if isStrT P t then .idxS (cOpd x) (cOpd i) else .bad
  | .extract x i => .ext (cOpd x) i
  | .call c => cCall P c
  | _ => .bad

/-- The slot that a guard asks. -/
def cGuard (ops : Array Oper) (o : Oper) : Option (Option (Nat × Bool)) :=
  match o.guard with
  | none => some none
  | some (j, want) => match (ops[j]?).bind (·.dst) with
    | some d => some (some (d, want))
    | none => none

def cOper (P : Program) (n : Nat) (ops : Array Oper) (o : Oper) : Option AOper :=
  match cGuard ops o, o.dst with
  | some g, some d => if d < n then some ⟨some d, cOp P o.op, g⟩ else none
  | some g, none => some ⟨none, cOp P o.op, g⟩
  | none, _ => none

def cOpers (P : Program) (n : Nat) (ops : Array Oper) : List Oper → Option (List AOper)
  | [] => some []
  | o :: r => do
    let a ← cOper P n ops o
    let l ← cOpers P n ops r
    some (a :: l)

/-- The operands that an operation reads. -/
def AOp.opds : AOp → List Opd
  | .bad | .alloc _ => []
  | .frz d => [.t d]
  | .mv x | .box _ x | .load _ _ x | .nilck x | .un _ x | .cvI _ x | .cvS x | .cvSB x | .cvBS x | .mkif _ x | .faddr _ x | .fld _ _ _ x | .ext x _ | .len x | .lenS x | .cap x => [x]
  | .pick c a b => [c, a, b]
  | .build _ ps => ps.map fun p => p.2.2
  | .mk _ _ ps => ps.map fun p => p.2
  | .store _ a x | .arith _ a x | .cmp _ a x | .cmpB _ a x | .eqv _ _ a x | .shift _ a x | .mksl _ _ a x | .iaddr _ a x | .idxS a x | .app _ _ a x | .copy _ a x | .min2 a x | .max2 a x => [a, x]
  | .mkfn _ a b => a ++ b
  | .slS x lo hi => x :: (lo.toList ++ hi.toList)
  | .sl _ x lo hi mx => x :: (lo.toList ++ hi.toList ++ mx.toList)
  | .call f args => f :: args

/-- Does an operation look at a slot? -/
def AOper.looks (o : AOper) (d : Nat) : Bool :=
  (o.op.opds.any fun | .t s => s == d | _ => false) || (match o.gd with | some (s, _) => s == d | none => false)

def apartA (x y : AOper) : Bool :=
  (match x.dst with | some d => !y.looks d && !(y.dst == some d) | none => true) && (match y.dst with | some d => !x.looks d | none => true)

/-- Whatever else may come up now waits for operation k, or has nothing to do with it. -/
def freeA (ops : Array Oper) (L : List AOper) (listed : Array Bool) (k : Nat) : Bool :=
  match L[k]? with
  | none => false
  | some x => (List.range ops.size).all fun j => j == k || listed.getD j true ||
      (match ops[j]? with | some oj => oj.after.any (fun e => Region.binds .any e && e.on == k) | none => true) ||
      (match L[j]? with | some y => apartA x y | none => false)

def lexA (ops : Array Oper) (L : List AOper) : Nat → Nat → Array Bool → Bool
  | 0, _, listed => (Region.ready .any ops listed).isEmpty
  | f + 1, k, listed => (Region.ready .any ops listed).contains k && freeA ops L listed k && lexA ops L f (k + 1) (listed.setIfInBounds k true)

def compile (P : Program) (n : Nat) : Code → ACode
  | .skip | .label _ => .skip
  | .region _ ops d => match cOpers P n ops ops.toList with
    | some l => if d then (if P.follows .mixedOrders && lexA ops l ops.size 0 (Array.replicate ops.size false) then .draw l else .bad) else .ops l
    | none => .bad
  | .seq a b => .seq (compile P n a) (compile P n b)
  | .cond c x y => .cond (cOpd c) (compile P n x) (compile P n y)
  | .block id b => .block id (compile P n b)
  | .loop b => .loop (compile P n b)
  | .exit id => .exit id
  | .scope b => .scope (compile P n b)
  | .ret => .ret
  | _ => .bad

inductive ARes where
  | t (n : Nat)
  | cell (t : Nat) (agg : Bool) (S : Nat)

def cRes (P : Program) : List ResultVar → Option (List ARes)
  | [] => some []
  | .tmp t :: r => (cRes P r).map (.t t :: ·)
  | .cell a t :: r => match isAggT P t, sizeT P t with
    | some g, some S => (cRes P r).map (.cell a g S :: ·)
    | _, _ => none

/-! ### What is to be shown -/

/-- What a value tells without the right to append to it. -/
def AV.sh1 : AV → AV
  | .sl _ es => .sl .sh es
  | v => v
def AV.sh : AV → AV
  | .agg cs => .agg (cs.map AV.sh1)
  | v => v.sh1

def partA (agg : Bool) (S off : Nat) (cs : List AV) : AV := if agg then .agg (((cs.drop off).take S).map AV.sh1) else cs.getD off .undef

def splice (cs : List AV) (off : Nat) (xs : List AV) : List AV := cs.take off ++ xs ++ cs.drop (off + xs.length)

def fillA (e : Env) : List (Nat × Nat × Opd) → List AV → Option (List AV)
  | [], cs => some cs
  | (off, S, x) :: r, cs => if (e.ev x).csize = S ∧ (e.ev x).good = true ∧ off + S ≤ cs.length then fillA e r (splice cs off (e.ev x).sh.cells) else none

def fillE (e : Env) (S : Nat) : List (Nat × Opd) → List AV → Option (List AV)
  | [], es => some es
  | (i, x) :: r, es => if (e.ev x).csize = S ∧ (e.ev x).good = true ∧ i < es.length then fillE e S r (es.set i (e.ev x).sh) else none

def byteAV (b : UInt8) : AV := .int .u8 b.toNat
def bytesAV (l : List UInt8) : List AV := l.map byteAV
def asByte : AV → Option UInt8
  | .int .u8 n => if 0 ≤ n ∧ n < 256 then some (UInt8.ofNat n.toNat) else none
  | _ => none
def asBytes : List AV → Option (List UInt8)
  | [] => some []
  | v :: r => match asByte v, asBytes r with
    | some b, some l => some (b :: l)
    | _, _ => none

/-- It may be appended to. -/
def Appd (S : Nat) (tk : Tk) (st : St) : Prop :=
  match tk with
  | .nil | .zero => True
  | .sh => False
  | .tip t s => s = S ∧ st t = some .tok

def Tk.is (tk : Tk) (i : Nat) : Prop :=
  match tk with
  | .tip t _ => t = i
  | _ => False

/-- What an append leaves: all but the right that it took. -/
def LeBut (tk : Tk) (st st' : St) : Prop := ∀ i r, st i = some r → ¬ tk.is i → st' i = some r

/-- A right that is as it was, or new. -/
def NewTk (tk tk' : Tk) (st : St) : Prop := ∀ i, tk'.is i → tk.is i ∨ st i = none

def ints (v : AV) (K : IntKind → Int → Prop) : Prop :=
  match v with
  | .int k n => K k n
  | _ => False

/-- Whole-number arithmetic, as the model has it. -/
def arithW (op : BinOp) (k : IntKind) (a b : Int) (K : Int → Prop) : Prop :=
  match op with
  | .add => K (k.wrap (a + b))
  | .sub => K (k.wrap (a - b))
  | .mul => K (k.wrap (a * b))
  | .quo => b ≠ 0 ∧ K (k.wrap (a.tdiv b))
  | .rem => b ≠ 0 ∧ K (a.tmod b)
  | .and | .or | .xor | .andNot => K (bits op k a b)
  | _ => False

def cmpI (op : BinOp) (a b : Int) : Bool :=
  match op with
  | .eql => a == b
  | .neq => a != b
  | .lss => decide (a < b)
  | .leq => decide (a ≤ b)
  | .gtr => decide (a > b)
  | _ => decide (a ≥ b)

def cmpS (op : BinOp) (a b : List UInt8) : Bool :=
  match op with
  | .eql => a == b
  | .neq => !(a == b)
  | .lss => Op.bytesLess a b
  | .leq => Op.bytesLess a b || a == b
  | .gtr => !(Op.bytesLess a b || a == b)
  | _ => !(Op.bytesLess a b)

def isCmp : BinOp → Bool
  | .eql | .neq | .lss | .leq | .gtr | .geq => true
  | _ => false

/-- An optional bound of a slice expression. -/
def bndW (e : Env) (o : Option Opd) (d : Int) (K : Int → Prop) : Prop :=
  match o with
  | none => K d
  | some x => match e.ev x with
    | .int _ n => K n
    | _ => False


/-- A call, as contracts speak of it: whatever shows these arguments and this state, the call returns, what was seen stays, and K holds of what it returned and of the state behind it. -/
def ACalls (C : Ctx) (f : Nat) (args : List AV) (st : St) (K : AV → St → Prop) : Prop :=
  ∀ σ w (vs : Array Value), R C σ st w → args.length = vs.size → (∀ (i : Nat) (a : AV) (v : Value), args[i]? = some a → vs[i]? = some v → Val σ w a v) →
    ((∃ w1, (callFunc f vs).run C.P w = .ok (.enter f vs) w1 ∧ w1 = w ∧
      Calls C.P f vs w fun e w' => ∃ σ' r v st', e = .returned v ∧ Ext σ w σ' w' ∧ R C σ' st' w' ∧ Val σ' w' r v ∧ K r st') ∨
     (∃ σ' r v st' w', (callFunc f vs).run C.P w = .ok (.value v) w' ∧ Ext σ w σ' w' ∧ R C σ' st' w' ∧ Val σ' w' r v ∧ K r st'))

/-- Two values that are told apart by being nil or not. -/
def eqW (kd : Nat) (x y : Opd) (u v : AV) (K : Bool → Prop) : Prop :=
  match u, v with
  | .niliface, .niliface => kd = 4 ∧ (match x, y with | _, .c _ => True | .c _, _ => True | _, _ => False) ∧ K true
  | .iface _ _, .niliface => kd = 4 ∧ K false
  | .niliface, .iface _ _ => kd = 4 ∧ K false
  | .nilptr, .nilptr => kd = 6 ∧ K true
  | .ptr _ _, .nilptr => kd = 6 ∧ K false
  | .rptr _, .nilptr => kd = 6 ∧ K false
  | .sl .nil [], .sl .nil [] => kd = 5 ∧ K true
  | .sl _ (_ :: _), .sl .nil [] => kd = 5 ∧ K false
  | .ref _ _ _ _, .sl .nil [] => kd = 5 ∧ K false
  | .sl _ [], .sl .nil [] => kd = 5 ∧ ∀ b, K b
  | .nilfn, .nilfn => kd = 7 ∧ K true
  | .fn _ _ _, .nilfn => kd = 7 ∧ K false
  | _, _ => False

def sliceBoundOk (lo hi len : Int) : Prop := 0 ≤ lo ∧ lo ≤ hi ∧ hi ≤ len

/-- One operation. -/
def opW (C : Ctx) (o : AOp) (e : Env) (st : St) (K : AV → St → Prop) : Prop :=
  match o with
  | .bad => False
  | .frz d => match e.ev (.t d) with
    | .ref id off n cap => match st id with
      | some (.obj cs) => (off + n ≤ cs.length ∧ (n : Int) ≤ maxLen ∧ n ≤ cap) ∧ K (.sl .sh ((cs.drop off).take n)) (st.del id)
      | _ => False
    | _ => False
  | .mv x => K (e.ev x) st
  | .pick c a b => match e.ev c with
    | .bool t => K (if t then e.ev a else e.ev b) st
    | _ => False
  | .alloc z => z.all AV.one = true ∧ ∀ id, st id = none → K (.ptr id 0) (st.upd id (.obj z))
  | .box S x => ((e.ev x).csize = S ∧ (e.ev x).good = true) ∧ ∀ id, st id = none → K (.ptr id 0) (st.upd id (.obj (e.ev x).cells))
  | .build z parts => match fillA e parts (z.map AV.sh1) with
    | some cs => (cs.all AV.one = true ∧ z.all AV.one = true) ∧ K (.agg cs) st
    | none => False
  | .mk z n parts => match fillE e z.csize parts (List.replicate n z.sh) with
    | some es => z.good = true ∧ ∀ t, st t = none → K (.sl (.tip t z.csize) es) (st.upd t .tok)
    | none => False
  | .load g S a => match e.ev a with
    | .ptr id off => match st id with
      | some (.obj cs) => off + S ≤ cs.length ∧ (g = false → S = 1) ∧ K (partA g S off cs) st
      | _ => False
    | .rptr cs => S ≤ cs.length ∧ (g = false → S = 1) ∧ K (partA g S 0 cs) st
    | _ => False
  | .store S a x => match e.ev a with
    | .ptr id off => match st id with
      | some (.obj cs) => ((e.ev x).csize = S ∧ (e.ev x).good = true ∧ off + S ≤ cs.length) ∧ K (.tup []) (st.upd id (.obj (splice cs off (e.ev x).cells)))
      | _ => False
    | _ => False
  | .nilck x => match e.ev x with
    | .ptr id off => K (.ptr id off) st
    | .rptr cs => K (.rptr cs) st
    | .fn (.func f) a b => K (.fn (.func f) a b) st
    | _ => False
  | .arith op x y => match e.ev x, e.ev y with
    | .int k a, .int k' b => k = k' ∧ arithW op k a b fun n => K (.int k n) st
    | .str a, .str b => op = .add ∧ (a.length + b.length ≤ 9223372036854775807) ∧ K (.str (a ++ b)) st
    | _, _ => False
  | .cmp op x y => match e.ev x, e.ev y with
    | .int k a, .int k' b => k = k' ∧ isCmp op = true ∧ K (.bool (cmpI op a b)) st
    | .str a, .str b => isCmp op = true ∧ K (.bool (cmpS op a b)) st
    | _, _ => False
  | .cmpB neg x y => match e.ev x, e.ev y with
    | .bool a, .bool b => K (.bool (if neg then !(a == b) else a == b)) st
    | _, _ => False
  | .eqv kd neg x y => eqW kd x y (e.ev x) (e.ev y) fun b => K (.bool (if neg then !b else b)) st
  | .shift op x y => match e.ev x, e.ev y with
    | .int k a, .int _ b => 0 ≤ b ∧ (match op with
      | .shl => K (.int k (k.wrap (a * 2 ^ (min b.toNat k.bits)))) st
      | .shr => K (.int k (a.fdiv (2 ^ (min b.toNat k.bits)))) st
      | _ => False)
    | _, _ => False
  | .un op x => match op, e.ev x with
    | .not, .bool b => K (.bool (!b)) st
    | .neg, .int k n => K (.int k (k.wrap (0 - n))) st
    | .xor, .int k n => K (.int k (bits .xor k (if k.signed then -1 else k.max) n)) st
    | _, _ => False
  | .cvI k x => match e.ev x with
    | .int _ n => K (.int k (k.wrap n)) st
    | _ => False
  | .cvS x => match e.ev x with
    | .str s => K (.str s) st
    | _ => False
  | .cvSB x => match e.ev x with
    | .str s => s.length ≤ maxLen ∧ ∀ t, st t = none → K (.sl (.tip t 1) (bytesAV s)) (st.upd t .tok)
    | _ => False
  | .cvBS x => match e.ev x with
    | .sl _ es => match asBytes es with
      | some l => K (.str l) st
      | none => False
    | _ => False
  | .mkif t x => K (.iface t (e.ev x)) st
  | .mkfn f a b => K (.fn (.func f) (evs e a) (evs e b)) st
  | .mksl z bytes n c => match e.ev n, e.ev c with
    | .int _ n, .int _ c => (0 ≤ n ∧ n ≤ c ∧ c * bytes ≤ 140737488355328 ∧ c ≤ 9223372036854775807 ∧ z.good = true) ∧
        (if n = 0 then ∀ t, st t = none → K (.sl (.tip t z.csize) []) (st.upd t .tok)
         else ∀ id, st id = none → K (.ref id 0 n.toNat c.toNat) (st.upd id (.obj ((List.replicate c.toNat z.cells).flatten))))
    | _, _ => False
  | .slS x lo hi => match e.ev x with
    | .str s => bndW e lo 0 fun lo => bndW e hi s.length fun hi => sliceBoundOk lo hi s.length ∧ K (.str ((s.drop lo.toNat).take (hi.toNat - lo.toNat))) st
    | _ => False
  | .sl S x lo hi mx => match e.ev x with
    | .sl _ es => match mx with
      | none => bndW e lo 0 fun lo => bndW e hi es.length fun hi => sliceBoundOk lo hi es.length ∧ (es.all fun a => a.csize == S) = true ∧ K (.sl .sh ((es.drop lo.toNat).take (hi.toNat - lo.toNat))) st
      | some mx => let hi0 := hi.isSome; bndW e lo 0 fun lo => bndW e hi es.length fun hi => bndW e (some mx) 0 fun mx => sliceBoundOk lo hi es.length ∧ hi0 = true ∧ hi ≤ mx ∧ mx ≤ es.length ∧ (es.all fun a => a.csize == S) = true ∧
          K (if mx = lo then .sl .zero [] else .sl .sh ((es.drop lo.toNat).take (hi.toNat - lo.toNat))) st
    | .ref id off len cap => match mx with
      | none => bndW e lo 0 fun lo => bndW e hi len fun hi => sliceBoundOk lo hi cap ∧ K (.ref id (if lo = cap then off else off + lo.toNat * S) (hi.toNat - lo.toNat) (cap - lo.toNat)) st
      | some _ => False
    | _ => False
  | .faddr off x => match e.ev x with
    | .ptr id o => K (.ptr id (o + off)) st
    | .rptr cs => K (.rptr (cs.drop off)) st
    | _ => False
  | .fld g off S x => match e.ev x with
    | .agg cs => off + S ≤ cs.length ∧ (g = false → S = 1) ∧ K (partA g S off cs) st
    | _ => False
  | .iaddr S x i => match e.ev x, e.ev i with
    | .sl _ es, .int _ i => (0 ≤ i ∧ i < es.length) ∧ ((es.getD i.toNat .undef).csize = S ∧ K (.rptr (es.getD i.toNat .undef).cells) st)
    | .ref id off len _, .int _ i => (0 ≤ i ∧ i < len) ∧ K (.ptr id (off + i.toNat * S)) st
    | _, _ => False
  | .idxS x i => match e.ev x, e.ev i with
    | .str s, .int _ i => (0 ≤ i ∧ i < s.length) ∧ K (byteAV (s.getD i.toNat 0)) st
    | _, _ => False
  | .ext x i => match e.ev x with
    | .tup vs => i < vs.length ∧ K (vs.getD i .undef) st
    | _ => False
  | .call f args => match e.ev f with
    | .fn (.func g) a b => ACalls C g (a ++ evs e args ++ b) st K
    | _ => False
  | .app S bytes s x => match e.ev s with
    | .sl tk es => Appd S tk st ∧ (es.all fun a => a.csize == S) = true ∧
      (match e.ev x with
      | .sl _ fs => (fs.all fun a => a.csize == S) = true ∧ (((es.length : Int) + fs.length) * bytes ≤ 140737488355328 ∧ (es.length : Int) + fs.length ≤ maxLen) ∧
          ∀ tk' st', Appd S tk' st' → LeBut tk st st' → NewTk tk tk' st → K (.sl tk' (es ++ fs.map AV.sh)) st'
      | .ref id off n c => match st id with
        | some (.obj cs) => (S = 1 ∧ off + n ≤ cs.length) ∧ (((es.length : Int) + n) * bytes ≤ 140737488355328 ∧ (es.length : Int) + n ≤ maxLen) ∧
          ∀ tk' st', Appd S tk' st' → LeBut tk st st' → NewTk tk tk' st → K (.sl tk' (es ++ ((cs.drop off).take n).map AV.sh)) st'
        | _ => False
      | .str l => S = 1 ∧ (((es.length : Int) + l.length) * bytes ≤ 140737488355328 ∧ (es.length : Int) + l.length ≤ maxLen) ∧
          ∀ tk' st', Appd S tk' st' → LeBut tk st st' → NewTk tk tk' st → K (.sl tk' (es ++ bytesAV l)) st'
      | _ => False)
    | _ => False
  | .len x => match e.ev x with
    | .sl _ es => K (.int .i64 es.length) st
    | .ref _ _ n _ => K (.int .i64 n) st
    | _ => False
  | .lenS x => match e.ev x with
    | .str s => K (.int .i64 s.length) st
    | _ => False
  | .cap x => match e.ev x with
    | .sl _ es => ∀ c : Nat, es.length ≤ c → K (.int .i64 c) st
    | .ref _ _ _ c => K (.int .i64 c) st
    | _ => False
  | .copy S d s => match e.ev d with
    | .ref id off n _ => match st id with
      | some (.obj cs) => match e.ev s with
        | .sl _ fs => off + n * S ≤ cs.length ∧ (fs.all fun a => a.csize == S) = true ∧
            K (.int .i64 (min fs.length n : Nat)) (st.upd id (.obj (splice cs off ((fs.take n).map AV.cells).flatten)))
        | _ => False
      | _ => False
    | _ => False
  | .min2 x y => match e.ev x, e.ev y with
    | .int k a, .int _ b => K (.int k (if b < a then b else a)) st
    | _, _ => False
  | .max2 x y => match e.ev x, e.ev y with
    | .int k a, .int _ b => K (.int k (if b > a then b else a)) st
    | _, _ => False

/-- What goes on behind an operation. -/
def KC (N : Env → St → Prop) (dst : Option Nat) (e : Env) : AV → St → Prop := fun v st => N (e.put dst v) st

/-- An operation that a guard may leave out. -/
def VG (g : AV) (want : Bool) (A B : Env → St → Prop) (e : Env) (st : St) : Prop :=
  match g with
  | .bool b => (b = want → A e st) ∧ ((!b) = want → B e st)
  | .tup _ => B e st
  | _ => False

def vcOps (C : Ctx) (K : Env → St → Prop) : List AOper → Env → St → Prop
  | [], e, st => K e st
  | o :: r, e, st => match o.gd with
    | none => opW C o.op e st (KC (vcOps C K r) o.dst e)
    | some (s, want) => VG (e.get s) want (fun e st => opW C o.op e st (KC (vcOps C K r) o.dst e)) (fun e st => KC (vcOps C K r) o.dst e (.tup []) st) e st

/-- A region whose order is open: each operation, whatever new there is in the state, gives one and the same value. -/
def vcDraw (C : Ctx) (st0 : St) (K : Env → Prop) : List AOper → Env → Prop
  | [], e => K e
  | o :: r, e => match o.gd with
    | none => ∃ v, (∀ st, st0.le st → opW C o.op e st fun r st' => r = v ∧ st.le st') ∧ vcDraw C st0 K r (e.put o.dst v)
    | some (s, want) => match e.get s with
      | .bool b => (b = want → ∃ v, (∀ st, st0.le st → opW C o.op e st fun r st' => r = v ∧ st.le st') ∧ vcDraw C st0 K r (e.put o.dst v)) ∧ ((!b) = want → vcDraw C st0 K r (e.put o.dst (.tup [])))
      | .tup _ => vcDraw C st0 K r (e.put o.dst (.tup []))
      | _ => False

abbrev Post := Exit → Env → St → Prop

def thenK (N : Env → St → Prop) (K : Post) : Post
  | .normal, e, st => N e st
  | x, e, st => K x e st

def blockK (id : Nat) (K : Post) : Post
  | .exit i, e, st => if i = id then K .normal e st else K (.exit i) e st
  | x, e, st => K x e st

def noGotoK (K : Post) : Post
  | .goto _, _, _ => False
  | x, e, st => K x e st

def VCond (c : AV) (X Y : Post → Env → St → Prop) (K : Post) (e : Env) (st : St) : Prop :=
  match c with
  | .bool b => (b = true → X K e st) ∧ (b = false → Y K e st)
  | _ => False

/-- A loop: J n holds at a round's head, n falling from round to round. -/
def VLoop (B : Post → Env → St → Prop) (K : Post) (e : Env) (st : St) : Prop :=
  ∃ J : Nat → Env → St → Prop, (∃ n, J n e st) ∧ ∀ n e st, J n e st → B (thenK (fun e' st' => ∃ m, m < n ∧ J m e' st') K) e st

def vc (C : Ctx) : ACode → Post → Env → St → Prop
  | .skip, K, e, st => K .normal e st
  | .bad, _, _, _ => False
  | .ops l, K, e, st => vcOps C (K .normal) l e st
  | .draw l, K, e, st => vcDraw C st (fun e' => ∀ st', st.le st' → K .normal e' st') l e
  | .seq a b, K, e, st => vc C a (thenK (vc C b K) K) e st
  | .cond c x y, K, e, st => VCond (e.ev c) (vc C x) (vc C y) K e st
  | .block id b, K, e, st => vc C b (blockK id K) e st
  | .loop b, K, e, st => VLoop (vc C b) K e st
  | .exit id, K, e, st => K (.exit id) e st
  | .scope b, K, e, st => vc C b (noGotoK K) e st
  | .ret, K, e, st => K .ret e st

/-- Code without the ghost operations. -/
def AOper.ghost (o : AOper) : Bool := match o.op with
  | .frz d => o.dst == some d && o.gd.isNone
  | _ => false

def eraseOps (l : List AOper) : List AOper := l.filter fun o => !o.ghost

def erase : ACode → ACode
  | .ops l => .ops (eraseOps l)
  | .seq a b => .seq (erase a) (erase b)
  | .cond c x y => .cond c (erase x) (erase y)
  | .block id b => .block id (erase b)
  | .loop b => .loop (erase b)
  | .scope b => .scope (erase b)
  | c => c

/-- One result. -/
def resA (e : Env) (st : St) : ARes → Option AV
  | .t n => some (e.get n)
  | .cell t g S => match e.get t with
    | .ptr id off => match st id with
      | some (.obj cs) => if off + S ≤ cs.length ∧ (g = false → S = 1) then some (partA g S off cs) else none
      | _ => none
    | _ => none

def resAs (e : Env) (st : St) : List ARes → Option (List AV)
  | [] => some []
  | r :: rs => match resA e st r, resAs e st rs with
    | some v, some vs => some (v :: vs)
    | _, _ => none

def tupOf (vs : List AV) : AV := match vs with
  | [v] => v
  | vs => .tup vs

/-- Behind a function's body. -/
def endK (rs : List ARes) (K : AV → St → Prop) : Post
  | .normal, e, st | .ret, e, st => match resAs e st rs with
    | some vs => K (tupOf vs) st
    | none => False
  | _, _, _ => False

def argEnv : Nat → List AV → Env
  | _, [] => []
  | i, a :: r => (i, a) :: argEnv (i + 1) r

end Go.AW
