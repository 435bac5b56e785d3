/- Rules, in plain Lean: what the packages policy and acl compute. No condition, no program. -/
import Derived.Test.YtiipkbkoigcabaaDoorPathSpec
namespace Go.Proofs.YtiipkbkoigcabaaDoor
open Go Go.Lib
set_option linter.unusedVariables false
set_option linter.unusedSimpArgs false

abbrev Rule := Bs × UInt8
def hasP (l : List Rule) (p : Bs) : Bool := l.any fun r => r.1 == p
def mayC (c : UInt8) : Bool := decide (1 ≤ c.toNat) && decide (c.toNat ≤ 32)
def okR (before : List Rule) (r : Rule) : Bool := (parts r.1).isSome && !hasP before r.1 && mayC r.2
def okL : List Rule → List Rule → Bool
  | _, [] => true
  | b, r :: rest => okR b r && okL (b ++ [r]) rest
def checkP (l : List Rule) : Bool := decide (l.length ≤ 16) && okL [] l
def rulesP (l : List (List Rule)) : List Rule := (l.filter checkP).flatten
structure Said where
  best : Bs
  caps : UInt8
  is : Bool
def sayStep (p : Bs) (s : Said) (r : Rule) : Said :=
  if matchP r.1 p = false then s
  else if s.is = false ∨ more r.1 s.best > 0 then ⟨r.1, r.2, true⟩
  else if r.1 = s.best then ⟨s.best, s.caps ||| r.2, s.is⟩
  else s
def sayAll (l : List Rule) (p : Bs) : Said := l.foldl (sayStep p) ⟨[], 0, false⟩
def denied (c : UInt8) : UInt8 := if c &&& 32 = 0 then c else 32
def saysP (l : List (List Rule)) (p : Bs) : Said := let s := sayAll (rulesP l) p; ⟨s.best, denied s.caps, s.is⟩
def wds : List Bs := [[114, 101, 97, 100], [119, 114, 105, 116, 101], [100, 101, 108, 101, 116, 101], [108, 105, 115, 116], [115, 117, 100, 111], [100, 101, 110, 121]]
def bitOn (c : UInt8) (i : Nat) : Bool := c.toNat / 2 ^ i % 2 == 1
def wordsN (c : UInt8) (k : Nat) : List Bs := ((List.range k).filter (bitOn c)).map fun i => wds.getD i []
def wordsOf (c : UInt8) : List Bs := wordsN c 6
def allowsP (l : List (List Rule)) (p : Bs) (c : UInt8) : Bool := decide ((wordsOf c).length = 1) && (c &&& 31 == c) && !((saysP l p).caps &&& c == 0)
end Go.Proofs.YtiipkbkoigcabaaDoor
