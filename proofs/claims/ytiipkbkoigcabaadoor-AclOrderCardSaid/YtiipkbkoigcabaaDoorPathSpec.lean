/- Paths and patterns, in plain Lean: what the packages path and policy compute. No condition, no program. -/
import Derived.Lib.Split
namespace Go.Proofs.YtiipkbkoigcabaaDoor
open Go Go.Lib
set_option linter.unusedVariables false
set_option linter.unusedSimpArgs false

abbrev Bs := List UInt8

/-- A text by a byte. -/
def cut (c : UInt8) : Bs → List Bs
  | [] => [[]]
  | b :: l => if b = c then [] :: cut c l else match cut c l with
    | h :: t => (b :: h) :: t
    | [] => [[b]]

theorem cut_ne (c : UInt8) (s : Bs) : cut c s ≠ [] := by
  cases s with
  | nil => simp [cut]
  | cons b l => simp only [cut]; split; simp; split <;> simp

theorem cut_none {c : UInt8} : ∀ {s : Bs}, indexByte s c = -1 → cut c s = [s]
  | [], _ => rfl
  | b :: l, h => by
    unfold indexByte at h
    by_cases e : b = c
    · subst e; simp at h
    · have e' : (b == c) = false := by simpa using e
      simp only [e', Bool.false_eq_true, if_false] at h
      by_cases h1 : indexByte l c = -1
      · simp [cut, e, cut_none h1]
      · have := indexByte_ge l c
        simp [h1] at h
        omega

theorem cut_hit {c : UInt8} : ∀ {s : Bs} {i : Nat}, indexByte s c = i → cut c s = s.take i :: cut c (s.drop (i + 1))
  | [], i, h => by simp [indexByte] at h
  | b :: l, i, h => by
    unfold indexByte at h
    by_cases e : b = c
    · subst e
      simp at h
      have : i = 0 := by omega
      subst this
      simp [cut]
    · have e' : (b == c) = false := by simpa using e
      simp only [e', Bool.false_eq_true, if_false] at h
      by_cases h1 : indexByte l c = -1
      · simp [h1] at h
      · have h2 : (indexByte l c == -1) = false := by simpa using h1
        simp only [h2, Bool.false_eq_true, if_false] at h
        obtain ⟨k, rfl⟩ : ∃ k, i = k + 1 := ⟨i - 1, by have := indexByte_ge l c; omega⟩
        have h3 : indexByte l c = k := by omega
        simp [cut, e, cut_hit h3]

theorem splitB_cut (c : UInt8) : ∀ (k : Nat) (s : ByteArray), countB s ⟨#[c]⟩ = k → (splitB ⟨#[c]⟩ 0 k s).map (fun b => b.data.toList) = cut c s.data.toList
  | 0, s, h => by
    have hi : indexB s ⟨#[c]⟩ = -1 := by
      by_cases h1 : indexB s ⟨#[c]⟩ = -1
      · exact h1
      · have hge := index_ge s.data.toList (ByteArray.mk #[c]).data.toList
        obtain ⟨i, hi⟩ : ∃ i : Nat, indexB s ⟨#[c]⟩ = i := ⟨(indexB s ⟨#[c]⟩).toNat, by have := hge; simp only [indexB] at *; omega⟩
        have := countB_hit s ⟨#[c]⟩ i (by simp [ByteArray.size]) hi
        omega
    have hi' : indexByte s.data.toList c = -1 := by rw [← index_one]; exact hi
    simp [splitB_zero, cut_none hi']
  | k + 1, s, h => by
    have hge := index_ge s.data.toList (ByteArray.mk #[c]).data.toList
    have hne : indexB s ⟨#[c]⟩ ≠ -1 := fun e => by rw [countB_miss s _ e] at h; omega
    obtain ⟨i, hi⟩ : ∃ i : Nat, indexB s ⟨#[c]⟩ = i := ⟨(indexB s ⟨#[c]⟩).toNat, by simp only [indexB] at *; omega⟩
    have hc := countB_hit s ⟨#[c]⟩ i (by simp [ByteArray.size]) hi
    have hi' : indexByte s.data.toList c = i := by rw [← index_one]; exact hi
    have hs1 : (ByteArray.mk #[c]).size = 1 := rfl
    rw [splitB_hit _ _ _ _ _ hi, cut_hit hi']
    rw [hs1] at hc ⊢
    have ih := splitB_cut c k (s.extract (i + 1) s.size) (by omega)
    simp only [List.map_cons, ih]
    have e1 : (s.extract 0 (i + 0)).data.toList = s.data.toList.take i := by rw [ByteArray.data_extract, Array.toList_extract, List.extract_eq_take_drop]; simp
    have e2 : (s.extract (i + 1) s.size).data.toList = s.data.toList.drop (i + 1) := extract_to_end s (i + 1)
    rw [e1, e2]

theorem splitB_len (sep : ByteArray) (save : Nat) (c : UInt8) (s : ByteArray) : (splitB ⟨#[c]⟩ 0 (countB s ⟨#[c]⟩) s).length = countB s ⟨#[c]⟩ + 1 := by
  have : ∀ (k : Nat) (s : ByteArray), countB s ⟨#[c]⟩ = k → (splitB ⟨#[c]⟩ 0 k s).length = k + 1 := by
    intro k
    induction k with
    | zero => intro s _; rfl
    | succ k ih =>
      intro s h
      have hge := index_ge s.data.toList (ByteArray.mk #[c]).data.toList
      have hne : indexB s ⟨#[c]⟩ ≠ -1 := fun e => by rw [countB_miss s _ e] at h; omega
      obtain ⟨i, hi⟩ : ∃ i : Nat, indexB s ⟨#[c]⟩ = i := ⟨(indexB s ⟨#[c]⟩).toNat, by simp only [indexB] at *; omega⟩
      have hc := countB_hit s ⟨#[c]⟩ i (by simp [ByteArray.size]) hi
      have hs1 : (ByteArray.mk #[c]).size = 1 := rfl
      rw [splitB_hit _ _ _ _ _ hi]
      rw [hs1] at hc ⊢
      simp [ih _ (show countB (s.extract (i + 1) s.size) ⟨#[c]⟩ = k by omega)]
  exact this _ s rfl

theorem cut_length_le (c : UInt8) (s : Bs) : (cut c s).length ≤ s.length + 1 := by
  induction s with
  | nil => simp [cut]
  | cons b l ih =>
    simp only [cut]
    split
    · simp; omega
    · split
      · rename_i h; rw [h] at ih; simp at ih ⊢; omega
      · simp

theorem cut_mem_le (c : UInt8) (s : Bs) : ∀ x ∈ cut c s, x.length ≤ s.length := by
  induction s with
  | nil => simp [cut]
  | cons b l ih =>
    intro x hx
    simp only [cut] at hx
    split at hx
    · rcases List.mem_cons.1 hx with rfl | h
      · simp
      · have := ih x h; simp; omega
    · split at hx
      · rename_i h t e
        rcases List.mem_cons.1 hx with rfl | h'
        · have := ih h (by rw [e]; simp); simp; omega
        · have := ih x (by rw [e]; simp [h']); simp; omega
      · simp at hx; subst hx; simp

/-! ### Package path -/
def fine : Bs := [97, 98, 99, 100, 101, 102, 103, 104, 105, 106, 107, 108, 109, 110, 111, 112, 113, 114, 115, 116, 117, 118, 119, 120, 121, 122, 48, 49, 50, 51, 52, 53, 54, 55, 56, 57, 95, 45]
def isName (s : Bs) : Bool := !(s == []) && (decide ((s.length : Int) ≤ 16) && (s.dropWhile (fine.contains ·) == []))
def splitP (p : Bs) : Option (List Bs) := if (cut 47 p).length ≤ 6 ∧ p.length ≤ 64 ∧ (cut 47 p).all isName = true then some (cut 47 p) else none
abbrev Part := Nat × Bs
def ofP (s : Bs) (last : Bool) : Part × Bool :=
  if s = [43] then ((2, []), true)
  else if s.getLast? = some 42 then ((1, s.dropLast), last && (s.dropLast == [] || isName s.dropLast))
  else ((3, s), isName s)
/-- Parts, the last one last. -/
def partsL : List Bs → Option (List Part)
  | [] => some []
  | s :: r => if (ofP s r.isEmpty).2 = true then (partsL r).map fun l => (ofP s r.isEmpty).1 :: l else none
def parts (p : Bs) : Option (List Part) := if (cut 47 p).length ≤ 6 ∧ p.length ≤ 64 then partsL (cut 47 p) else none
def hasPfx (s p : Bs) : Bool := decide (p.length ≤ s.length) && (s.take p.length == p)
def means (x : Part) (s : Bs) : Bool := if x.1 = 2 then true else if x.1 = 1 then hasPfx s x.2 else x.2 == s
def matchP (pattern p : Bs) : Bool :=
  match parts pattern, splitP p with
  | some l, some names => decide (l.length ≤ names.length) && ((l.zip names).all (fun q => means q.1 q.2) && (decide (names.length = l.length) || decide ((l.getLast?.map (·.1)) = some 1)))
  | _, _ => false
def atP (l : List Part) (i : Nat) : Nat := ((l[i]?).map (·.1)).getD 0
def cmpN (a b : Nat) : Int := if a < b then -1 else if b < a then 1 else 0
def cmpAt (x y : List Part) : Nat → Nat → Int
  | _, 0 => 0
  | i, n + 1 => if cmpN (atP x i) (atP y i) = 0 then cmpAt x y (i + 1) n else cmpN (atP x i) (atP y i)
def moreL (x y : List Part) : Int :=
  if cmpAt x y 0 (max x.length y.length) = 0 then
    (if (x.getLast?.map (·.1)) = some 1 then cmpN ((x.getLast?.map (·.2.length)).getD 0) ((y.getLast?.map (·.2.length)).getD 0) else 0)
  else cmpAt x y 0 (max x.length y.length)
def more (a b : Bs) : Int := match parts a, parts b with
  | some x, some y => moreL x y
  | _, _ => 0
end Go.Proofs.YtiipkbkoigcabaaDoor
