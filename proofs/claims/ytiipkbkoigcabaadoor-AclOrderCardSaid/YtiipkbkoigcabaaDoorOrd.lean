/- What says most of a path, in plain Lean: it does not depend on an order. No condition, no program. -/
import Derived.Test.YtiipkbkoigcabaaDoorPolSpec
namespace Go.Proofs.YtiipkbkoigcabaaDoor
open Go Go.Lib
set_option linter.unusedVariables false
set_option linter.unusedSimpArgs false

/-! ### Which pattern says more -/
theorem cmpN_pos {a b : Nat} : cmpN a b > 0 ↔ b < a := by
  unfold cmpN; split
  · constructor <;> intro h <;> omega
  · split
    · constructor <;> intro h <;> omega
    · constructor <;> intro h <;> omega
theorem cmpN_zero {a b : Nat} : cmpN a b = 0 ↔ a = b := by
  unfold cmpN; split
  · constructor <;> intro h <;> omega
  · split
    · constructor <;> intro h <;> omega
    · constructor <;> intro h <;> omega
theorem cmpN_neg {a b : Nat} : cmpN a b < 0 ↔ a < b := by
  unfold cmpN; split
  · constructor <;> intro h <;> omega
  · split
    · constructor <;> intro h <;> omega
    · constructor <;> intro h <;> omega

/-- Where two differ first. -/
theorem cmpAt_cases (x y : List Part) : ∀ (n i : Nat), (cmpAt x y i n = 0 ∧ ∀ j, i ≤ j → j < i + n → atP x j = atP y j) ∨
    ∃ j, i ≤ j ∧ j < i + n ∧ (∀ k, i ≤ k → k < j → atP x k = atP y k) ∧ atP x j ≠ atP y j ∧ cmpAt x y i n = cmpN (atP x j) (atP y j)
  | 0, i => .inl ⟨rfl, fun j h1 h2 => by omega⟩
  | n + 1, i => by
    rw [cmpAt]
    by_cases h : cmpN (atP x i) (atP y i) = 0
    · rw [if_pos h]
      have he := cmpN_zero.1 h
      rcases cmpAt_cases x y n (i + 1) with ⟨h1, h2⟩ | ⟨j, h1, h2, h3, h4, h5⟩
      · refine .inl ⟨h1, fun j h3 h4 => ?_⟩
        by_cases hj : j = i
        · subst hj; exact he
        · exact h2 j (by omega) (by omega)
      · refine .inr ⟨j, by omega, by omega, fun k h6 h7 => ?_, h4, h5⟩
        by_cases hk : k = i
        · subst hk; exact he
        · exact h3 k (by omega) h7
    · rw [if_neg h]
      exact .inr ⟨i, Nat.le_refl _, by omega, fun k h1 h2 => by omega, fun e => h (cmpN_zero.2 e), rfl⟩

theorem atP_out {x : List Part} {i : Nat} (h : x.length ≤ i) : atP x i = 0 := by simp [atP, List.getElem?_eq_none h]
theorem atP_in {x : List Part} {i : Nat} (h : i < x.length) : atP x i = x[i].1 := by simp [atP, h]

/-- The pattern's parts, as they mean a path. -/
structure Means (x : List Part) (names : List Bs) : Prop where
  ne : x ≠ []
  le : x.length ≤ names.length
  part : ∀ (i : Nat) (h : i < x.length), (x[i].1 = 2 ∧ x[i].2 = []) ∨ (x[i].1 = 3 ∧ x[i].2 = names[i]'(by omega)) ∨ (x[i].1 = 1 ∧ i + 1 = x.length ∧ hasPfx (names[i]'(by omega)) x[i].2 = true)
  full : names.length = x.length ∨ (x.getLast?.map (·.1)) = some 1

def lastLen (x : List Part) : Nat := if (x.getLast?.map (·.1)) = some 1 then (x.getLast?.map (·.2.length)).getD 0 else 0

theorem moreL_eq (x y : List Part) : moreL x y = if cmpAt x y 0 (max x.length y.length) = 0 then (if (x.getLast?.map (·.1)) = some 1 then cmpN ((x.getLast?.map (·.2.length)).getD 0) ((y.getLast?.map (·.2.length)).getD 0) else 0) else cmpAt x y 0 (max x.length y.length) := rfl

theorem Means.at_pos {x : List Part} {names : List Bs} (h : Means x names) {i : Nat} (hi : i < x.length) : 0 < atP x i := by
  rw [atP_in hi]
  rcases h.part i hi with h | h | h <;> omega

/-- All kinds the same: as long, and the same kind at the end. -/
theorem same_len {x y : List Part} {names : List Bs} (hx : Means x names) (hy : Means y names) (h : ∀ j, j < max x.length y.length → atP x j = atP y j) : x.length = y.length := by
  rcases Nat.lt_trichotomy x.length y.length with hlt | he | hlt
  · have := h x.length (by omega)
    rw [atP_out (Nat.le_refl _)] at this
    have := hy.at_pos hlt
    omega
  · exact he
  · have := h y.length (by omega)
    rw [atP_out (Nat.le_refl y.length)] at this
    have := hx.at_pos hlt
    omega

theorem lastKind {x : List Part} (h : x ≠ []) : (x.getLast?.map (·.1)) = some (atP x (x.length - 1)) := by
  have hl : x.length - 1 < x.length := by
    have := List.length_pos_iff.2 h; omega
  rw [atP_in hl, List.getLast?_eq_some_getLast h, List.getLast_eq_getElem]
  rfl

theorem same_last {x y : List Part} {names : List Bs} (hx : Means x names) (hy : Means y names) (h : ∀ j, j < max x.length y.length → atP x j = atP y j) : (x.getLast?.map (·.1)) = (y.getLast?.map (·.1)) := by
  have hl := same_len hx hy h
  have := List.length_pos_iff.2 hx.ne
  rw [lastKind hx.ne, lastKind hy.ne, ← hl, h _ (by omega)]

theorem moreL_cases {x y : List Part} {names : List Bs} (hx : Means x names) (hy : Means y names) :
    ((∀ j, j < max x.length y.length → atP x j = atP y j) ∧ moreL x y = cmpN (lastLen x) (lastLen y)) ∨
    ∃ j, j < max x.length y.length ∧ (∀ k, k < j → atP x k = atP y k) ∧ atP x j ≠ atP y j ∧ moreL x y = cmpN (atP x j) (atP y j) := by
  rw [moreL_eq]
  rcases cmpAt_cases x y (max x.length y.length) 0 with ⟨h1, h2⟩ | ⟨j, h1, h2, h3, h4, h5⟩
  · have h2 : ∀ j, j < max x.length y.length → atP x j = atP y j := fun j hj => h2 j (Nat.zero_le _) (by omega)
    refine .inl ⟨h2, ?_⟩
    rw [if_pos h1]
    have hs := same_last hx hy h2
    unfold lastLen
    rw [← hs]
    split
    · rfl
    · rw [cmpN_zero.2 rfl]
  · refine .inr ⟨j, by omega, fun k hk => h3 k (Nat.zero_le _) hk, h4, ?_⟩
    rw [h5, if_neg (fun e => h4 (cmpN_zero.1 e))]

/-- Beyond both, the kinds are the same. -/
theorem at_beyond {x y : List Part} (h : ∀ j, j < max x.length y.length → atP x j = atP y j) (j : Nat) : atP x j = atP y j := by
  by_cases hj : j < max x.length y.length
  · exact h j hj
  · rw [atP_out (by omega), atP_out (by omega)]

/-- 'a says more than b', by places. -/
def Gt (x y : List Part) : Prop := (∃ j, (∀ k, k < j → atP x k = atP y k) ∧ atP y j < atP x j) ∨ ((∀ j, atP x j = atP y j) ∧ lastLen y < lastLen x)

theorem moreL_gt {x y : List Part} {names : List Bs} (hx : Means x names) (hy : Means y names) : moreL x y > 0 ↔ Gt x y := by
  rcases moreL_cases hx hy with ⟨h1, h2⟩ | ⟨j, h1, h2, h3, h4⟩
  · rw [h2, cmpN_pos]
    have hb := at_beyond h1
    constructor
    · intro h; exact .inr ⟨hb, h⟩
    · rintro (⟨j, _, hj⟩ | ⟨_, h⟩)
      · rw [hb j] at hj; omega
      · exact h
  · rw [h4, cmpN_pos]
    constructor
    · intro h; exact .inl ⟨j, h2, h⟩
    · rintro (⟨i, hi1, hi2⟩ | ⟨h, _⟩)
      · rcases Nat.lt_trichotomy i j with hlt | he | hlt
        · have := h2 i hlt; omega
        · subst he; exact hi2
        · exact absurd (hi1 j hlt) h3
      · exact absurd (h j) h3

theorem Gt.irrefl (x : List Part) : ¬ Gt x x := by
  rintro (⟨j, _, h⟩ | ⟨_, h⟩) <;> omega

theorem Gt.trans {x y z : List Part} (h : Gt x y) (k : Gt y z) : Gt x z := by
  rcases h with ⟨j, h1, h2⟩ | ⟨h1, h2⟩
  · rcases k with ⟨i, k1, k2⟩ | ⟨k1, k2⟩
    · rcases Nat.lt_trichotomy i j with hlt | he | hlt
      · exact .inl ⟨i, fun k hk => (h1 k (by omega)).trans (k1 k hk), by rw [h1 i hlt]; exact k2⟩
      · subst he; exact .inl ⟨i, fun k hk => (h1 k hk).trans (k1 k hk), by omega⟩
      · exact .inl ⟨j, fun k hk => (h1 k hk).trans (k1 k (by omega)), by rw [← k1 j hlt]; exact h2⟩
    · exact .inl ⟨j, fun k hk => (h1 k hk).trans (k1 k), by rw [← k1 j]; exact h2⟩
  · rcases k with ⟨i, k1, k2⟩ | ⟨k1, k2⟩
    · exact .inl ⟨i, fun k hk => (h1 k).trans (k1 k hk), by rw [h1 i]; exact k2⟩
    · exact .inr ⟨fun j => (h1 j).trans (k1 j), by omega⟩

theorem Gt.total (x y : List Part) : Gt x y ∨ Gt y x ∨ ((∀ j, atP x j = atP y j) ∧ lastLen x = lastLen y) := by
  by_cases h : ∀ j, atP x j = atP y j
  · rcases Nat.lt_trichotomy (lastLen x) (lastLen y) with h1 | h1 | h1
    · exact .inr (.inl (.inr ⟨fun j => (h j).symm, h1⟩))
    · exact .inr (.inr ⟨h, h1⟩)
    · exact .inl (.inr ⟨h, h1⟩)
  · have hex : ∃ j, atP x j ≠ atP y j := Classical.not_forall.1 h
    have : ∀ n, (∀ j, j < n → atP x j = atP y j) ∨ ∃ j, (∀ k, k < j → atP x k = atP y k) ∧ atP x j ≠ atP y j := by
      intro n
      induction n with
      | zero => exact .inl fun j hj => by omega
      | succ n ih =>
        rcases ih with ih | ih
        · by_cases hn : atP x n = atP y n
          · refine .inl fun j hj => ?_
            by_cases hjn : j = n
            · subst hjn; exact hn
            · exact ih j (by omega)
          · exact .inr ⟨n, ih, hn⟩
        · exact .inr ih
    obtain ⟨m, hm⟩ := hex
    rcases this (m + 1) with h1 | ⟨j, h1, h2⟩
    · exact absurd (h1 m (by omega)) hm
    · rcases Nat.lt_or_gt_of_ne h2 with h3 | h3
      · exact .inr (.inl (.inl ⟨j, fun k hk => (h1 k hk).symm, h3⟩))
      · exact .inl (.inl ⟨j, h1, h3⟩)

theorem pfx_eq {s a b : Bs} (ha : hasPfx s a = true) (hb : hasPfx s b = true) (h : a.length = b.length) : a = b := by
  simp only [hasPfx, Bool.and_eq_true, beq_iff_eq, decide_eq_true_eq] at ha hb
  rw [← ha.2, ← hb.2, h]

/-- Of two patterns that mean one path, neither says more: then they have the same parts. -/
theorem same_parts {x y : List Part} {names : List Bs} (hx : Means x names) (hy : Means y names) (h : ∀ j, atP x j = atP y j) (hl : lastLen x = lastLen y) : x = y := by
  have hlen := same_len hx hy fun j _ => h j
  have hlast := same_last hx hy fun j _ => h j
  refine List.ext_getElem hlen fun i h1 h2 => ?_
  have hk := h i
  rw [atP_in h1, atP_in h2] at hk
  refine Prod.ext hk ?_
  rcases hx.part i h1 with ⟨a1, a2⟩ | ⟨a1, a2⟩ | ⟨a1, a2, a3⟩
  · rcases hy.part i h2 with ⟨b1, b2⟩ | ⟨b1, b2⟩ | ⟨b1, b2, b3⟩
    · rw [a2, b2]
    · omega
    · omega
  · rcases hy.part i h2 with ⟨b1, b2⟩ | ⟨b1, b2⟩ | ⟨b1, b2, b3⟩
    · omega
    · rw [a2, b2]
    · omega
  · rcases hy.part i h2 with ⟨b1, b2⟩ | ⟨b1, b2⟩ | ⟨b1, b2, b3⟩
    · omega
    · omega
    · refine pfx_eq a3 b3 ?_
      have e1 : x.getLast? = some x[i] := by
        rw [List.getLast?_eq_some_getLast hx.ne, List.getLast_eq_getElem]
        congr 2; omega
      have e2 : y.getLast? = some y[i] := by
        rw [List.getLast?_eq_some_getLast hy.ne, List.getLast_eq_getElem]
        congr 2; omega
      simp only [lastLen, e1, e2, Option.map_some, a1, b1, if_true, Option.getD_some] at hl
      exact hl

/-! ### Out of parts the pattern comes back -/
def unPart (x : Part) : Bs := if x.1 = 2 then [43] else if x.1 = 1 then x.2 ++ [42] else x.2
theorem unPart_of (s : Bs) (last : Bool) : unPart (ofP s last).1 = s := by
  unfold ofP
  split
  · rename_i h; subst h; rfl
  · split
    · rename_i h1 h2
      rcases List.eq_nil_or_concat s with rfl | ⟨l, b, rfl⟩
      · simp at h2
      · simp at h2
        subst h2
        simp [unPart]
    · simp [unPart]
def glue (c : UInt8) : List Bs → Bs
  | [] => []
  | [a] => a
  | a :: r => a ++ c :: glue c r
theorem glue_cons (c : UInt8) (a : Bs) {r : List Bs} (h : r ≠ []) : glue c (a :: r) = a ++ c :: glue c r := by
  cases r with
  | nil => exact absurd rfl h
  | cons b t => rfl
theorem glue_cut (c : UInt8) : ∀ s : Bs, glue c (cut c s) = s
  | [] => rfl
  | b :: l => by
    have ih := glue_cut c l
    simp only [cut]
    split
    · rename_i h
      rw [glue_cons c _ (cut_ne c l), ih, h]; rfl
    · split
      · rename_i h t e
        rw [e] at ih
        cases t with
        | nil => simp [glue] at ih ⊢; exact ih
        | cons u v => simp [glue] at ih ⊢; exact ih
      · rename_i e; exact absurd e (cut_ne c l)
theorem partsL_un : ∀ {L : List Bs} {l : List Part}, partsL L = some l → l.map unPart = L
  | [], l, h => by cases h; rfl
  | s :: r, l, h => by
    rw [partsL] at h
    split at h
    · cases hp : partsL r <;> simp [hp] at h
      subst h
      simp [partsL_un hp, unPart_of]
    · cases h
theorem parts_inj {a b : Bs} {l : List Part} (ha : parts a = some l) (hb : parts b = some l) : a = b := by
  unfold parts at ha hb
  split at ha
  · split at hb
    · rw [← glue_cut 47 a, ← glue_cut 47 b, ← partsL_un ha, ← partsL_un hb]
    · cases hb
  · cases ha

theorem ofP_kind (s : Bs) (last : Bool) (h : (ofP s last).2 = true) : ((ofP s last).1.1 = 2 ∧ (ofP s last).1.2 = []) ∨ (ofP s last).1.1 = 3 ∨ ((ofP s last).1.1 = 1 ∧ last = true) := by
  unfold ofP at h ⊢
  split at h
  · rename_i h1; simp [h1]
  · split at h
    · rename_i h1 h2; simp only [if_neg h1, if_pos h2] at *
      simp only [Bool.and_eq_true] at h
      simp [h.1]
    · rename_i h1 h2; simp [if_neg h1, if_neg h2]

theorem partsL_kind : ∀ {L : List Bs} {l : List Part}, partsL L = some l → ∀ (i : Nat) (h : i < l.length), (l[i].1 = 2 ∧ l[i].2 = []) ∨ l[i].1 = 3 ∨ (l[i].1 = 1 ∧ i + 1 = l.length)
  | [], l, h, i, hi => by cases h; simp at hi
  | s :: r, l, h, i, hi => by
    rw [partsL] at h
    split at h
    · rename_i hok
      cases hp : partsL r with
      | none => simp [hp] at h
      | some m =>
        simp [hp] at h
        subst h
        cases i with
        | zero =>
          rcases ofP_kind s r.isEmpty hok with h1 | h1 | h1
          · exact .inl h1
          · exact .inr (.inl h1)
          · refine .inr (.inr ⟨h1.1, ?_⟩)
            have hr : r = [] := by simpa using h1.2
            subst hr
            cases hp
            rfl
        | succ i =>
          have := partsL_kind hp i (by simpa using hi)
          simpa using this
    · cases h

theorem parts_kind {s : Bs} {l : List Part} (h : parts s = some l) : ∀ (i : Nat) (h : i < l.length), (l[i].1 = 2 ∧ l[i].2 = []) ∨ l[i].1 = 3 ∨ (l[i].1 = 1 ∧ i + 1 = l.length) := by
  unfold parts at h
  split at h
  · exact partsL_kind h
  · cases h

theorem partsL_nil {L : List Bs} {l : List Part} (h : partsL L = some l) (hL : L ≠ []) : l ≠ [] := by
  intro e; subst e
  have := partsL_un h
  simp at this
  exact hL this

theorem means_of {a p : Bs} (h : matchP a p = true) : ∃ l names, parts a = some l ∧ splitP p = some names ∧ Means l names := by
  unfold matchP at h
  split at h
  · rename_i l names h1 h2
    simp only [Bool.and_eq_true, Bool.or_eq_true, decide_eq_true_eq] at h
    obtain ⟨g1, g2, g3⟩ := h
    refine ⟨l, names, h1, h2, ?_, g1, fun i hi => ?_, g3⟩
    · unfold parts at h1
      split at h1
      · exact partsL_nil h1 (cut_ne 47 a)
      · cases h1
    · have hz : i < (l.zip names).length := by simp; omega
      have hm := List.all_eq_true.1 g2 _ (List.getElem_mem hz)
      rw [List.getElem_zip] at hm
      simp only [means] at hm
      rcases parts_kind h1 i hi with k | k | k
      · exact .inl k
      · right; left
        rw [if_neg (by omega), if_neg (by omega)] at hm
        exact ⟨k, by simpa using hm⟩
      · right; right
        rw [if_neg (by omega), if_pos k.1] at hm
        exact ⟨k.1, k.2, hm⟩
  · cases h

theorem more_eq {a b : Bs} {x y : List Part} (hx : parts a = some x) (hy : parts b = some y) : more a b = moreL x y := by simp [more, hx, hy]

/-- Among the patterns that mean one path, 'says more' is an order, and none is beside another. -/
theorem gt_trans {a b c p : Bs} (ha : matchP a p = true) (hb : matchP b p = true) (hc : matchP c p = true) (h1 : more a b > 0) (h2 : more b c > 0) : more a c > 0 := by
  obtain ⟨x, n, hx, hn, mx⟩ := means_of ha
  obtain ⟨y, n', hy, hn', my⟩ := means_of hb
  obtain ⟨z, n'', hz, hn'', mz⟩ := means_of hc
  rw [hn] at hn' hn''
  cases hn'; cases hn''
  rw [more_eq hx hy, moreL_gt mx my] at h1
  rw [more_eq hy hz, moreL_gt my mz] at h2
  rw [more_eq hx hz, moreL_gt mx mz]
  exact h1.trans h2
theorem gt_irrefl {a p : Bs} (ha : matchP a p = true) : ¬ more a a > 0 := by
  obtain ⟨x, n, hx, hn, mx⟩ := means_of ha
  rw [more_eq hx hx, moreL_gt mx mx]
  exact Gt.irrefl x
theorem gt_total {a b p : Bs} (ha : matchP a p = true) (hb : matchP b p = true) : more a b > 0 ∨ more b a > 0 ∨ a = b := by
  obtain ⟨x, n, hx, hn, mx⟩ := means_of ha
  obtain ⟨y, n', hy, hn', my⟩ := means_of hb
  rw [hn] at hn'
  cases hn'
  rw [more_eq hx hy, moreL_gt mx my, more_eq hy hx, moreL_gt my mx]
  rcases Gt.total x y with h | h | ⟨h1, h2⟩
  · exact .inl h
  · exact .inr (.inl h)
  · have := same_parts mx my h1 h2
    subst this
    exact .inr (.inr (parts_inj hx hy))

/-! ### What is said of a path -/
def bit (c : UInt8) (i : Nat) : Bool := c.toNat.testBit i
theorem bit_or (a b : UInt8) (i : Nat) : bit (a ||| b) i = (bit a i || bit b i) := by simp [bit]
theorem bit_zero (i : Nat) : bit 0 i = false := by simp [bit]
theorem bit_ext {a b : UInt8} (h : ∀ i, bit a i = bit b i) : a = b := UInt8.toNat_inj.1 (Nat.eq_of_testBit_eq h)

/-- What the rules that have been looked at make of it. -/
structure SaidOf (R : List Rule) (p : Bs) (s : Said) : Prop where
  no : s.is = false → s.best = [] ∧ s.caps = 0 ∧ ∀ r ∈ R, matchP r.1 p = false
  yes : s.is = true → matchP s.best p = true ∧ (∃ r ∈ R, r.1 = s.best) ∧ (∀ r ∈ R, matchP r.1 p = true → ¬ more r.1 s.best > 0) ∧ ∀ i, bit s.caps i = true ↔ ∃ r ∈ R, r.1 = s.best ∧ bit r.2 i = true

theorem saidOf_step {R : List Rule} {p : Bs} {s : Said} (h : SaidOf R p s) (r : Rule) : SaidOf (R ++ [r]) p (sayStep p s r) := by
  obtain ⟨best, caps, is⟩ := s
  unfold sayStep
  by_cases hm : matchP r.1 p = false
  · rw [if_pos hm]
    refine ⟨fun hi => ?_, fun hi => ?_⟩
    · obtain ⟨h1, h2, h3⟩ := h.no hi
      refine ⟨h1, h2, fun q hq => ?_⟩
      rcases List.mem_append.1 hq with hq | hq
      · exact h3 q hq
      · simp at hq; subst hq; exact hm
    · obtain ⟨h1, ⟨q, hq, hq'⟩, h3, h4⟩ := h.yes hi
      refine ⟨h1, ⟨q, by simp [hq], hq'⟩, fun q hq hqm => ?_, fun i => ?_⟩
      · rcases List.mem_append.1 hq with hq | hq
        · exact h3 q hq hqm
        · simp at hq; subst hq; rw [hm] at hqm; cases hqm
      · rw [h4 i]
        constructor
        · rintro ⟨q, hq, e⟩; exact ⟨q, by simp [hq], e⟩
        · rintro ⟨q, hq, e⟩
          rcases List.mem_append.1 hq with hq | hq
          · exact ⟨q, hq, e⟩
          · simp at hq; subst hq; rw [e.1] at hm; rw [h1] at hm; cases hm
  · rw [if_neg hm]
    have hm : matchP r.1 p = true := by simpa using hm
    by_cases ht : is = false ∨ more r.1 best > 0
    · rw [if_pos ht]
      refine ⟨fun hi => (by cases hi), fun _ => ⟨hm, ⟨r, by simp, rfl⟩, fun q hq hqm => ?_, fun i => ?_⟩⟩
      · rcases List.mem_append.1 hq with hq | hq
        · cases is with
          | false => have := (h.no rfl).2.2 q hq; rw [this] at hqm; cases hqm
          | true =>
            have ht : more r.1 best > 0 := by simpa using ht
            obtain ⟨h1, h2, h3, h4⟩ := h.yes rfl
            intro hgt
            exact h3 q hq hqm (gt_trans hqm hm h1 hgt ht)
        · simp at hq; subst hq; exact gt_irrefl hm
      · constructor
        · intro hb; exact ⟨r, by simp, rfl, hb⟩
        · rintro ⟨q, hq, e, hb⟩
          rcases List.mem_append.1 hq with hq | hq
          · exfalso
            have hqm : matchP q.1 p = true := by rw [e]; exact hm
            cases is with
            | false => have := (h.no rfl).2.2 q hq; rw [this] at hqm; cases hqm
            | true =>
              have ht : more r.1 best > 0 := by simpa using ht
              obtain ⟨h1, h2, h3, h4⟩ := h.yes rfl
              exact h3 q hq hqm (by rw [e]; exact ht)
          · simp at hq; subst hq; exact hb
    · rw [if_neg ht]
      have hi : is = true := by
        cases is with
        | false => exact absurd (.inl rfl) ht
        | true => rfl
      have hng : ¬ more r.1 best > 0 := fun h => ht (.inr h)
      subst hi
      obtain ⟨h1, ⟨q0, hq0, hq0'⟩, h3, h4⟩ := h.yes rfl
      by_cases he : r.1 = best
      · rw [if_pos he]
        refine ⟨fun hi => (by cases hi), fun _ => ⟨h1, ⟨q0, by simp [hq0], hq0'⟩, fun q hq hqm => ?_, fun i => ?_⟩⟩
        · rcases List.mem_append.1 hq with hq | hq
          · exact h3 q hq hqm
          · simp at hq; subst hq; exact hng
        · simp only [bit_or, Bool.or_eq_true, h4 i]
          constructor
          · rintro (⟨q, hq, e⟩ | hb)
            · exact ⟨q, by simp [hq], e⟩
            · exact ⟨r, by simp, he, hb⟩
          · rintro ⟨q, hq, e⟩
            rcases List.mem_append.1 hq with hq | hq
            · exact .inl ⟨q, hq, e⟩
            · simp at hq; subst hq; exact .inr e.2
      · rw [if_neg he]
        refine ⟨fun hi => (by cases hi), fun _ => ⟨h1, ⟨q0, by simp [hq0], hq0'⟩, fun q hq hqm => ?_, fun i => ?_⟩⟩
        · rcases List.mem_append.1 hq with hq | hq
          · exact h3 q hq hqm
          · simp at hq; subst hq; exact hng
        · rw [h4 i]
          constructor
          · rintro ⟨q, hq, e⟩; exact ⟨q, by simp [hq], e⟩
          · rintro ⟨q, hq, e⟩
            rcases List.mem_append.1 hq with hq | hq
            · exact ⟨q, hq, e⟩
            · simp at hq; subst hq; exact absurd e.1 he

theorem saidOf_all (R : List Rule) (p : Bs) : SaidOf R p (sayAll R p) := by
  have : ∀ (R' R0 : List Rule) (s : Said), SaidOf R0 p s → SaidOf (R0 ++ R') p (R'.foldl (sayStep p) s) := by
    intro R'
    induction R' with
    | nil => intro R0 s h; simpa using h
    | cons r t ih =>
      intro R0 s h
      have := ih (R0 ++ [r]) _ (saidOf_step h r)
      simpa using this
  have h := this R [] ⟨[], 0, false⟩ ⟨fun _ => ⟨rfl, rfl, fun r hr => by cases hr⟩, fun h => by cases h⟩
  rw [List.nil_append] at h
  exact h

theorem saidOf_unique {R R' : List Rule} {p : Bs} {s s' : Said} (hR : ∀ r, r ∈ R ↔ r ∈ R') (h : SaidOf R p s) (h' : SaidOf R' p s') : s = s' := by
  obtain ⟨best, caps, is⟩ := s
  obtain ⟨best', caps', is'⟩ := s'
  cases is with
  | false =>
    obtain ⟨h1, h2, h3⟩ := h.no rfl
    cases is' with
    | false =>
      obtain ⟨g1, g2, g3⟩ := h'.no rfl
      simp only at h1 h2 g1 g2
      subst h1; subst h2; subst g1; subst g2
      rfl
    | true =>
      obtain ⟨g1, ⟨r, hr, e⟩, _⟩ := h'.yes rfl
      have := h3 r ((hR r).2 hr)
      rw [e, g1] at this
      cases this
  | true =>
    obtain ⟨h1, ⟨r, hr, e⟩, h3, h4⟩ := h.yes rfl
    cases is' with
    | false =>
      obtain ⟨g1, g2, g3⟩ := h'.no rfl
      have := g3 r ((hR r).1 hr)
      rw [e, h1] at this
      cases this
    | true =>
      obtain ⟨g1, ⟨r', hr', e'⟩, g3, g4⟩ := h'.yes rfl
      simp only at h1 e h3 h4 g1 e' g3 g4
      have hb : best = best' := by
        rcases gt_total h1 g1 with h | h | h
        · exact absurd (by rw [e]; exact h) (g3 r ((hR r).1 hr) (by rw [e]; exact h1))
        · exact absurd (by rw [e']; exact h) (h3 r' ((hR r').2 hr') (by rw [e']; exact g1))
        · exact h
      subst hb
      have hc : caps = caps' := bit_ext fun i => by
        have : bit caps i = true ↔ bit caps' i = true := by
          rw [h4 i, g4 i]
          exact ⟨fun ⟨q, hq, e⟩ => ⟨q, (hR q).1 hq, e⟩, fun ⟨q, hq, e⟩ => ⟨q, (hR q).2 hq, e⟩⟩
        cases h5 : bit caps i <;> cases h6 : bit caps' i <;> simp_all
      rw [hc]

theorem mem_rulesP {l : List (List Rule)} {r : Rule} : r ∈ rulesP l ↔ ∃ q ∈ l, checkP q = true ∧ r ∈ q := by
  unfold rulesP
  rw [List.mem_flatten]
  constructor
  · rintro ⟨q, hq, hr⟩; exact ⟨q, (List.mem_filter.1 hq).1, (List.mem_filter.1 hq).2, hr⟩
  · rintro ⟨q, h1, h2, h3⟩; exact ⟨q, List.mem_filter.2 ⟨h1, h2⟩, h3⟩

theorem saysP_same {l l' : List (List Rule)} (h : ∀ q, q ∈ l ↔ q ∈ l') (p : Bs) : saysP l p = saysP l' p := by
  have : sayAll (rulesP l) p = sayAll (rulesP l') p := saidOf_unique (fun r => by
    rw [mem_rulesP, mem_rulesP]
    exact ⟨fun ⟨q, h1, h2⟩ => ⟨q, (h q).1 h1, h2⟩, fun ⟨q, h1, h2⟩ => ⟨q, (h q).2 h1, h2⟩⟩) (saidOf_all _ p) (saidOf_all _ p)
  unfold saysP
  rw [this]
theorem allowsP_same {l l' : List (List Rule)} (h : ∀ q, q ∈ l ↔ q ∈ l') (p : Bs) (c : UInt8) : allowsP l p c = allowsP l' p c := by
  unfold allowsP; rw [saysP_same h p]
end Go.Proofs.YtiipkbkoigcabaaDoor
