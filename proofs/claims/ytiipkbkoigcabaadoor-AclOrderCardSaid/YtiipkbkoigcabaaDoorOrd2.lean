/- The theorem of stage 26 in plain Lean. No condition, no program. -/
import Derived.Test.YtiipkbkoigcabaaDoorOrd
namespace Go.Proofs.YtiipkbkoigcabaaDoor
open Go Go.Lib
set_option linter.unusedVariables false
set_option linter.unusedSimpArgs false

theorem all_of_dropWhile {f : UInt8 → Bool} : ∀ {s : Bs}, s.dropWhile f = [] → ∀ b ∈ s, f b = true
  | [], _, b, hb => by cases hb
  | a :: t, h, b, hb => by
    rw [List.dropWhile_cons] at h
    split at h
    · rename_i ha
      rcases List.mem_cons.1 hb with rfl | hb
      · exact ha
      · exact all_of_dropWhile h b hb
    · cases h

theorem name_fine {s : Bs} (h : isName s = true) : s ≠ [] ∧ ∀ b ∈ s, fine.contains b = true := by
  simp only [isName, Bool.and_eq_true, Bool.not_eq_true', beq_eq_false_iff_ne, ne_eq, beq_iff_eq] at h
  exact ⟨h.1, all_of_dropWhile h.2.2⟩

theorem ofP_name {s : Bs} (h : isName s = true) (last : Bool) : ofP s last = ((3, s), true) := by
  obtain ⟨h1, h2⟩ := name_fine h
  have e1 : s ≠ [43] := fun e => by subst e; exact absurd (h2 43 (by simp)) (by decide)
  have e2 : s.getLast? ≠ some 42 := fun e => absurd (h2 42 (List.mem_of_getLast? e)) (by decide)
  simp [ofP, e1, e2, h]

theorem partsL_names : ∀ {L : List Bs}, L.all isName = true → partsL L = some (L.map fun s => (3, s))
  | [], _ => rfl
  | s :: r, h => by
    simp only [List.all_cons, Bool.and_eq_true] at h
    rw [partsL, ofP_name h.1, partsL_names h.2]
    rfl

theorem path_parts {p : Bs} {names : List Bs} (h : splitP p = some names) : parts p = some (names.map fun s => (3, s)) := by
  unfold splitP at h
  split at h
  · rename_i hc
    cases h
    unfold parts
    rw [if_pos ⟨hc.1, hc.2.1⟩, partsL_names hc.2.2]
  · cases h

theorem path_ne {p : Bs} {names : List Bs} (h : splitP p = some names) : names ≠ [] := by
  unfold splitP at h
  split at h
  · cases h; exact cut_ne 47 p
  · cases h

theorem match_self {p : Bs} {names : List Bs} (h : splitP p = some names) : matchP p p = true := by
  simp only [matchP, path_parts h, h]
  simp only [List.length_map, Nat.le_refl, decide_true, Bool.true_and, Bool.true_or, Bool.and_true]
  refine List.all_eq_true.2 fun q hq => ?_
  rw [List.zip_map_left] at hq
  obtain ⟨⟨a, b⟩, hab, rfl⟩ := List.mem_map.1 hq
  have hz : ∀ (l : List Bs) (a b : Bs), (a, b) ∈ l.zip l → a = b := by
    intro l
    induction l with
    | nil => intro a b h; cases h
    | cons x t ih =>
      intro a b h
      rcases List.mem_cons.1 h with h | h
      · cases h; rfl
      · exact ih a b h
  have := hz names a b hab
  subst this
  simp [means]

theorem top_gt {a p : Bs} (ha : matchP a p = true) : ¬ more a p > 0 := by
  obtain ⟨x, names, hx, hn, mx⟩ := means_of ha
  obtain ⟨y, names', hy, hn', my⟩ := means_of (match_self hn)
  rw [hn] at hn'; cases hn'
  have hyp := path_parts hn
  rw [hy] at hyp
  cases hyp
  rw [more_eq hx hy, moreL_gt mx my]
  have h3 : ∀ j, j < names.length → atP (names.map fun s => ((3, s) : Part)) j = 3 := fun j hj => by
    rw [atP_in (by simpa using hj)]; simp
  rintro (⟨j, h1, h2⟩ | ⟨h1, h2⟩)
  · by_cases hj : j < names.length
    · rw [h3 j hj] at h2
      by_cases hjx : j < x.length
      · rw [atP_in hjx] at h2
        rcases mx.part j hjx with h | h | h <;> omega
      · rw [atP_out (by omega)] at h2; omega
    · rw [atP_out (x := x) (by have := mx.le; omega)] at h2
      omega
  · have hl := List.length_pos_iff.2 mx.ne
    have hk := h1 (x.length - 1)
    rw [h3 _ (by have := mx.le; omega)] at hk
    unfold lastLen at h2
    rw [lastKind mx.ne, hk] at h2
    simp at h2

/-! ### The law -/
theorem saysP_is (l : List (List Rule)) (p : Bs) : (saysP l p).is = (sayAll (rulesP l) p).is := rfl
theorem check_one {p : Bs} {names : List Bs} (h : splitP p = some names) {c : UInt8} (hc : mayC c = true) : checkP [(p, c)] = true := by
  simp [checkP, okL, okR, path_parts h, hasP, hc]
theorem rulesP_append (l m : List (List Rule)) : rulesP (l ++ m) = rulesP l ++ rulesP m := by simp [rulesP]
theorem rulesP_one {q : List Rule} (h : checkP q = true) : rulesP [q] = q := by simp [rulesP, h]

theorem is_path {l : List (List Rule)} {p : Bs} (h : (saysP l p).is = true) : ∃ names, splitP p = some names := by
  rw [saysP_is] at h
  obtain ⟨x, names, _, hn, _⟩ := means_of ((saidOf_all (rulesP l) p).yes h).1
  exact ⟨names, hn⟩

theorem is_one {p : Bs} {names : List Bs} (h : splitP p = some names) : (saysP [[(p, 1)]] p).is = true := by
  rw [saysP_is, rulesP_one (check_one h (by decide))]
  cases hi : (sayAll [(p, 1)] p).is with
  | true => rfl
  | false =>
    have := ((saidOf_all [(p, 1)] p).no hi).2.2 (p, 1) (by simp)
    rw [match_self h] at this
    cases this

/-- A path that can't be: nothing is said of it. -/
theorem ao_none {l : List (List Rule)} {p : Bs} (h : (saysP [[(p, 1)]] p).is = false) (w : UInt8) : (saysP l p).is = false ∧ allowsP l p w = false := by
  have hi : (saysP l p).is = false := by
    cases hi : (saysP l p).is with
    | false => rfl
    | true =>
      obtain ⟨names, hn⟩ := is_path hi
      rw [is_one hn] at h
      cases h
  refine ⟨hi, ?_⟩
  have hc : (saysP l p).caps = 0 := by
    rw [saysP_is] at hi
    have := ((saidOf_all (rulesP l) p).no hi).2.1
    simp only [saysP, this]
    decide
  simp [allowsP, hc]

def W (w : UInt8) : Prop := w = 1 ∨ w = 2 ∨ w = 4 ∨ w = 8 ∨ w = 16
theorem W.may {w : UInt8} (h : W w) : mayC w = true := by rcases h with rfl | rfl | rfl | rfl | rfl <;> decide
theorem W.allows {w : UInt8} (h : W w) (l : List (List Rule)) (p : Bs) : allowsP l p w = !((saysP l p).caps &&& w == 0) := by
  have h1 : (wordsOf w).length = 1 := by rcases h with rfl | rfl | rfl | rfl | rfl <;> decide
  have h2 : (w &&& 31 == w) = true := by rcases h with rfl | rfl | rfl | rfl | rfl <;> decide
  simp only [allowsP, h1, h2, decide_true, Bool.true_and]
theorem W.bit5 {w : UInt8} (h : W w) : bit w 5 = false := by rcases h with rfl | rfl | rfl | rfl | rfl <;> decide
theorem W.deny {w : UInt8} (h : W w) : (32 &&& w == 0) = true := by rcases h with rfl | rfl | rfl | rfl | rfl <;> decide
theorem W.some {w : UInt8} (h : W w) : ∃ i, bit w i = true := by
  rcases h with rfl | rfl | rfl | rfl | rfl
  · exact ⟨0, by decide⟩
  · exact ⟨1, by decide⟩
  · exact ⟨2, by decide⟩
  · exact ⟨3, by decide⟩
  · exact ⟨4, by decide⟩
theorem bit_and8 (a b : UInt8) (i : Nat) : bit (a &&& b) i = (bit a i && bit b i) := by simp [bit]
theorem bit32 (c : UInt8) : (c &&& 32 = 0) ↔ bit c 5 = false := by
  constructor
  · intro h
    have := bit_and8 c 32 5
    rw [h, bit_zero] at this
    have h5 : bit 32 5 = true := by decide
    rw [h5, Bool.and_true] at this
    exact this.symm
  · intro h
    refine bit_ext fun i => ?_
    rw [bit_and8, bit_zero]
    by_cases hi : i = 5
    · subst hi; rw [h]; rfl
    · have : bit 32 i = false := by
        show Nat.testBit (2 ^ 5) i = false
        rw [Nat.testBit_two_pow]
        simp; omega
      rw [this, Bool.and_false]
theorem denied_bit {c : UInt8} (h : bit c 5 = true) : denied c = 32 := by
  unfold denied; rw [if_neg]; intro e; rw [(bit32 c).1 e] at h; cases h
theorem denied_no {c : UInt8} (h : bit c 5 = false) : denied c = c := by
  unfold denied; rw [if_pos ((bit32 c).2 h)]

/-- A path's own rule is what says most of it. -/
theorem own_best {R : List Rule} {p : Bs} {names : List Bs} (hn : splitP p = some names) {c : UInt8} (hr : (p, c) ∈ R) : (sayAll R p).is = true ∧ (sayAll R p).best = p := by
  have h := saidOf_all R p
  have hi : (sayAll R p).is = true := by
    cases hi : (sayAll R p).is with
    | true => rfl
    | false =>
      have := (h.no hi).2.2 _ hr
      rw [match_self hn] at this
      cases this
  refine ⟨hi, ?_⟩
  obtain ⟨h1, h2, h3, _⟩ := h.yes hi
  rcases gt_total h1 (match_self hn) with g | g | g
  · exact absurd g (top_gt h1)
  · exact absurd g (h3 _ hr (match_self hn))
  · exact g

theorem ao_deny {l : List (List Rule)} {p : Bs} {names : List Bs} (hn : splitP p = some names) {w : UInt8} (hw : W w) : allowsP (l ++ [[(p, 32)]]) p w = false := by
  rw [hw.allows]
  have hR : rulesP (l ++ [[(p, 32)]]) = rulesP l ++ [(p, 32)] := by rw [rulesP_append, rulesP_one (check_one hn (by decide))]
  obtain ⟨h1, h2⟩ := own_best (R := rulesP l ++ [(p, 32)]) hn (c := 32) (by simp)
  have hb : bit (sayAll (rulesP l ++ [(p, 32)]) p).caps 5 = true := by
    rw [((saidOf_all _ p).yes h1).2.2.2 5]
    exact ⟨(p, 32), by simp, h2.symm, (by decide : bit 32 5 = true)⟩
  have : (saysP (l ++ [[(p, 32)]]) p).caps = 32 := by
    simp only [saysP, hR, denied_bit hb]
  rw [this, hw.deny]
  rfl

theorem ao_allow {l : List (List Rule)} {p : Bs} {names : List Bs} (hn : splitP p = some names) {w : UInt8} (hw : W w) :
    allowsP (l ++ [[(p, w)]]) p w = !((saysP l p).is && ((saysP l p).best == p && (saysP l p).caps == 32)) := by
  rw [hw.allows]
  have hR : rulesP (l ++ [[(p, w)]]) = rulesP l ++ [(p, w)] := by rw [rulesP_append, rulesP_one (check_one hn hw.may)]
  obtain ⟨h1, h2⟩ := own_best (R := rulesP l ++ [(p, w)]) hn (c := w) (by simp)
  have hbits := ((saidOf_all (rulesP l ++ [(p, w)]) p).yes h1).2.2.2
  rw [h2] at hbits
  have hcaps : (saysP (l ++ [[(p, w)]]) p).caps = denied (sayAll (rulesP l ++ [(p, w)]) p).caps := by simp only [saysP, hR]
  rw [hcaps]
  have hl := saidOf_all (rulesP l) p
  have hflag : ((saysP l p).is && ((saysP l p).best == p && (saysP l p).caps == 32)) = bit (sayAll (rulesP l ++ [(p, w)]) p).caps 5 := by
    show ((sayAll (rulesP l) p).is && ((sayAll (rulesP l) p).best == p && denied (sayAll (rulesP l) p).caps == 32)) = _
    by_cases hex : ∃ r ∈ rulesP l, r.1 = p
    · obtain ⟨⟨q, c⟩, hr, hq⟩ := hex
      simp only at hq
      subst hq
      obtain ⟨g1, g2⟩ := own_best hn hr
      have gb := (hl.yes g1).2.2.2 5
      rw [g2] at gb
      have hb5 : bit (sayAll (rulesP l) q).caps 5 = bit (sayAll (rulesP l ++ [(q, w)]) q).caps 5 := by
        have : bit (sayAll (rulesP l) q).caps 5 = true ↔ bit (sayAll (rulesP l ++ [(q, w)]) q).caps 5 = true := by
          rw [gb, hbits 5]
          constructor
          · rintro ⟨r, hr, e⟩; exact ⟨r, by simp [hr], e⟩
          · rintro ⟨r, hr, e⟩
            rcases List.mem_append.1 hr with hr | hr
            · exact ⟨r, hr, e⟩
            · simp at hr; subst hr; have := e.2; rw [hw.bit5] at this; cases this
        cases h5 : bit (sayAll (rulesP l) q).caps 5 <;> cases h6 : bit (sayAll (rulesP l ++ [(q, w)]) q).caps 5 <;> simp_all
      rw [← hb5, g1, g2]
      simp only [Bool.true_and, beq_self_eq_true]
      cases h5 : bit (sayAll (rulesP l) q).caps 5 with
      | true => rw [denied_bit h5]; rfl
      | false =>
        rw [denied_no h5]
        have : (sayAll (rulesP l) q).caps ≠ 32 := fun e => by rw [e] at h5; exact absurd h5 (by decide)
        simpa using this
    · have hb5 : bit (sayAll (rulesP l ++ [(p, w)]) p).caps 5 = false := by
        cases h5 : bit (sayAll (rulesP l ++ [(p, w)]) p).caps 5 with
        | false => rfl
        | true =>
          obtain ⟨r, hr, e1, e2⟩ := (hbits 5).1 h5
          rcases List.mem_append.1 hr with hr | hr
          · exact absurd ⟨r, hr, e1⟩ hex
          · simp at hr; subst hr; rw [hw.bit5] at e2; cases e2
      rw [hb5]
      cases hi : (sayAll (rulesP l) p).is with
      | false => rfl
      | true =>
        obtain ⟨_, ⟨r, hr, e⟩, _⟩ := hl.yes hi
        have : (sayAll (rulesP l) p).best ≠ p := fun e' => hex ⟨r, hr, e.trans e'⟩
        simp [this]
  rw [hflag]
  cases h5 : bit (sayAll (rulesP l ++ [(p, w)]) p).caps 5 with
  | true => rw [denied_bit h5, hw.deny]
  | false =>
    rw [denied_no h5]
    obtain ⟨i, hi⟩ := hw.some
    have hb : bit ((sayAll (rulesP l ++ [(p, w)]) p).caps &&& w) i = true := by
      rw [bit_and8, hi, Bool.and_true, hbits i]
      exact ⟨(p, w), by simp, rfl, hi⟩
    have : ((sayAll (rulesP l ++ [(p, w)]) p).caps &&& w) ≠ 0 := fun e => by rw [e, bit_zero] at hb; cases hb
    simp [this]

def wOf (c : UInt8) : UInt8 := UInt8.ofNat (2 ^ (c.toNat % 5))
theorem wOf_W (c : UInt8) : W (wOf c) := by
  unfold wOf
  have h : c.toNat % 5 < 5 := Nat.mod_lt _ (by decide)
  generalize c.toNat % 5 = k at h
  match k, h with
  | 0, _ => exact .inl rfl
  | 1, _ => exact .inr (.inl rfl)
  | 2, _ => exact .inr (.inr (.inl rfl))
  | 3, _ => exact .inr (.inr (.inr (.inl rfl)))
  | 4, _ => exact .inr (.inr (.inr (.inr rfl)))
end Go.Proofs.YtiipkbkoigcabaaDoor
