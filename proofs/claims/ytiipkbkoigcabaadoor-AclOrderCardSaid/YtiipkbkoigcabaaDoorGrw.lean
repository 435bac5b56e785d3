/- slices.Grow of a nil slice, by the kit's contract: a library of this claim, generic in the program. No condition. -/
import Derived.Test.YtiipkbkoigcabaaDoorShw
import Derived.Shelf.Spec.SlicesGrow
namespace Go.AW
open Go Go.RowKit Go.Lib Go.Shelf Go.Proofs
set_option linter.unusedVariables false

theorem ACalls.grow {C : Ctx} {st : St} {ρ : Ren} (L : Lays8.n4 C.P ρ) {A : ACode} {rs : List ARes} {m : Nat} (hf : fnComp C.P (ρ.f 4) = some (A, rs, m)) (z : Value) (S B : Nat)
    (hi : (C.P.info? (ρ.t 25)).map (fun i => (i.zero, i.size, i.bytes)) = some (some z, S, B)) (hS : 0 < S) (hz : z.cells.size = S) (n : Nat) (hn : n * B ≤ 140737488355328) (hn2 : n ≤ 4611686018427387904) :
    ACalls C (ρ.f 4) [.sl .nil [], .int .i64 n] st fun v st' => (v = .sl .nil [] ∧ st' = st) ∨ ∃ t, st t = none ∧ v = .sl (.tip t S) [] ∧ st' = st.upd t .tok := by
  cases hi0 : C.P.info? (ρ.t 25) with
  | none => rw [hi0] at hi; cases hi
  | some i0 =>
    rw [hi0] at hi
    simp only [Option.map_some, Option.some.injEq, Prod.mk.injEq] at hi
    obtain ⟨h1, h2, h3⟩ := hi
    refine ACalls.grow_nil hf (S := S) (T := ρ.t 25) (fun w => ([] : List Value).toArray ++ Builtin.zeroCells z.cells (0 + n - 0) ++ Builtin.zeroCells z.cells (grownCap w (0 + n) 0 (ρ.t 25) - (0 + n))) (fun w => ?_) (fun h0 w => ?_) (fun h0 w => ?_)
    · have := grownCap_ge w (0 + n) 0 (ρ.t 25)
      simp only [Array.size_append, size_zeroCells, hz, List.size_toArray, List.length_nil, Nat.zero_add, Nat.sub_zero] at this ⊢
      rw [← Nat.add_mul]
      exact Nat.mul_le_mul_right _ (by omega)
    · exact Any8.slices_Grow_room L none 0 0 0 w (Nat.le_refl _) (by omega) (by omega) (by omega)
    · have h := Any8.slices_Grow_grow L i0 z hi0 h1 (by omega) none 0 0 n [] w (Nat.le_refl _) (by omega) (by rw [h3]; simpa using hn) (by omega) (by simp) (fun _ => rfl) (fun a e => by cases e)
      simpa using h
end Go.AW
