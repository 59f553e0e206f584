/-
  No distance gives more than the answer, and none nearer gives as much.
-/
import Derived.Test.YtfefbelglohfdaaT
namespace Go.Proofs.Ytfefbelglohfdaa

theorem full_max (L : List Int) (most : Int) (a : Nat) : ∀ t d : Nat, 1 ≤ d → d ≤ t → rI L most a d ≤ (full L most a t).1 ∧ ((d : Int) < (full L most a t).2 → rI L most a d < (full L most a t).1)
  | 0, d, h1, h2 => by omega
  | t + 1, d, h1, h2 => by
    have ef : full L most a (t + 1) = stp L most a (full L most a t) (t + 1) := rfl
    rw [ef, stp_eq]
    have ih := fun (h : d ≤ t) => full_max L most a t d h1 h
    by_cases c : (full L most a t).1 < rI L most a (t + 1)
    · rw [if_pos c]
      by_cases e : d = t + 1
      · subst e
        exact ⟨Int.le_refl _, fun h => by have h' : ((t + 1 : Nat) : Int) < ((t + 1 : Nat) : Int) := h; omega⟩
      · have := (ih (by omega)).1
        exact ⟨by show _ ≤ rI L most a (t + 1); omega, fun _ => by show _ < rI L most a (t + 1); omega⟩
    · rw [if_neg c]
      by_cases e : d = t + 1
      · subst e
        refine ⟨by omega, fun h => ?_⟩
        exfalso
        have hle : ∀ t, (full L most a t).2 ≤ (t : Int) := by
          intro t
          induction t with
          | zero => show (0 : Int) ≤ 0; omega
          | succ t ih =>
            have ef : full L most a (t + 1) = stp L most a (full L most a t) (t + 1) := rfl
            rw [ef, stp_eq]
            split
            · exact Int.le_refl _
            · omega
        have := hle t
        omega
      · exact ih (by omega)

end Go.Proofs.Ytfefbelglohfdaa
