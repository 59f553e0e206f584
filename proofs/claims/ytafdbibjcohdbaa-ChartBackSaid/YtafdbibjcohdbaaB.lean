/-
  The contract of chart.Number.
-/
import Derived.Test.YtafdbibjcohdbaaA
import Derived.ScopeJumps
namespace Go.Proofs.Ytafdbibjcohdbaa
open Go.RowKit

theorem number_out (x y : Int) (h : x < -512 ∨ 512 < x ∨ y < -512 ∨ 512 < y) (w : World) :
    Calls Try.prog 12 #[.int .i64 x, .int .i64 y] w fun e w' => e = .returned (.tuple #[.int .i64 0, .int .i64 2]) ∧ w = w' := by
  rcases Int.lt_trichotomy x y with hxy | hxy | hxy
  · by_cases h1 : x < -512
    · clear h
      go_enter Try.func12, Try.ntmps12
      go_wp2_with fail
      go_step3
      go_wp2
      all_goals (try rw [Exit.noGoto_ret]; go_ret2; exact ⟨rfl, rfl⟩)
    · have h2 : 512 < y := by omega
      clear h
      go_enter Try.func12, Try.ntmps12
      go_wp2_with fail
      go_step3
      go_wp2
      all_goals (try rw [Exit.noGoto_ret]; go_ret2; exact ⟨rfl, rfl⟩)
  · subst hxy
    by_cases h1 : x < -512
    · clear h
      go_enter Try.func12, Try.ntmps12
      go_wp2_with fail
      go_step3
      go_wp2
      all_goals (try rw [Exit.noGoto_ret]; go_ret2; exact ⟨rfl, rfl⟩)
    · have h2 : 512 < x := by omega
      clear h
      go_enter Try.func12, Try.ntmps12
      go_wp2_with fail
      go_step3
      go_wp2
      all_goals (try rw [Exit.noGoto_ret]; go_ret2; exact ⟨rfl, rfl⟩)
  · have hle : y ≤ x := by omega
    have hd : decide (x < y) = false := by simp; omega
    have hif : (if x < y then y else x) = x := if_neg (by omega)
    by_cases h1 : y < -512
    · clear h
      go_enter Try.func12, Try.ntmps12
      go_wp2_with fail
      go_step3
      go_wp2
      all_goals (try rw [Exit.noGoto_ret]; go_ret2; exact ⟨rfl, rfl⟩)
    · have h2 : 512 < x := by omega
      clear h
      go_enter Try.func12, Try.ntmps12
      go_wp2_with fail
      go_step3
      go_wp2
      all_goals (try rw [Exit.noGoto_ret]; go_ret2; exact ⟨rfl, rfl⟩)

section ord
variable {r s : Nat} {v u : Int}
theorem ord_eq (h : IsI r v) (hv : v = 0) : (FloatKind.f64.format.order r 0 == some .eq) = true := by
  rw [h.order isI_zero, hv]; rfl
theorem ord_ne (h : IsI r v) (hv : v ≠ 0) : (FloatKind.f64.format.order r 0 == some .eq) = false := by
  rw [h.order isI_zero]
  rcases Int.lt_or_gt_of_ne hv with h1 | h1
  · rw [show compare v 0 = .lt by simp [compare, compareOfLessAndEq, h1]]; rfl
  · rw [show compare v 0 = .gt by simp [compare, compareOfLessAndEq, hv]; omega]; rfl
theorem ord_ge (h : IsI r v) (hv : 0 ≤ v) : (FloatKind.f64.format.order r 0 == some .gt || FloatKind.f64.format.order r 0 == some .eq) = true := by
  rw [h.order isI_zero]
  by_cases h1 : v = 0
  · rw [h1]; rfl
  · rw [show compare v 0 = .gt by simp [compare, compareOfLessAndEq, h1]; omega]; rfl
theorem ord_le (h : IsI r v) (h' : IsI s u) (hv : v ≤ u) : (FloatKind.f64.format.order r s == some .lt || FloatKind.f64.format.order r s == some .eq) = true := by
  rw [h.order h']
  by_cases h1 : v = u
  · rw [show compare v u = .eq by simp [compare, compareOfLessAndEq, h1]]; rfl
  · rw [show compare v u = .lt by simp [compare, compareOfLessAndEq, h1]; omega]; rfl
end ord

end Go.Proofs.Ytafdbibjcohdbaa
