/-
  MeterNobody: a meter that no call made (nil, or the zero one) tells nothing and takes nothing, whatever the call.
-/
import Derived.Test.YtahohailcmfpjaaA
import Derived.Deep.RegionWith
namespace Go.Proofs.Ytahohailcmfpjaa
open Go.RowKit

def zu : Nat → U := fun _ => ⟨0, 0, 0⟩

theorem none_zero {w : World} {b : Nat} (hB : Meter w b false false zu) :
    Calls Try.prog 18 #[.pointer (some ⟨b, 0, none⟩)] w fun e w' => e = .returned (.bool true) ∧ w = w' := by
  unfold Meter mcells zu at hB
  go_enter Try.func18, Try.ntmps18
  go_wp2_with (first | (refine wpList_value (.binOp .eql 29 _ _ 29) rfl rfl (.bool true) (w' := w) (by as_aux_lemma => kernel_rfl) ?_) | refine wpList_load_rowg rfl 29 _ rfl b rfl 29 _ (0, 0) _ hB Try.underlying29 rfl (by as_aux_lemma => kernel_rfl) ?_)
  go_ret
  exact ⟨rfl, rfl⟩

/-- A pointer to a meter that no call made. -/
def Nobody (w : World) (p : Value) : Prop := p = .pointer none ∨ ∃ b, p = .pointer (some ⟨b, 0, none⟩) ∧ Meter w b false false zu

theorem none_nobody {w : World} {p : Value} (h : Nobody w p) : Calls Try.prog 18 #[p] w fun e w' => e = .returned (.bool true) ∧ w = w' := by
  rcases h with rfl | ⟨b, rfl, hB⟩
  · exact none_nil w
  · exact none_zero hB

section
variable {w : World} {p : Value} (h : Nobody w p) (k n : Int)
include h
theorem used_nobody : Calls Try.prog 7 #[p, .int .i64 k] w fun e w' => e = .returned (.tuple #[.int .i64 0, .int .i64 0]) ∧ w = w' := by
  have hn := none_nobody h
  clear h
  go_enter Try.func7, Try.ntmps7
  go_wp2_with (first | (go_at_call 18; refine hn.mono ?_; rintro e w' ⟨rfl, rfl⟩))
  go_ret2
  exact ⟨rfl, rfl⟩
theorem use_nobody : Calls Try.prog 8 #[p, .int .i64 k, .int .i64 n] w fun e w' => e = .returned (.int .i64 1) ∧ w = w' := by
  have hn := none_nobody h
  clear h
  go_enter Try.func8, Try.ntmps8
  go_wp2_with (first | (go_at_call 18; refine hn.mono ?_; rintro e w' ⟨rfl, rfl⟩))
  go_ret
  exact ⟨rfl, rfl⟩
theorem free_nobody : Calls Try.prog 9 #[p, .int .i64 k, .int .i64 n] w fun e w' => e = .returned (.int .i64 1) ∧ w = w' := by
  have hn := none_nobody h
  clear h
  go_enter Try.func9, Try.ntmps9
  go_wp2_with (first | (go_at_call 18; refine hn.mono ?_; rintro e w' ⟨rfl, rfl⟩))
  go_ret
  exact ⟨rfl, rfl⟩
theorem left_nobody : Calls Try.prog 10 #[p, .int .i64 k] w fun e w' => e = .returned (.int .i64 0) ∧ w = w' := by
  have hn := none_nobody h
  clear h
  go_enter Try.func10, Try.ntmps10
  go_wp2_with (first | (go_at_call 18; refine hn.mono ?_; rintro e w' ⟨rfl, rfl⟩))
  go_ret
  exact ⟨rfl, rfl⟩
theorem over_nobody : Calls Try.prog 11 #[p] w fun e w' => e = .returned (.bool false) ∧ w = w' := by
  have hn := none_nobody h
  clear h
  go_enter Try.func11, Try.ntmps11
  go_wp2_with (first | (go_at_call 18; refine hn.mono ?_; rintro e w' ⟨rfl, rfl⟩))
  go_ret
  exact ⟨rfl, rfl⟩
end

theorem nobody_new (w : World) (A C : Obj) : Nobody (((w.alloc A).alloc (.cells (mcells false false zu) 29)).alloc C) (.pointer (some ⟨w.heap.size + 1, 0, none⟩)) :=
  .inr ⟨_, rfl, (Below.heap_alloc _ _ _ (by simp)).trans (heap_alloc2_new w _ _)⟩

theorem law_any (fr : Bool) (k n : Int) (w : World) : Calls Try.prog 3 #[.agg #[.bool fr, .int .i64 k, .int .i64 n]] w fun e w' => e = .returned (.bool true) ∧ Below w.heap.size w w' := by
  go_enter Try.func3, Try.ntmps3
  go_wp2
  refine wp_loop_rounds 3 ?_
  repeat any_goals (rw [rounds_succ]; go_wp2_with (first
    | (go_at_call_of 7 (Value.pointer none); refine (used_nobody (.inl rfl) _).mono ?_; rintro e w' ⟨rfl, rfl⟩)
    | (go_at_call_of 7 (w.heap.size); refine (used_nobody (nobody_new w _ _) _).mono ?_; rintro e w' ⟨rfl, rfl⟩)
    | (go_at_call_of 8 (Value.pointer none); refine (use_nobody (.inl rfl) _ _).mono ?_; rintro e w' ⟨rfl, rfl⟩)
    | (go_at_call_of 8 (w.heap.size); refine (use_nobody (nobody_new w _ _) _ _).mono ?_; rintro e w' ⟨rfl, rfl⟩)
    | (go_at_call_of 9 (Value.pointer none); refine (free_nobody (.inl rfl) _ _).mono ?_; rintro e w' ⟨rfl, rfl⟩)
    | (go_at_call_of 9 (w.heap.size); refine (free_nobody (nobody_new w _ _) _ _).mono ?_; rintro e w' ⟨rfl, rfl⟩)
    | (go_at_call_of 10 (Value.pointer none); refine (left_nobody (.inl rfl) _).mono ?_; rintro e w' ⟨rfl, rfl⟩)
    | (go_at_call_of 10 (w.heap.size); refine (left_nobody (nobody_new w _ _) _).mono ?_; rintro e w' ⟨rfl, rfl⟩)
    | (go_at_call_of 11 (Value.pointer none); refine (over_nobody (.inl rfl)).mono ?_; rintro e w' ⟨rfl, rfl⟩)
    | (go_at_call_of 11 (w.heap.size); refine (over_nobody (nobody_new w _ _)).mono ?_; rintro e w' ⟨rfl, rfl⟩)))
  go_ret
  exact ⟨rfl, by go_grown⟩

end Go.Proofs.Ytahohailcmfpjaa
