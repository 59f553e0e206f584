/-
  The contracts of the two makers of a meter.
-/
import Derived.Test.YtahohailcmfpjaaA
namespace Go.Proofs.Ytahohailcmfpjaa
open Go.RowKit

/-- A new meter's state. -/
def u0 (q0 q1 q2 q3 q4 : Int) : Nat → U
  | 0 => ⟨q0, 0, 0⟩ | 1 => ⟨q1, 0, 0⟩ | 2 => ⟨q2, 0, 0⟩ | 3 => ⟨q3, 0, 0⟩ | _ => ⟨q4, 0, 0⟩

theorem index5 (q0 q1 q2 q3 q4 : Int) (w : World) :
    (Instr.index 43 (.agg #[.int .i64 q0, .int .i64 q1, .int .i64 q2, .int .i64 q3, .int .i64 q4]) (.int .i64 0)).run Try.prog w = .ok (.int .i64 q0) w ∧
    (Instr.index 43 (.agg #[.int .i64 q0, .int .i64 q1, .int .i64 q2, .int .i64 q3, .int .i64 q4]) (.int .i64 1)).run Try.prog w = .ok (.int .i64 q1) w ∧
    (Instr.index 43 (.agg #[.int .i64 q0, .int .i64 q1, .int .i64 q2, .int .i64 q3, .int .i64 q4]) (.int .i64 2)).run Try.prog w = .ok (.int .i64 q2) w ∧
    (Instr.index 43 (.agg #[.int .i64 q0, .int .i64 q1, .int .i64 q2, .int .i64 q3, .int .i64 q4]) (.int .i64 3)).run Try.prog w = .ok (.int .i64 q3) w ∧
    (Instr.index 43 (.agg #[.int .i64 q0, .int .i64 q1, .int .i64 q2, .int .i64 q3, .int .i64 q4]) (.int .i64 4)).run Try.prog w = .ok (.int .i64 q4) w :=
  ⟨by kernel_rfl, by kernel_rfl, by kernel_rfl, by kernel_rfl, by kernel_rfl⟩

set_option maxHeartbeats 400000 in
theorem new_ok (w : World) (q0 q1 q2 q3 q4 : Int) (h0 : 0 ≤ q0) (h1 : 0 ≤ q1) (h2 : 0 ≤ q2) (h3 : 0 ≤ q3) (h4 : 0 ≤ q4) :
    Calls Try.prog 12 #[.agg #[.int .i64 q0, .int .i64 q1, .int .i64 q2, .int .i64 q3, .int .i64 q4]] w fun e w' =>
      e = .returned (.tuple #[.pointer (some ⟨w.heap.size + 1, 0, none⟩), .int .i64 0]) ∧ Meter w' (w.heap.size + 1) true false (u0 q0 q1 q2 q3 q4) ∧ Below w.heap.size w w' ∧ w'.heap.size = w.heap.size + 2 := by
  have i0 := fun wx => (index5 q0 q1 q2 q3 q4 wx).1
  have i1 := fun wx => (index5 q0 q1 q2 q3 q4 wx).2.1
  have i2 := fun wx => (index5 q0 q1 q2 q3 q4 wx).2.2.1
  have i3 := fun wx => (index5 q0 q1 q2 q3 q4 wx).2.2.2.1
  have i4 := fun wx => (index5 q0 q1 q2 q3 q4 wx).2.2.2.2
  go_enter Try.func12, Try.ntmps12
  go_wp2
  go_rounds 6
  go_ret2
  exact ⟨rfl, heap_alloc2_new w _ _, by go_grown, by simp⟩

set_option maxHeartbeats 400000 in
theorem new_bad (w : World) (q0 q1 q2 q3 q4 : Int) (hq : q0 < 0 ∨ q1 < 0 ∨ q2 < 0 ∨ q3 < 0 ∨ q4 < 0) :
    Calls Try.prog 12 #[.agg #[.int .i64 q0, .int .i64 q1, .int .i64 q2, .int .i64 q3, .int .i64 q4]] w fun e w' =>
      e = .returned (.tuple #[.pointer none, .int .i64 2]) ∧ Below w.heap.size w w' := by
  have i0 := fun wx => (index5 q0 q1 q2 q3 q4 wx).1
  have i1 := fun wx => (index5 q0 q1 q2 q3 q4 wx).2.1
  have i2 := fun wx => (index5 q0 q1 q2 q3 q4 wx).2.2.1
  have i3 := fun wx => (index5 q0 q1 q2 q3 q4 wx).2.2.2.1
  have i4 := fun wx => (index5 q0 q1 q2 q3 q4 wx).2.2.2.2
  by_cases h0 : q0 < 0
  · clear hq
    go_enter Try.func12, Try.ntmps12
    go_wp2
    go_rounds 6
    go_ret2
    exact ⟨rfl, by go_grown⟩
  by_cases h1 : q1 < 0
  · clear hq
    go_enter Try.func12, Try.ntmps12
    go_wp2
    go_rounds 6
    go_ret2
    exact ⟨rfl, by go_grown⟩
  by_cases h2 : q2 < 0
  · clear hq
    go_enter Try.func12, Try.ntmps12
    go_wp2
    go_rounds 6
    go_ret2
    exact ⟨rfl, by go_grown⟩
  by_cases h3 : q3 < 0
  · clear hq
    go_enter Try.func12, Try.ntmps12
    go_wp2
    go_rounds 6
    go_ret2
    exact ⟨rfl, by go_grown⟩
  · have h4 : q4 < 0 := by omega
    clear hq
    go_enter Try.func12, Try.ntmps12
    go_wp2
    go_rounds 6
    go_ret2
    exact ⟨rfl, by go_grown⟩

/-- The cells of the document's meter. -/
def rcells (u : Nat → U) (ov : Bool) : Array Value :=
  #[.int .i64 (u 0).b, .int .i64 (u 1).b, .int .i64 (u 2).b, .int .i64 (u 3).b, .int .i64 (u 4).b, .int .i64 (u 0).n, .int .i64 (u 1).n, .int .i64 (u 2).n, .int .i64 (u 3).n, .int .i64 (u 4).n,
    .int .i64 (u 0).m, .int .i64 (u 1).m, .int .i64 (u 2).m, .int .i64 (u 3).m, .int .i64 (u 4).m, .bool ov]

theorem heap_alloc3_new (w : World) (A B C : Obj) : (((w.alloc A).alloc B).alloc C).heap[w.heap.size + 1 + 1]? = some C := by
  have h := heap_alloc_new ((w.alloc A).alloc B) C
  have e : ((w.alloc A).alloc B).heap.size = w.heap.size + 1 + 1 := by simp
  rwa [e] at h

theorem results_cell_tmp {fn : Func} {p t : Tmp} {ty : TypeId} (h : fn.results = #[.cell p ty, .tmp t]) (P : Program) (tmps : Array Value) (w : World) (g : Nat) (v : Value)
    (hp : tmps.getD p undef = .pointer (some ⟨g, 0, none⟩)) (hl : (loadVar ty ⟨g, 0, none⟩).run P w = .ok v w) :
    (results fn tmps).run P w = .ok (.tuple #[v, tmps.getD t undef]) w := by
  have hp' : tmps[p]?.getD undef = .pointer (some ⟨g, 0, none⟩) := by simpa using hp
  simp [results, h, hp', asAddr, hl]

theorem load45 {w : World} {g : Nat} {cs : Array Value} (hg : w.heap[g]? = some (.cells cs 45 (0, 0))) (hs : cs.size = 16) : (loadVar 45 ⟨g, 0, none⟩).run Try.prog w = .ok (.agg cs) w :=
  run_loadVar_row w g 45 45 cs (0, 0) _ hg Try.underlying45 rfl (by rw [hs]; as_aux_lemma => kernel_rfl)

set_option maxHeartbeats 400000 in
theorem rnew_ok (w : World) (q0 q1 q2 q3 q4 : Int) (h0 : 0 ≤ q0) (h1 : 0 ≤ q1) (h2 : 0 ≤ q2) (h3 : 0 ≤ q3) (h4 : 0 ≤ q4) :
    Calls Try.prog 13 #[.agg #[.int .i64 q0, .int .i64 q1, .int .i64 q2, .int .i64 q3, .int .i64 q4]] w fun e w' =>
      e = .returned (.tuple #[.agg (rcells (u0 q0 q1 q2 q3 q4) false), .int .i64 0]) ∧ Below w.heap.size w w' := by
  go_enter Try.func13, Try.ntmps13
  go_wp2
  refine wp_loop_rounds 6 ?_
  repeat any_goals (rw [rounds_succ]; go_wp2_with (refine wpList_load_rowg rfl 45 _ rfl _ rfl 45 _ (0, 0) _ (heap_alloc3_new _ _ _ _) Try.underlying45 rfl (by as_aux_lemma => kernel_rfl) ?_))
  refine bodyPost_ret (results_cell_tmp rfl _ _ _ (w.heap.size + 1) _ rfl (load45 ((Below.heap_alloc _ _ _ (by simp)).trans (heap_alloc2_new w _ _)) rfl)) rfl ?_
  exact ⟨rfl, by go_grown⟩
end Go.Proofs.Ytahohailcmfpjaa
