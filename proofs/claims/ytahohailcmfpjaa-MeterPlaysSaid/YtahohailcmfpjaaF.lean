/-
  The document's maker of a meter, of a quota that may not be; and the laws for a whole struct stored at one step.
-/
import Derived.Test.YtahohailcmfpjaaE
import Derived.Deep.WholeRow
namespace Go.Proofs.Ytahohailcmfpjaa
open Go.RowKit

theorem wpList_store_last {P : Program} {ops : Array Oper} {rest : List Oper} {o : Oper} {a : Act} {w : World} {Q : Exit → Act → World → Prop} (hgd : o.guard = none) (ty : TypeId) (x y : Operand) (ho : o.op = .store ty x y)
    (old cells : Array Value) (hx : a.eval x = .pointer (some ⟨w.heap.size, 0, none⟩)) (hy : a.eval y = .agg cells)
    (hi : (P.info? ty).map (·.size) = some cells.size) (hold : old.size = cells.size) (h1 : cells.all (·.oneCell') = true)
    (h : wpList P ops Q rest (a.put o.dst undef) (w.alloc (.cells cells ty))) : wpList P ops Q (o :: rest) a (w.alloc (.cells old ty)) :=
  wpList_store_row hgd ty x y ho w.heap.size cells hx hy ty old (heap_alloc_last w _) hi hold h1 (by rw [World.setRow_alloc_new]; exact h)

theorem size45 {cs : Array Value} (h : cs.size = 16) : (Try.prog.info? 45).map (·.size) = some cs.size := by rw [h]; as_aux_lemma => kernel_rfl

theorem heap_alloc3_mid (w : World) (A B C : Obj) : (((w.alloc A).alloc B).alloc C).heap[w.heap.size + 1]? = some B :=
  (Below.heap_alloc _ _ _ (by simp)).trans (heap_alloc2_new w _ _)

theorem setRow_get {w : World} {g : Nat} {cs old : Array Value} {t : Nat} (hg : w.heap[g]? = some (.cells old t (0, 0))) : (w.setRow g cs).heap[g]? = some (.cells cs t (0, 0)) :=
  setRow_heap w g old cs t (0, 0) hg

theorem below_setRow {B : Nat} {w w' : World} (h : Below B w w') {g : Nat} (hg : B ≤ g) (cs : Array Value) : Below B w (w'.setRow g cs) := by
  refine h.trans ⟨rfl, rfl, rfl, by simp, fun k hk => ?_⟩
  simp only [World.setRow, Array.getElem?_modify]
  rw [if_neg (by omega)]

set_option maxHeartbeats 400000 in
theorem rnew_bad0 (w : World) (q0 q1 q2 q3 q4 : Int)  (h0 : q0 < 0) :
    Calls Try.prog 13 #[.agg #[.int .i64 q0, .int .i64 q1, .int .i64 q2, .int .i64 q3, .int .i64 q4]] w fun e w' =>
      e = .returned (.tuple #[.agg (rcells (fun _ => ⟨0, 0, 0⟩) false), .int .i64 2]) ∧ Below w.heap.size w w' := by
  go_enter Try.func13, Try.ntmps13
  go_wp2_with (refine wpList_store_last rfl 45 _ _ rfl _ _ rfl rfl (size45 rfl) rfl (by as_aux_lemma => kernel_rfl) ?_)
  refine wp_loop_rounds 6 ?_
  repeat any_goals (rw [rounds_succ]; go_wp2_with (refine wpList_store_row rfl 45 _ _ rfl _ _ rfl rfl 45 _ (heap_alloc3_mid _ _ _ _) (size45 rfl) rfl (by as_aux_lemma => kernel_rfl) ?_))
  refine bodyPost_ret (results_cell_tmp rfl _ _ _ (w.heap.size + 1) _ rfl (load45 (cs := rcells (fun _ => ⟨0, 0, 0⟩) false) (setRow_get (heap_alloc3_mid _ _ _ _)) rfl)) rfl ?_
  exact ⟨rfl, below_setRow (by go_grown) (by omega) _⟩

set_option maxHeartbeats 400000 in
theorem rnew_bad1 (w : World) (q0 q1 q2 q3 q4 : Int) (h0 : 0 ≤ q0) (h1 : q1 < 0) :
    Calls Try.prog 13 #[.agg #[.int .i64 q0, .int .i64 q1, .int .i64 q2, .int .i64 q3, .int .i64 q4]] w fun e w' =>
      e = .returned (.tuple #[.agg (rcells (fun _ => ⟨0, 0, 0⟩) false), .int .i64 2]) ∧ Below w.heap.size w w' := by
  go_enter Try.func13, Try.ntmps13
  go_wp2_with (refine wpList_store_last rfl 45 _ _ rfl _ _ rfl rfl (size45 rfl) rfl (by as_aux_lemma => kernel_rfl) ?_)
  refine wp_loop_rounds 6 ?_
  repeat any_goals (rw [rounds_succ]; go_wp2_with (refine wpList_store_row rfl 45 _ _ rfl _ _ rfl rfl 45 _ (heap_alloc3_mid _ _ _ _) (size45 rfl) rfl (by as_aux_lemma => kernel_rfl) ?_))
  refine bodyPost_ret (results_cell_tmp rfl _ _ _ (w.heap.size + 1) _ rfl (load45 (cs := rcells (fun _ => ⟨0, 0, 0⟩) false) (setRow_get (heap_alloc3_mid _ _ _ _)) rfl)) rfl ?_
  exact ⟨rfl, below_setRow (by go_grown) (by omega) _⟩

set_option maxHeartbeats 400000 in
theorem rnew_bad2 (w : World) (q0 q1 q2 q3 q4 : Int) (h0 : 0 ≤ q0) (h1 : 0 ≤ q1) (h2 : q2 < 0) :
    Calls Try.prog 13 #[.agg #[.int .i64 q0, .int .i64 q1, .int .i64 q2, .int .i64 q3, .int .i64 q4]] w fun e w' =>
      e = .returned (.tuple #[.agg (rcells (fun _ => ⟨0, 0, 0⟩) false), .int .i64 2]) ∧ Below w.heap.size w w' := by
  go_enter Try.func13, Try.ntmps13
  go_wp2_with (refine wpList_store_last rfl 45 _ _ rfl _ _ rfl rfl (size45 rfl) rfl (by as_aux_lemma => kernel_rfl) ?_)
  refine wp_loop_rounds 6 ?_
  repeat any_goals (rw [rounds_succ]; go_wp2_with (refine wpList_store_row rfl 45 _ _ rfl _ _ rfl rfl 45 _ (heap_alloc3_mid _ _ _ _) (size45 rfl) rfl (by as_aux_lemma => kernel_rfl) ?_))
  refine bodyPost_ret (results_cell_tmp rfl _ _ _ (w.heap.size + 1) _ rfl (load45 (cs := rcells (fun _ => ⟨0, 0, 0⟩) false) (setRow_get (heap_alloc3_mid _ _ _ _)) rfl)) rfl ?_
  exact ⟨rfl, below_setRow (by go_grown) (by omega) _⟩

set_option maxHeartbeats 400000 in
theorem rnew_bad3 (w : World) (q0 q1 q2 q3 q4 : Int) (h0 : 0 ≤ q0) (h1 : 0 ≤ q1) (h2 : 0 ≤ q2) (h3 : q3 < 0) :
    Calls Try.prog 13 #[.agg #[.int .i64 q0, .int .i64 q1, .int .i64 q2, .int .i64 q3, .int .i64 q4]] w fun e w' =>
      e = .returned (.tuple #[.agg (rcells (fun _ => ⟨0, 0, 0⟩) false), .int .i64 2]) ∧ Below w.heap.size w w' := by
  go_enter Try.func13, Try.ntmps13
  go_wp2_with (refine wpList_store_last rfl 45 _ _ rfl _ _ rfl rfl (size45 rfl) rfl (by as_aux_lemma => kernel_rfl) ?_)
  refine wp_loop_rounds 6 ?_
  repeat any_goals (rw [rounds_succ]; go_wp2_with (refine wpList_store_row rfl 45 _ _ rfl _ _ rfl rfl 45 _ (heap_alloc3_mid _ _ _ _) (size45 rfl) rfl (by as_aux_lemma => kernel_rfl) ?_))
  refine bodyPost_ret (results_cell_tmp rfl _ _ _ (w.heap.size + 1) _ rfl (load45 (cs := rcells (fun _ => ⟨0, 0, 0⟩) false) (setRow_get (heap_alloc3_mid _ _ _ _)) rfl)) rfl ?_
  exact ⟨rfl, below_setRow (by go_grown) (by omega) _⟩

set_option maxHeartbeats 400000 in
theorem rnew_bad4 (w : World) (q0 q1 q2 q3 q4 : Int) (h0 : 0 ≤ q0) (h1 : 0 ≤ q1) (h2 : 0 ≤ q2) (h3 : 0 ≤ q3) (h4 : q4 < 0) :
    Calls Try.prog 13 #[.agg #[.int .i64 q0, .int .i64 q1, .int .i64 q2, .int .i64 q3, .int .i64 q4]] w fun e w' =>
      e = .returned (.tuple #[.agg (rcells (fun _ => ⟨0, 0, 0⟩) false), .int .i64 2]) ∧ Below w.heap.size w w' := by
  go_enter Try.func13, Try.ntmps13
  go_wp2_with (refine wpList_store_last rfl 45 _ _ rfl _ _ rfl rfl (size45 rfl) rfl (by as_aux_lemma => kernel_rfl) ?_)
  refine wp_loop_rounds 6 ?_
  repeat any_goals (rw [rounds_succ]; go_wp2_with (refine wpList_store_row rfl 45 _ _ rfl _ _ rfl rfl 45 _ (heap_alloc3_mid _ _ _ _) (size45 rfl) rfl (by as_aux_lemma => kernel_rfl) ?_))
  refine bodyPost_ret (results_cell_tmp rfl _ _ _ (w.heap.size + 1) _ rfl (load45 (cs := rcells (fun _ => ⟨0, 0, 0⟩) false) (setRow_get (heap_alloc3_mid _ _ _ _)) rfl)) rfl ?_
  exact ⟨rfl, below_setRow (by go_grown) (by omega) _⟩

end Go.Proofs.Ytahohailcmfpjaa
