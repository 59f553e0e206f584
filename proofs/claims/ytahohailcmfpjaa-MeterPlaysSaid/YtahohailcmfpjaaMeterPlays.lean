/-
  MeterPlays: for every quota and every list of calls the law answers true, and its arguments read as before. No condition beyond the row's own.
-/
import Derived.Test.YtahohailcmfpjaaG
import Derived.OpenShut
import Derived.ShutString
import Derived.ChangeOld
namespace Go.Proofs.Ytahohailcmfpjaa.MeterPlays
open Go.ChangeShapes Go.WideShapes Go.ChangeAt Go.RowKit

theorem own : ownKnob Try.prog.godebug = none := by kernel_rfl
theorem laidOut : laidOutB Try.prog = true := by kernel_rfl

set_option maxRecDepth 100000 in
set_option maxHeartbeats 1000000 in
theorem plays_bad0 (w : World) (q0 q1 q2 q3 q4 : Int) (a : Option Addr) (len cap : Nat) (hq : q0 < 0 ∨ q1 < 0 ∨ q2 < 0 ∨ q3 < 0 ∨ q4 < 0)  (h0 : q0 < 0) :
    Calls Try.prog 4 #[.agg #[.int .i64 q0, .int .i64 q1, .int .i64 q2, .int .i64 q3, .int .i64 q4], .slice a len cap] w fun e w' => e = .returned (.bool true) ∧ Below w.heap.size w w' := by
  have hq' : Hid _ := hq
  clear hq
  go_enter Try.func4, Try.ntmps4
  go_wp2_with (first
    | (go_at_call 12; refine (new_bad _ _ _ _ _ _ hq'.out).mono ?_; rintro e w1 ⟨rfl, hb1⟩;
       have c0 := below_cell hb1 (by simp) (row_cell (heap_alloc_new w _) 0 _ rfl); have c1 := below_cell hb1 (by simp) (row_cell (heap_alloc_new w _) 1 _ rfl); have c2 := below_cell hb1 (by simp) (row_cell (heap_alloc_new w _) 2 _ rfl);
       have c3 := below_cell hb1 (by simp) (row_cell (heap_alloc_new w _) 3 _ rfl); have c4 := below_cell hb1 (by simp) (row_cell (heap_alloc_new w _) 4 _ rfl))
    | (go_at_call 13; refine (rnew_bad0 _ _ _ _ _ _ h0).mono ?_; rintro e w2 ⟨rfl, hb2⟩; clear c0 c1 c2 c3 c4)
    | (go_at_call 14; refine (names_any _).mono ?_; rintro e w3 ⟨rfl, rfl⟩)
    | (refine wpList_store_last rfl 45 _ _ rfl _ (rcells (fun _ => ⟨0, 0, 0⟩) false) rfl rfl (size45 rfl) rfl (by as_aux_lemma => kernel_rfl) ?_))
  have hs := hb1.size
  simp only [World.size_alloc] at hs
  have hs2 := hb2.size
  have hB : Hid (Below w.heap.size w (w2.alloc (.cells (rcells (fun _ => ⟨0, 0, 0⟩) false) 45))) := ((((Below.refl _ w).alloc (Nat.le_refl _) _).trans (hb1.mono (by simp))).trans (hb2.mono (by omega))).alloc (by omega) _
  clear hb1 hb2 hs hs2
  refine wp_loop_once ?_
  by_cases hl : (0 : Int) < (len : Int)
  · go_wp2_with fail
    go_ret
    exact ⟨rfl, hB.out⟩
  · go_wp2_with fail
    go_ret
    exact ⟨rfl, hB.out⟩

set_option maxRecDepth 100000 in
set_option maxHeartbeats 1000000 in
theorem plays_bad1 (w : World) (q0 q1 q2 q3 q4 : Int) (a : Option Addr) (len cap : Nat) (hq : q0 < 0 ∨ q1 < 0 ∨ q2 < 0 ∨ q3 < 0 ∨ q4 < 0) (h0 : 0 ≤ q0) (h1 : q1 < 0) :
    Calls Try.prog 4 #[.agg #[.int .i64 q0, .int .i64 q1, .int .i64 q2, .int .i64 q3, .int .i64 q4], .slice a len cap] w fun e w' => e = .returned (.bool true) ∧ Below w.heap.size w w' := by
  have hq' : Hid _ := hq
  clear hq
  go_enter Try.func4, Try.ntmps4
  go_wp2_with (first
    | (go_at_call 12; refine (new_bad _ _ _ _ _ _ hq'.out).mono ?_; rintro e w1 ⟨rfl, hb1⟩;
       have c0 := below_cell hb1 (by simp) (row_cell (heap_alloc_new w _) 0 _ rfl); have c1 := below_cell hb1 (by simp) (row_cell (heap_alloc_new w _) 1 _ rfl); have c2 := below_cell hb1 (by simp) (row_cell (heap_alloc_new w _) 2 _ rfl);
       have c3 := below_cell hb1 (by simp) (row_cell (heap_alloc_new w _) 3 _ rfl); have c4 := below_cell hb1 (by simp) (row_cell (heap_alloc_new w _) 4 _ rfl))
    | (go_at_call 13; refine (rnew_bad1 _ _ _ _ _ _ h0 h1).mono ?_; rintro e w2 ⟨rfl, hb2⟩; clear c0 c1 c2 c3 c4)
    | (go_at_call 14; refine (names_any _).mono ?_; rintro e w3 ⟨rfl, rfl⟩)
    | (refine wpList_store_last rfl 45 _ _ rfl _ (rcells (fun _ => ⟨0, 0, 0⟩) false) rfl rfl (size45 rfl) rfl (by as_aux_lemma => kernel_rfl) ?_))
  have hs := hb1.size
  simp only [World.size_alloc] at hs
  have hs2 := hb2.size
  have hB : Hid (Below w.heap.size w (w2.alloc (.cells (rcells (fun _ => ⟨0, 0, 0⟩) false) 45))) := ((((Below.refl _ w).alloc (Nat.le_refl _) _).trans (hb1.mono (by simp))).trans (hb2.mono (by omega))).alloc (by omega) _
  clear hb1 hb2 hs hs2
  refine wp_loop_once ?_
  by_cases hl : (0 : Int) < (len : Int)
  · go_wp2_with fail
    go_ret
    exact ⟨rfl, hB.out⟩
  · go_wp2_with fail
    go_ret
    exact ⟨rfl, hB.out⟩

set_option maxRecDepth 100000 in
set_option maxHeartbeats 1000000 in
theorem plays_bad2 (w : World) (q0 q1 q2 q3 q4 : Int) (a : Option Addr) (len cap : Nat) (hq : q0 < 0 ∨ q1 < 0 ∨ q2 < 0 ∨ q3 < 0 ∨ q4 < 0) (h0 : 0 ≤ q0) (h1 : 0 ≤ q1) (h2 : q2 < 0) :
    Calls Try.prog 4 #[.agg #[.int .i64 q0, .int .i64 q1, .int .i64 q2, .int .i64 q3, .int .i64 q4], .slice a len cap] w fun e w' => e = .returned (.bool true) ∧ Below w.heap.size w w' := by
  have hq' : Hid _ := hq
  clear hq
  go_enter Try.func4, Try.ntmps4
  go_wp2_with (first
    | (go_at_call 12; refine (new_bad _ _ _ _ _ _ hq'.out).mono ?_; rintro e w1 ⟨rfl, hb1⟩;
       have c0 := below_cell hb1 (by simp) (row_cell (heap_alloc_new w _) 0 _ rfl); have c1 := below_cell hb1 (by simp) (row_cell (heap_alloc_new w _) 1 _ rfl); have c2 := below_cell hb1 (by simp) (row_cell (heap_alloc_new w _) 2 _ rfl);
       have c3 := below_cell hb1 (by simp) (row_cell (heap_alloc_new w _) 3 _ rfl); have c4 := below_cell hb1 (by simp) (row_cell (heap_alloc_new w _) 4 _ rfl))
    | (go_at_call 13; refine (rnew_bad2 _ _ _ _ _ _ h0 h1 h2).mono ?_; rintro e w2 ⟨rfl, hb2⟩; clear c0 c1 c2 c3 c4)
    | (go_at_call 14; refine (names_any _).mono ?_; rintro e w3 ⟨rfl, rfl⟩)
    | (refine wpList_store_last rfl 45 _ _ rfl _ (rcells (fun _ => ⟨0, 0, 0⟩) false) rfl rfl (size45 rfl) rfl (by as_aux_lemma => kernel_rfl) ?_))
  have hs := hb1.size
  simp only [World.size_alloc] at hs
  have hs2 := hb2.size
  have hB : Hid (Below w.heap.size w (w2.alloc (.cells (rcells (fun _ => ⟨0, 0, 0⟩) false) 45))) := ((((Below.refl _ w).alloc (Nat.le_refl _) _).trans (hb1.mono (by simp))).trans (hb2.mono (by omega))).alloc (by omega) _
  clear hb1 hb2 hs hs2
  refine wp_loop_once ?_
  by_cases hl : (0 : Int) < (len : Int)
  · go_wp2_with fail
    go_ret
    exact ⟨rfl, hB.out⟩
  · go_wp2_with fail
    go_ret
    exact ⟨rfl, hB.out⟩

set_option maxRecDepth 100000 in
set_option maxHeartbeats 1000000 in
theorem plays_bad3 (w : World) (q0 q1 q2 q3 q4 : Int) (a : Option Addr) (len cap : Nat) (hq : q0 < 0 ∨ q1 < 0 ∨ q2 < 0 ∨ q3 < 0 ∨ q4 < 0) (h0 : 0 ≤ q0) (h1 : 0 ≤ q1) (h2 : 0 ≤ q2) (h3 : q3 < 0) :
    Calls Try.prog 4 #[.agg #[.int .i64 q0, .int .i64 q1, .int .i64 q2, .int .i64 q3, .int .i64 q4], .slice a len cap] w fun e w' => e = .returned (.bool true) ∧ Below w.heap.size w w' := by
  have hq' : Hid _ := hq
  clear hq
  go_enter Try.func4, Try.ntmps4
  go_wp2_with (first
    | (go_at_call 12; refine (new_bad _ _ _ _ _ _ hq'.out).mono ?_; rintro e w1 ⟨rfl, hb1⟩;
       have c0 := below_cell hb1 (by simp) (row_cell (heap_alloc_new w _) 0 _ rfl); have c1 := below_cell hb1 (by simp) (row_cell (heap_alloc_new w _) 1 _ rfl); have c2 := below_cell hb1 (by simp) (row_cell (heap_alloc_new w _) 2 _ rfl);
       have c3 := below_cell hb1 (by simp) (row_cell (heap_alloc_new w _) 3 _ rfl); have c4 := below_cell hb1 (by simp) (row_cell (heap_alloc_new w _) 4 _ rfl))
    | (go_at_call 13; refine (rnew_bad3 _ _ _ _ _ _ h0 h1 h2 h3).mono ?_; rintro e w2 ⟨rfl, hb2⟩; clear c0 c1 c2 c3 c4)
    | (go_at_call 14; refine (names_any _).mono ?_; rintro e w3 ⟨rfl, rfl⟩)
    | (refine wpList_store_last rfl 45 _ _ rfl _ (rcells (fun _ => ⟨0, 0, 0⟩) false) rfl rfl (size45 rfl) rfl (by as_aux_lemma => kernel_rfl) ?_))
  have hs := hb1.size
  simp only [World.size_alloc] at hs
  have hs2 := hb2.size
  have hB : Hid (Below w.heap.size w (w2.alloc (.cells (rcells (fun _ => ⟨0, 0, 0⟩) false) 45))) := ((((Below.refl _ w).alloc (Nat.le_refl _) _).trans (hb1.mono (by simp))).trans (hb2.mono (by omega))).alloc (by omega) _
  clear hb1 hb2 hs hs2
  refine wp_loop_once ?_
  by_cases hl : (0 : Int) < (len : Int)
  · go_wp2_with fail
    go_ret
    exact ⟨rfl, hB.out⟩
  · go_wp2_with fail
    go_ret
    exact ⟨rfl, hB.out⟩

set_option maxRecDepth 100000 in
set_option maxHeartbeats 1000000 in
theorem plays_bad4 (w : World) (q0 q1 q2 q3 q4 : Int) (a : Option Addr) (len cap : Nat) (hq : q0 < 0 ∨ q1 < 0 ∨ q2 < 0 ∨ q3 < 0 ∨ q4 < 0) (h0 : 0 ≤ q0) (h1 : 0 ≤ q1) (h2 : 0 ≤ q2) (h3 : 0 ≤ q3) (h4 : q4 < 0) :
    Calls Try.prog 4 #[.agg #[.int .i64 q0, .int .i64 q1, .int .i64 q2, .int .i64 q3, .int .i64 q4], .slice a len cap] w fun e w' => e = .returned (.bool true) ∧ Below w.heap.size w w' := by
  have hq' : Hid _ := hq
  clear hq
  go_enter Try.func4, Try.ntmps4
  go_wp2_with (first
    | (go_at_call 12; refine (new_bad _ _ _ _ _ _ hq'.out).mono ?_; rintro e w1 ⟨rfl, hb1⟩;
       have c0 := below_cell hb1 (by simp) (row_cell (heap_alloc_new w _) 0 _ rfl); have c1 := below_cell hb1 (by simp) (row_cell (heap_alloc_new w _) 1 _ rfl); have c2 := below_cell hb1 (by simp) (row_cell (heap_alloc_new w _) 2 _ rfl);
       have c3 := below_cell hb1 (by simp) (row_cell (heap_alloc_new w _) 3 _ rfl); have c4 := below_cell hb1 (by simp) (row_cell (heap_alloc_new w _) 4 _ rfl))
    | (go_at_call 13; refine (rnew_bad4 _ _ _ _ _ _ h0 h1 h2 h3 h4).mono ?_; rintro e w2 ⟨rfl, hb2⟩; clear c0 c1 c2 c3 c4)
    | (go_at_call 14; refine (names_any _).mono ?_; rintro e w3 ⟨rfl, rfl⟩)
    | (refine wpList_store_last rfl 45 _ _ rfl _ (rcells (fun _ => ⟨0, 0, 0⟩) false) rfl rfl (size45 rfl) rfl (by as_aux_lemma => kernel_rfl) ?_))
  have hs := hb1.size
  simp only [World.size_alloc] at hs
  have hs2 := hb2.size
  have hB : Hid (Below w.heap.size w (w2.alloc (.cells (rcells (fun _ => ⟨0, 0, 0⟩) false) 45))) := ((((Below.refl _ w).alloc (Nat.le_refl _) _).trans (hb1.mono (by simp))).trans (hb2.mono (by omega))).alloc (by omega) _
  clear hb1 hb2 hs hs2
  refine wp_loop_once ?_
  by_cases hl : (0 : Int) < (len : Int)
  · go_wp2_with fail
    go_ret
    exact ⟨rfl, hB.out⟩
  · go_wp2_with fail
    go_ret
    exact ⟨rfl, hB.out⟩

theorem walk (w : World) (q0 q1 q2 q3 q4 : Int) (a : Option Addr) (len cap : Nat) (F : Nat → Bool) (K N : Nat → Int) (hA : IsActs w a len F K N)
    (m0 : q0 ≤ 9223372036854775807) (m1 : q1 ≤ 9223372036854775807) (m2 : q2 ≤ 9223372036854775807) (m3 : q3 ≤ 9223372036854775807) (m4 : q4 ≤ 9223372036854775807) :
    Calls Try.prog 4 #[.agg #[.int .i64 q0, .int .i64 q1, .int .i64 q2, .int .i64 q3, .int .i64 q4], .slice a len cap] w fun e w' => e = .returned (.bool true) ∧ Below w.heap.size w w' := by
  by_cases h0 : q0 < 0
  · exact plays_bad0 w q0 q1 q2 q3 q4 a len cap (by omega) h0
  by_cases h1 : q1 < 0
  · exact plays_bad1 w q0 q1 q2 q3 q4 a len cap (by omega) (by omega) h1
  by_cases h2 : q2 < 0
  · exact plays_bad2 w q0 q1 q2 q3 q4 a len cap (by omega) (by omega) (by omega) h2
  by_cases h3 : q3 < 0
  · exact plays_bad3 w q0 q1 q2 q3 q4 a len cap (by omega) (by omega) (by omega) (by omega) h3
  by_cases h4 : q4 < 0
  · exact plays_bad4 w q0 q1 q2 q3 q4 a len cap (by omega) (by omega) (by omega) (by omega) (by omega) h4
  exact plays_ok w q0 q1 q2 q3 q4 a len cap F K N hA (by omega) (by omega) (by omega) (by omega) (by omega) m0 m1 m2 m3 m4

set_option maxRecDepth 100000 in
theorem lifted (os : Os) (started : os.Started) (H : Type) (enc : TypeId × Value → H) :
    ReturnsInHanded {} Try.checked os 4 .any (Rows.meterPlaysSpec.pre6 enc Try.prog Try.f4 Rows.meterPlaysRow.domain false) (Rows.meterPlaysSpec.post enc Try.prog Try.f4 false true false false) := by
  refine returnsInHanded_of_change (C := Try.checked) own started (by kernel_rfl) Try.func4
    (ChangeSpec.witness6 (enc := enc) (C := Try.checked) false ⟨#[], #[.agg #[.int .i64 0, .int .i64 0, .int .i64 0, .int .i64 0, .int .i64 0], .slice none 0 0], []⟩ 8 (by kernel_rfl) (by kernel_rfl) (by kernel_rfl) (by kernel_rfl)) ?_
  intro W base args ds gs before hval0 hW hcnd _
  have hval : ∀ (j : Nat) t v, Try.f4.params[j]? = some t → args[j]? = some v → Value.okWide Try.prog W .any base t v := hval0
  have hW' := hW
  obtain ⟨p, q, hA0, hV, rfl, hfz, hnd⟩ := hW
  have hA : DataW.TrodAll enc Try.prog W 0 (fun _ => true) true Try.f4.params.toList args.toList ds p := hA0
  rw [Try.params4] at hA hval
  obtain ⟨v0, vs0, d0, ds0, p0, q0, hargs, rfl, rfl, h0, r0⟩ := trodAll_cons hA
  obtain ⟨v1, vs1, d1, ds1, p1, q1, rfl, rfl, rfl, h1, r1⟩ := trodAll_cons r0
  obtain ⟨rfl, rfl, rfl⟩ := trodAll_nil r1
  obtain rfl : args = #[v0, v1] := by cases args; simp_all
  obtain ⟨rfl, rfl⟩ := trodVars_none hV
  have k0 := h0
  have lt0 : ∀ x ∈ p0, x.block < W.heap.size := by obtain ⟨m, hm⟩ := k0; exact DataW.trod_lt m _ _ _ hm
  have k1 := h1
  have lt1 : ∀ x ∈ p1, x.block < W.heap.size := by obtain ⟨m, hm⟩ := k1; exact DataW.trod_lt m _ _ _ hm
  obtain ⟨b0, b1, b2, b3, b4, rfl, w0, w1, w2, w3, w4⟩ := quota_open (hval 0 39 v0 rfl rfl) h0
  obtain ⟨a, len, cap, F, K, N, rfl, hacts⟩ := acts_open (hval 1 40 v1 rfl rfl) h1
  clear hA0 hval0
  refine (walk W b0 b1 b2 b3 b4 a len cap F K N hacts (bounds_i64 w0).2 (bounds_i64 w1).2 (bounds_i64 w2).2 (bounds_i64 w3).2 (bounds_i64 w4).2).mono fun e W' ⟨he, bel⟩ => ?_
  subst he
  exact ⟨_, rfl, _, _, _, [], _, [], hW', trodAll_mk1 (shut_bool Try.underlying4 _),
    (trodAll_cons_mk (Below.trod laidOut (by kernel_rfl) (of_decide_eq_true (by kernel_rfl)) k0 bel lt0) (trodAll_cons_mk (Below.trod laidOut (by kernel_rfl) (of_decide_eq_true (by kernel_rfl)) k1 bel lt1) trodAll_mk0)), rfl, bel.frame _, fun h => by cases h⟩

theorem proved : Rows.MeterPlaysSaid :=
  OpenClaim.holds_of_wide 4 Try.f4 rfl rfl rfl rfl rfl rfl rfl ⟨rfl, rfl, rfl, rfl, rfl⟩ rfl rfl rfl rfl rfl (by kernel_rfl) Try.func4 (by kernel_rfl)
    (of_decide_eq_true (by kernel_rfl)) (by unfold Func.isWrapper; rw [if_neg (of_decide_eq_false (by kernel_rfl))]; exact ⟨rfl, rfl⟩)
    (fun os started H enc _ => lifted os started H enc)
#print axioms proved
end Go.Proofs.Ytahohailcmfpjaa.MeterPlays
