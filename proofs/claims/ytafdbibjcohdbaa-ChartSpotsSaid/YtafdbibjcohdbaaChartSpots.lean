/-
  ChartSpots: for every number and every place the law answers true, and its arguments read as before. No condition beyond the row's own.
-/
import Derived.Test.YtafdbibjcohdbaaC
import Derived.ProofKit
import Derived.OpenShut
import Derived.ShutString
import Derived.ChangeOld
namespace Go.Proofs.Ytafdbibjcohdbaa.ChartSpots
open Go.ChangeShapes Go.WideShapes Go.ChangeAt Go.RowKit

theorem own : ownKnob Try.prog.godebug = none := by kernel_rfl
theorem laidOut : laidOutB Try.prog = true := by kernel_rfl

theorem names_any (w : World) : Calls Try.prog 13 #[] w fun e w' => e = .returned (.bool true) ∧ w = w' := by
  go_enter Try.func13, Try.ntmps13
  go_wp2
  go_ret
  exact ⟨rfl, rfl⟩

set_option maxHeartbeats 1600000 in
theorem out_out (n : Int) (hn : n < 0 ∨ 1048576 < n) (x y : Int) (h : x < -512 ∨ 512 < x ∨ y < -512 ∨ 512 < y) (w : World) :
    Calls Try.prog 4 #[.int .i64 n, .int .i64 x, .int .i64 y] w fun e w' => e = .returned (.bool true) ∧ w = w' := by
  have hS := fun w => spot_out n hn w
  have hN := fun w => number_out x y h w
  by_cases n1 : n < 0 <;> by_cases x1 : x < -512 <;> by_cases x2 : 512 < x <;> by_cases y1 : y < -512
  all_goals
    try have y2 : 512 < y := by omega
    try have n2 : 1048576 < n := by omega
    clear h hn
    go_enter Try.func4, Try.ntmps4
    go_wp2_with (first
      | (go_at_call 11; refine (hS _).mono ?_; rintro e w' ⟨rfl, rfl⟩)
      | (go_at_call 12; refine (hN _).mono ?_; rintro e w' ⟨rfl, rfl⟩)
      | (go_at_call 13; refine (names_any _).mono ?_; rintro e w' ⟨rfl, rfl⟩))
    all_goals (go_ret; exact ⟨rfl, rfl⟩)

set_option maxHeartbeats 1600000 in
theorem out_in (n : Int) (hn : n < 0 ∨ 1048576 < n) (x y : Int) (hx : -512 ≤ x ∧ x ≤ 512) (hy : -512 ≤ y ∧ y ≤ 512) (w : World) :
    Calls Try.prog 4 #[.int .i64 n, .int .i64 x, .int .i64 y] w fun e w' => e = .returned (.bool true) ∧ w = w' := by
  have hS := fun w => spot_out n hn w
  obtain ⟨N, hN0⟩ : ∃ N, numF x y = N := ⟨_, rfl⟩
  have hN := fun w => number_in x y hx hy w
  have hM := fun w => rnumber_any x y hx hy w
  rw [hN0] at hN hM
  obtain ⟨x1, x2⟩ := hx
  obtain ⟨y1, y2⟩ := hy
  clear hN0
  by_cases n1 : n < 0
  all_goals
    try have n2 : 1048576 < n := by omega
    clear hn
    go_enter Try.func4, Try.ntmps4
    go_wp2_with (first
      | (go_at_call 11; refine (hS _).mono ?_; rintro e w' ⟨rfl, rfl⟩)
      | (go_at_call 12; refine (hN _).mono ?_; rintro e w' ⟨rfl, rfl⟩)
      | (go_at_call 14; refine (hM _).mono ?_; rintro e w' ⟨rfl, rfl⟩)
      | (go_at_call 13; refine (names_any _).mono ?_; rintro e w' ⟨rfl, rfl⟩))
    all_goals (go_ret; exact ⟨rfl, rfl⟩)

set_option maxHeartbeats 1600000 in
theorem in_out (n : Nat) (hn : n ≤ 1048576) (x y : Int) (h : x < -512 ∨ 512 < x ∨ y < -512 ∨ 512 < y) (w : World) :
    Calls Try.prog 4 #[.int .i64 n, .int .i64 x, .int .i64 y] w fun e w' => e = .returned (.bool true) ∧ w = w' := by
  obtain ⟨P, hP⟩ : ∃ P, spot n = P := ⟨_, rfl⟩
  have hS := fun w => spot_any n hn w
  have hR := fun w => rspot_any n hn w
  rw [hP] at hS hR
  clear hP
  have n1 : (0 : Int) ≤ n := by omega
  have n2 : (n : Int) ≤ 1048576 := by omega
  have hN := fun w => number_out x y h w
  by_cases x1 : x < -512 <;> by_cases x2 : 512 < x <;> by_cases y1 : y < -512
  all_goals
    try have y2 : 512 < y := by omega
    clear h hn
    go_enter Try.func4, Try.ntmps4
    go_wp2_with (first
      | (go_at_call 11; refine (hS _).mono ?_; rintro e w' ⟨rfl, rfl⟩)
      | (go_at_call 12; refine (hN _).mono ?_; rintro e w' ⟨rfl, rfl⟩)
      | (go_at_call 10; refine (hR _).mono ?_; rintro e w' ⟨rfl, rfl⟩)
      | (go_at_call 13; refine (names_any _).mono ?_; rintro e w' ⟨rfl, rfl⟩))
    all_goals (go_ret; exact ⟨rfl, rfl⟩)

set_option maxHeartbeats 1600000 in
theorem in_in (n : Nat) (hn : n ≤ 1048576) (x y : Int) (hx : -512 ≤ x ∧ x ≤ 512) (hy : -512 ≤ y ∧ y ≤ 512) (w : World) :
    Calls Try.prog 4 #[.int .i64 n, .int .i64 x, .int .i64 y] w fun e w' => e = .returned (.bool true) ∧ w = w' := by
  obtain ⟨P, hP⟩ : ∃ P, spot n = P := ⟨_, rfl⟩
  have hS := fun w => spot_any n hn w
  have hR := fun w => rspot_any n hn w
  rw [hP] at hS hR
  clear hP
  have n1 : (0 : Int) ≤ n := by omega
  have n2 : (n : Int) ≤ 1048576 := by omega
  obtain ⟨N, hN0⟩ : ∃ N, numF x y = N := ⟨_, rfl⟩
  have hN := fun w => number_in x y hx hy w
  have hM := fun w => rnumber_any x y hx hy w
  rw [hN0] at hN hM
  obtain ⟨x1, x2⟩ := hx
  obtain ⟨y1, y2⟩ := hy
  clear hN0
  clear hn
  go_enter Try.func4, Try.ntmps4
  go_wp2_with (first
    | (go_at_call 11; refine (hS _).mono ?_; rintro e w' ⟨rfl, rfl⟩)
    | (go_at_call 12; refine (hN _).mono ?_; rintro e w' ⟨rfl, rfl⟩)
    | (go_at_call 10; refine (hR _).mono ?_; rintro e w' ⟨rfl, rfl⟩)
    | (go_at_call 14; refine (hM _).mono ?_; rintro e w' ⟨rfl, rfl⟩)
    | (go_at_call 13; refine (names_any _).mono ?_; rintro e w' ⟨rfl, rfl⟩))
  all_goals (go_ret; exact ⟨rfl, rfl⟩)

theorem walk (n x y : Int) (w : World) :
    Calls Try.prog 4 #[.int .i64 n, .int .i64 x, .int .i64 y] w fun e w' => e = .returned (.bool true) ∧ w = w' := by
  by_cases hn : n < 0 ∨ 1048576 < n
  · by_cases h : x < -512 ∨ 512 < x ∨ y < -512 ∨ 512 < y
    · exact out_out n hn x y h w
    · exact out_in n hn x y (by omega) (by omega) w
  · obtain ⟨m, rfl⟩ : ∃ m : Nat, n = m := ⟨n.toNat, by omega⟩
    by_cases h : x < -512 ∨ 512 < x ∨ y < -512 ∨ 512 < y
    · exact in_out m (by omega) x y h w
    · exact in_in m (by omega) x y (by omega) (by omega) w

set_option maxRecDepth 100000 in
theorem lifted (os : Os) (started : os.Started) (H : Type) (enc : TypeId × Value → H) :
    ReturnsInHanded {} Try.checked os 4 .any (Rows.chartSpotsSpec.pre6 enc Try.prog Try.f4 Rows.chartSpotsRow.domain false) (Rows.chartSpotsSpec.post enc Try.prog Try.f4 false true false false) := by
  refine returnsInHanded_of_change (C := Try.checked) own started (by kernel_rfl) Try.func4
    (ChangeSpec.witness6 (enc := enc) (C := Try.checked) false ⟨#[], #[.int .i64 0, .int .i64 0, .int .i64 0], []⟩ 8 (by kernel_rfl) (by kernel_rfl) (by kernel_rfl) (by kernel_rfl)) ?_
  intro W base args ds gs before hval0 hW hcnd _
  have hval : ∀ (j : Nat) t v, Try.f4.params[j]? = some t → args[j]? = some v → Value.okWide Try.prog W .any base t v := hval0
  have hW' := hW
  obtain ⟨p, q, hA0, hV, rfl, hfz, hnd⟩ := hW
  have hA : DataW.TrodAll enc Try.prog W 0 (fun _ => true) true Try.f4.params.toList args.toList ds p := hA0
  rw [Try.params4] at hA hval
  obtain ⟨v0, vs0, d0, ds0, p0, q0, hargs, rfl, rfl, h0, r0⟩ := trodAll_cons hA
  obtain ⟨v1, vs1, d1, ds1, p1, q1, rfl, rfl, rfl, h1, r1⟩ := trodAll_cons r0
  obtain ⟨v2, vs2, d2, ds2, p2, q2, rfl, rfl, rfl, h2, r2⟩ := trodAll_cons r1
  obtain ⟨rfl, rfl, rfl⟩ := trodAll_nil r2
  obtain rfl : args = #[v0, v1, v2] := by cases args; simp_all
  obtain ⟨rfl, rfl⟩ := trodVars_none hV
  obtain ⟨n, rfl, rfl, rfl, wn⟩ := open_int Try.underlying3 (hval 0 3 v0 rfl rfl) h0
  obtain ⟨x, rfl, rfl, rfl, wx⟩ := open_int Try.underlying3 (hval 1 3 v1 rfl rfl) h1
  obtain ⟨y, rfl, rfl, rfl, wy⟩ := open_int Try.underlying3 (hval 2 3 v2 rfl rfl) h2
  clear hA0 hval0
  refine (walk n x y W).mono fun e W' ⟨he, hw⟩ => ?_
  subst he
  subst hw
  exact ⟨_, rfl, _, _, _, [], _, [], hW', trodAll_mk1 (shut_bool Try.underlying4 _),
    (trodAll_cons_mk (shut_int Try.underlying3 wn) (trodAll_cons_mk (shut_int Try.underlying3 wx) (trodAll_cons_mk (shut_int Try.underlying3 wy) trodAll_mk0))), rfl, World.keptBut_refl _ _, fun h => by cases h⟩

theorem proved : Rows.ChartSpotsSaid :=
  OpenClaim.holds_of_wide 4 Try.f4 rfl rfl rfl rfl rfl rfl rfl ⟨rfl, rfl, rfl, rfl, rfl⟩ rfl rfl rfl rfl rfl (by kernel_rfl) Try.func4 (by kernel_rfl)
    (of_decide_eq_true (by kernel_rfl)) (by unfold Func.isWrapper; rw [if_neg (of_decide_eq_false (by kernel_rfl))]; exact ⟨rfl, rfl⟩)
    (fun os started H enc _ => lifted os started H enc)
#print axioms proved
end Go.Proofs.Ytafdbibjcohdbaa.ChartSpots
