/-
  ChartBack: for every number the law answers true, and its argument reads as before. No condition beyond the row's own.
-/
import Derived.Test.YtafdbibjcohdbaaC
import Derived.Deep.RegionWith
import Derived.ProofKit
import Derived.OpenShut
import Derived.ShutString
import Derived.ChangeOld
namespace Go.Proofs.Ytafdbibjcohdbaa.ChartBack
open Go.ChangeShapes Go.WideShapes Go.ChangeAt Go.RowKit

theorem own : ownKnob Try.prog.godebug = none := by kernel_rfl
theorem laidOut : laidOutB Try.prog = true := by kernel_rfl

set_option maxHeartbeats 800000 in
theorem back_out (n : Int) (hn : n < 0 ∨ 1048576 < n) (w : World) :
    Calls Try.prog 5 #[.int .i64 n] w fun e w' => e = .returned (.bool true) ∧ w = w' := by
  have hS := fun w => spot_out n hn w
  by_cases n1 : n < 0
  all_goals
    try have n2 : 1048576 < n := by omega
    clear hn
    go_enter Try.func5, Try.ntmps5
    go_wp2_with (go_at_call 11; refine (hS _).mono ?_; rintro e w' ⟨rfl, rfl⟩)
    all_goals (go_ret; exact ⟨rfl, rfl⟩)

set_option maxRecDepth 100000 in
theorem back_zero (w : World) :
    Calls Try.prog 5 #[.int .i64 0] w fun e w' => e = .returned (.bool true) ∧ w = w' := by
  have hS := fun w => spot_any 0 (by omega) w
  have hN := fun w => number_in 0 0 (by omega) (by omega) w
  rw [spot_zero] at hS
  rw [show numF 0 0 = 0 by decide] at hN
  go_enter Try.func5, Try.ntmps5
  go_wp2_with (first
    | (go_at_call 11; refine (hS _).mono ?_; rintro e w' ⟨rfl, rfl⟩)
    | (go_at_call 12; refine (hN _).mono ?_; rintro e w' ⟨rfl, rfl⟩))
  go_ret
  exact ⟨rfl, rfl⟩

/-- No place below 2^20 lies further than 512 off. -/
theorem near {n : Nat} {x y : Int} (h : Place n x y) (hn : n ≤ 1048576) : kOf x y ≤ 512 := by
  by_cases hk : kOf x y ≤ 512
  · exact hk
  · exfalso
    have h1 := h.lo
    obtain ⟨K, hK⟩ : ∃ K, kOf x y = K := ⟨_, rfl⟩
    rw [hK] at h1 hk
    have h2 : 513 * (K - 1) ≤ K * (K - 1) := Int.mul_le_mul_of_nonneg_right (by omega) (by omega)
    have h3 : K * (K - 1) = K * K - K := by rw [Int.mul_sub, Int.mul_one]
    omega

theorem sq2K (K : Int) : 2 * K * (2 * K) = 2 * 2 * (K * K) := by ac_rfl
theorem Sq1 (K : Int) : (2 * K + 1) * (2 * K + 1) = 4 * (K * K) + 4 * K + 1 := by
  rw [Int.add_mul, Int.mul_add, sq2K]
  omega
theorem Sq2 (K : Int) : (2 * K - 1) * (2 * K - 1) = 4 * (K * K) - 4 * K + 1 := by
  rw [Int.sub_mul, Int.mul_sub, sq2K]
  omega

set_option maxRecDepth 100000 in
set_option maxHeartbeats 1600000 in
theorem back_in (m : Nat) (hm : m + 1 ≤ 1048576) (w : World) :
    Calls Try.prog 5 #[.int .i64 ((m : Int) + 1)] w fun e w' => e = .returned (.bool true) ∧ w = w' := by
  have hp := spot_place (m + 1) (by omega)
  have hS := fun w => spot_any (m + 1) hm w
  have hS0 := fun w => spot_any m (by omega) w
  obtain ⟨u, v, hU, hnext⟩ := spot_next m
  obtain ⟨P, hP⟩ : ∃ P, spot m = P := ⟨_, rfl⟩
  obtain ⟨R, hR⟩ : ∃ R, spot (m + 1) = R := ⟨_, rfl⟩
  rw [hR] at hp hS
  rw [hP] at hS0
  rw [hR, hP] at hnext
  clear hP hR
  obtain ⟨x, y⟩ := R
  obtain ⟨a, b⟩ := P
  simp only [Prod.mk.injEq] at hnext hp hS hS0
  have hnum := hp.num
  have hnr := near hp hm
  have hmax := max4 x y
  have hlo := hp.lo
  have hhi := hp.hi
  have hhalf := hp.half
  have hb : -kOf x y ≤ x ∧ x ≤ kOf x y ∧ -kOf x y ≤ y ∧ y ≤ kOf x y := by unfold kOf; omega
  have hN := fun w => number_in x y (by omega) (by omega) w
  rw [hnum] at hN
  obtain ⟨K, hK⟩ : ∃ K, kOf x y = K := ⟨_, rfl⟩
  rw [hK] at hmax hlo hhi hb hnr hhalf
  clear hK hp hnum
  obtain ⟨b1, b2, b3, b4⟩ := hb
  have e1 := Sq1 K
  have e2 := Sq2 K
  obtain ⟨q, hq⟩ : ∃ q, K * K = q := ⟨_, rfl⟩
  rw [hq] at e1 e2 hlo hhi
  clear hq
  obtain ⟨S1, hS1⟩ : ∃ S1, (2 * K + 1) * (2 * K + 1) = S1 := ⟨_, rfl⟩
  obtain ⟨S2, hS2⟩ : ∃ S2, (2 * K - 1) * (2 * K - 1) = S2 := ⟨_, rfl⟩
  have l1 : (m : Int) + 1 < S1 := by omega
  have l2 : S2 ≤ (m : Int) + 1 := by omega
  have hw1 : IntKind.i64.wrap ((2 * K + 1) * (2 * K + 1)) = S1 := by rw [hS1]; exact IntWalk.i64_in _ (by omega)
  have hw2 : IntKind.i64.wrap ((2 * K - 1) * (2 * K - 1)) = S2 := by rw [hS2]; exact IntWalk.i64_in _ (by omega)
  clear e1 e2 hS1 hS2 hlo hhi
  have hm0 : ((m : Int) + 1 == 0) = false := by simp; omega
  obtain ⟨rfl, rfl⟩ : a = x - u ∧ b = y - v := by omega
  clear hnext
  have cast : ((m + 1 : Nat) : Int) = (m : Int) + 1 := by omega
  rw [cast] at hS hN
  clear cast
  have n1 : (m : Int) + 1 ≤ 1048576 := by omega
  have x1 : -512 ≤ x := by omega
  have x2 : x ≤ 512 := by omega
  have y1 : -512 ≤ y := by omega
  have y2 : y ≤ 512 := by omega
  rcases hU with ⟨rfl, rfl⟩ | ⟨rfl, rfl⟩ | ⟨rfl, rfl⟩ | ⟨rfl, rfl⟩
  · rw [show x - 1 = x - 1 by omega, show y - 0 = y by omega] at hS0
    have d1 : x - 1 - x = -1 := by omega
    go_enter Try.func5, Try.ntmps5
    go_wp2_with (first
      | (go_at_call 11; refine (hS _).mono ?_; clear hS; rintro e w' ⟨rfl, rfl⟩)
      | (go_at_call 11; refine (hS0 _).mono ?_; rintro e w' ⟨rfl, rfl⟩)
      | (go_at_call 12; refine (hN _).mono ?_; rintro e w' ⟨rfl, rfl⟩))
    all_goals (go_ret; exact ⟨by simp, rfl⟩)
  · rw [show x - 0 = x by omega, show y - 1 = y - 1 by omega] at hS0
    have d1 : y - 1 - y = -1 := by omega
    go_enter Try.func5, Try.ntmps5
    go_wp2_with (first
      | (go_at_call 11; refine (hS _).mono ?_; clear hS; rintro e w' ⟨rfl, rfl⟩)
      | (go_at_call 11; refine (hS0 _).mono ?_; rintro e w' ⟨rfl, rfl⟩)
      | (go_at_call 12; refine (hN _).mono ?_; rintro e w' ⟨rfl, rfl⟩))
    all_goals (go_ret; exact ⟨by simp, rfl⟩)
  · rw [show x - -1 = x + 1 by omega, show y - 0 = y by omega] at hS0
    have d1 : x + 1 - x = 1 := by omega
    go_enter Try.func5, Try.ntmps5
    go_wp2_with (first
      | (go_at_call 11; refine (hS _).mono ?_; clear hS; rintro e w' ⟨rfl, rfl⟩)
      | (go_at_call 11; refine (hS0 _).mono ?_; rintro e w' ⟨rfl, rfl⟩)
      | (go_at_call 12; refine (hN _).mono ?_; rintro e w' ⟨rfl, rfl⟩))
    all_goals (go_ret; exact ⟨by simp, rfl⟩)
  · rw [show x - 0 = x by omega, show y - -1 = y + 1 by omega] at hS0
    have d1 : y + 1 - y = 1 := by omega
    go_enter Try.func5, Try.ntmps5
    go_wp2_with (first
      | (go_at_call 11; refine (hS _).mono ?_; clear hS; rintro e w' ⟨rfl, rfl⟩)
      | (go_at_call 11; refine (hS0 _).mono ?_; rintro e w' ⟨rfl, rfl⟩)
      | (go_at_call 12; refine (hN _).mono ?_; rintro e w' ⟨rfl, rfl⟩))
    all_goals (go_ret; exact ⟨by simp, rfl⟩)

theorem walk (n : Int) (w : World) : Calls Try.prog 5 #[.int .i64 n] w fun e w' => e = .returned (.bool true) ∧ w = w' := by
  by_cases hn : n < 0 ∨ 1048576 < n
  · exact back_out n hn w
  · by_cases h0 : n = 0
    · subst h0
      exact back_zero w
    · obtain ⟨m, rfl⟩ : ∃ m : Nat, n = (m : Int) + 1 := ⟨(n - 1).toNat, by omega⟩
      exact back_in m (by omega) w

set_option maxRecDepth 100000 in
theorem lifted (os : Os) (started : os.Started) (H : Type) (enc : TypeId × Value → H) :
    ReturnsInHanded {} Try.checked os 5 .any (Rows.chartBackSpec.pre6 enc Try.prog Try.f5 Rows.chartBackRow.domain false) (Rows.chartBackSpec.post enc Try.prog Try.f5 false true false false) := by
  refine returnsInHanded_of_change (C := Try.checked) own started (by kernel_rfl) Try.func5
    (ChangeSpec.witness6 (enc := enc) (C := Try.checked) false ⟨#[], #[.int .i64 0], []⟩ 8 (by kernel_rfl) (by kernel_rfl) (by kernel_rfl) (by kernel_rfl)) ?_
  intro W base args ds gs before hval0 hW hcnd _
  have hval : ∀ (j : Nat) t v, Try.f5.params[j]? = some t → args[j]? = some v → Value.okWide Try.prog W .any base t v := hval0
  have hW' := hW
  obtain ⟨p, q, hA0, hV, rfl, hfz, hnd⟩ := hW
  have hA : DataW.TrodAll enc Try.prog W 0 (fun _ => true) true Try.f5.params.toList args.toList ds p := hA0
  rw [Try.params5] at hA hval
  obtain ⟨v0, vs0, d0, ds0, p0, q0, hargs, rfl, rfl, h0, r0⟩ := trodAll_cons hA
  obtain ⟨rfl, rfl, rfl⟩ := trodAll_nil r0
  obtain rfl : args = #[v0] := by cases args; simp_all
  obtain ⟨rfl, rfl⟩ := trodVars_none hV
  obtain ⟨n, rfl, rfl, rfl, wn⟩ := open_int Try.underlying3 (hval 0 3 v0 rfl rfl) h0
  clear hA0 hval0
  refine (walk n W).mono fun e W' ⟨he, hw⟩ => ?_
  subst he
  subst hw
  exact ⟨_, rfl, _, _, _, [], _, [], hW', trodAll_mk1 (shut_bool Try.underlying4 _),
    (trodAll_cons_mk (shut_int Try.underlying3 wn) trodAll_mk0), rfl, World.keptBut_refl _ _, fun h => by cases h⟩

theorem proved : Rows.ChartBackSaid :=
  OpenClaim.holds_of_wide 5 Try.f5 rfl rfl rfl rfl rfl rfl rfl ⟨rfl, rfl, rfl, rfl, rfl⟩ rfl rfl rfl rfl rfl (by kernel_rfl) Try.func5 (by kernel_rfl)
    (of_decide_eq_true (by kernel_rfl)) (by unfold Func.isWrapper; rw [if_neg (of_decide_eq_false (by kernel_rfl))]; exact ⟨rfl, rfl⟩)
    (fun os started H enc _ => lifted os started H enc)
#print axioms proved

end Go.Proofs.Ytafdbibjcohdbaa.ChartBack
