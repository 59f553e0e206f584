/-
  The contracts of chart's and the document's Spot and Number.
-/
import Derived.Test.YtafdbibjcohdbaaRows
import Derived.Test.YtafdbibjcohdbaaSp
import Derived.WalkKit
import Derived.WalkSpells
import Derived.WalkLawsBesides
import Derived.Handy
import Derived.Deep.QuietTactic
import Derived.BigQuiet
import Derived.BigRegion
import Derived.Deep.LoopGhost
import Derived.Deep.DeepCutAuto
namespace Go.Proofs.Ytafdbibjcohdbaa
open Go.RowKit

theorem int_eq {k : IntKind} {a b : Int} (h : a = b) : Value.int k a = .int k b := by rw [h]

theorem ret2_eq {a b c d : Int} (h1 : a = c) (h2 : b = d) : Ending.returned (.tuple #[.int .i64 a, .int .i64 b]) = .returned (.tuple #[.int .i64 c, .int .i64 d]) := by rw [h1, h2]

set_option maxHeartbeats 1000000 in
theorem rspot_any (n : Nat) (hn : n ≤ 1048576) (w : World) :
    Calls Try.prog 10 #[.int .i64 n] w fun e w' => e = .returned (.tuple #[.int .i64 (spot n).1, .int .i64 (spot n).2]) ∧ w = w' := by
  obtain ⟨P, hP⟩ : ∃ P, spot n = P := ⟨_, rfl⟩
  rw [hP]
  have hP0 : Hid (spotL 0 0 1 0 0 n = P) := hP
  clear hP
  go_enter Try.func10, Try.ntmps10
  go_wp2
  go_loopg [0, 4, 5, 6, 7, 8] n (fun g s0 s4 s5 s6 s7 s8 wx => w = wx ∧ ∃ (m l : Nat) (x y dx dy : Int), Hid (g = m) ∧ s0 = .int .i64 m ∧ s4 = .int .i64 x ∧ s5 = .int .i64 y ∧ s6 = .int .i64 dx ∧ s7 = .int .i64 dy ∧ s8 = .int .i64 l ∧
    Un dx dy ∧ Hid (spotL x y dx dy l m = P) ∧ l + m ≤ 1048576 ∧ -1048576 + (m : Int) ≤ x ∧ x + m ≤ 1048576 ∧ -1048576 + (m : Int) ≤ y ∧ y + m ≤ 1048576)
  case atStart => exact ⟨rfl, n, 0, 0, 0, 1, 0, (rfl : n = n), rfl, rfl, rfl, rfl, rfl, rfl, .inl ⟨rfl, rfl⟩, hP0, by omega, by omega, by omega, by omega, by omega⟩
  case round =>
    obtain ⟨rfl, m, l, x, y, dx, dy, hg, rfl, rfl, rfl, rfl, rfl, rfl, hU, hS, hl, hx1, hx2, hy1, hy2⟩ := hrel
    clear hP0
    by_cases hm : (m : Int) ≤ (l : Int) / 2 + 1
    · have hS2 : Hid (P = (x + m * dx, y + m * dy)) := by
        have h := hS.out
        rw [spotL_near (by omega)] at h
        exact h.symm
      clear hS
      rcases hU with ⟨rfl, rfl⟩ | ⟨rfl, rfl⟩ | ⟨rfl, rfl⟩ | ⟨rfl, rfl⟩
      all_goals
        go_wp2
        go_ret2
        refine ⟨?_, rfl⟩
        rw [hS2.out]
        exact ret2_eq (by simp; try omega) (by simp; try omega)
    · have hS2 : Hid (spotL (x + (l / 2 + 1 : Nat) * dx) (y + (l / 2 + 1 : Nat) * dy) (-dy) dx (l + 1) (m - (l / 2 + 1)) = P) := by
        have h := hS.out
        rw [spotL_far (by omega)] at h
        exact h
      clear hS
      have hU2 : Hid (Un (-dy) dx) := hU.turn
      rcases hU with ⟨rfl, rfl⟩ | ⟨rfl, rfl⟩ | ⟨rfl, rfl⟩ | ⟨rfl, rfl⟩
      all_goals
        go_wp2
        go_roundg (m - (l / 2 + 1))
        case measure => rw [hg.out]; omega
        case rel => exact ⟨rfl, m - (l / 2 + 1), l + 1, _, _, _, _, (rfl : _ = _), int_eq (by omega), int_eq (by simp), int_eq (by simp), int_eq (by simp), int_eq (by simp), by go_num, hU2.out, hS2, by omega, by simp; omega, by simp; omega, by simp; omega, by simp; omega⟩

theorem place_any {re im : Nat} {x y : Int} (h : CI re im x y) (hx : Sm x) (hy : Sm y) (w : World) :
    Calls Try.prog 21 #[.complex .f64 re im] w fun e w' => e = .returned (.tuple #[.int .i64 x, .int .i64 y]) ∧ w = w' := by
  unfold Sm at hx hy
  have c1 : ∀ w, (convert 53 3 (.float .f64 re)).run Try.prog w = .ok (.int .i64 x) w := fun w => run_convert_float_int w 53 3 .f64 .i64 re x (by rw [Try.underlying53]; rfl) Try.underlying3 (h.1.toInt (by omega))
  have c2 : ∀ w, (convert 53 3 (.float .f64 im)).run Try.prog w = .ok (.int .i64 y) w := fun w => run_convert_float_int w 53 3 .f64 .i64 im y (by rw [Try.underlying53]; rfl) Try.underlying3 (h.2.toInt (by omega))
  clear h hx hy
  go_enter Try.func21, Try.ntmps21
  go_wp2
  go_ret2
  exact ⟨rfl, rfl⟩

theorem spot_out (n : Int) (hn : n < 0 ∨ 1048576 < n) (w : World) :
    Calls Try.prog 11 #[.int .i64 n] w fun e w' => e = .returned (.tuple #[.int .i64 0, .int .i64 0, .int .i64 2]) ∧ w = w' := by
  by_cases h : n < 0
  · clear hn
    go_enter Try.func11, Try.ntmps11
    go_wp2_with fail
    go_ret3
    exact ⟨rfl, rfl⟩
  · have h1 : 1048576 < n := by omega
    clear hn
    go_enter Try.func11, Try.ntmps11
    go_wp2_with fail
    go_ret3
    exact ⟨rfl, rfl⟩

set_option maxHeartbeats 1000000 in
theorem spot_any (n : Nat) (hn : n ≤ 1048576) (w : World) :
    Calls Try.prog 11 #[.int .i64 n] w fun e w' => e = .returned (.tuple #[.int .i64 (spot n).1, .int .i64 (spot n).2, .int .i64 0]) ∧ w = w' := by
  obtain ⟨P, hP⟩ : ∃ P, spot n = P := ⟨_, rfl⟩
  rw [hP]
  have hP0 : Hid (spotL 0 0 1 0 0 n = P) := hP
  clear hP
  go_enter Try.func11, Try.ntmps11
  go_wp2
  go_loopg [0, 5, 6, 7] n (fun g s0 s5 s6 s7 wx => w = wx ∧ ∃ (m l : Nat) (x y dx dy : Int) (p q p' q' : Nat), Hid (g = m) ∧ s0 = .int .i64 m ∧ s5 = .complex .f64 p q ∧ s6 = .complex .f64 p' q' ∧ s7 = .int .i64 ((l : Int) + 2) ∧
    CI p q x y ∧ CI p' q' dx dy ∧ Un dx dy ∧ Hid (spotL x y dx dy l m = P) ∧ l + m ≤ 1048576 ∧ -1048576 + (m : Int) ≤ x ∧ x + m ≤ 1048576 ∧ -1048576 + (m : Int) ≤ y ∧ y + m ≤ 1048576)
  case atStart => exact ⟨rfl, n, 0, 0, 0, 1, 0, _, _, _, _, (rfl : n = n), rfl, rfl, rfl, rfl, ⟨isI_zero, isI_zero⟩, ⟨isI_one, isI_zero⟩, .inl ⟨rfl, rfl⟩, hP0, by omega, by omega, by omega, by omega, by omega⟩
  case round =>
    obtain ⟨rfl, m, l, x, y, dx, dy, p, q, p', q', hg, rfl, rfl, rfl, rfl, hC, hD, hU, hS, hl, hx1, hx2, hy1, hy2⟩ := hrel
    clear hP0
    by_cases hm0 : m = 0
    · subst hm0
      have hP2 : Hid (P = (x, y)) := by
        have h := hS.out
        rw [spotL_zero] at h
        exact h.symm
      have hpl := fun w => place_any hC (by unfold Sm; omega) (by unfold Sm; omega) w
      clear hS hC hD
      go_wp2_with (go_at_call 21; refine (hpl _).mono ?_; rintro e w' ⟨rfl, rfl⟩)
      go_ret3
      refine ⟨?_, rfl⟩
      rw [hP2.out]
      rfl
    · have hmp : (0 : Int) < (m : Int) := by omega
      by_cases hm : (m : Int) ≤ (l : Int) / 2 + 1
      · skip
        have hS2 : Hid (spotL (x + m * dx) (y + m * dy) (-dy) dx (l + 1) 0 = P) := by
          have h := hS.out
          rw [spotL_near (by omega)] at h
          rw [← h]
          exact spotL_zero _ _ _ _ _
        clear hS
        have hU2 : Hid (Un (-dy) dx) := hU.turn
        have sk : Sm (m : Int) := by unfold Sm; omega
        have s0 : Sm 0 := by unfold Sm; omega
        have s1 : Sm 1 := by unfold Sm; omega
        have sx : Sm x := by unfold Sm; omega
        have sy : Sm y := by unfold Sm; omega
        have sdx : Sm dx := by unfold Sm; unfold Un at hU; omega
        have sdy : Sm dy := by unfold Sm; unfold Un at hU; omega
        have hi : CI 0 4607182418800017408 0 1 := ⟨isI_zero, isI_one⟩
        have hK : CI (floatOfInt .f64 (m : Int)) 0 (m : Int) 0 := ⟨isI_of _ (by unfold Sm at sk; omega), isI_zero⟩
        have sm1 : Sm ((m : Int) * dx - 0 * dy) := by unfold Sm; rcases hU with ⟨rfl, rfl⟩ | ⟨rfl, rfl⟩ | ⟨rfl, rfl⟩ | ⟨rfl, rfl⟩ <;> omega
        have sm2 : Sm ((m : Int) * dy + 0 * dx) := by unfold Sm; rcases hU with ⟨rfl, rfl⟩ | ⟨rfl, rfl⟩ | ⟨rfl, rfl⟩ | ⟨rfl, rfl⟩ <;> omega
        go_wp2_with (first
          | (refine wpList_cmul 51 51 _ (.const (.complex .f64 0 4607182418800017408)) rfl rfl rfl rfl hD hi sdx sdy s0 s1 ?_; intro r5 r6 hC5)
          | (refine wpList_cmul 51 51 _ _ rfl rfl rfl rfl hK hD sk s0 sdx sdy ?_; intro r1 r2 hC1)
          | (refine wpList_cadd 51 51 _ _ rfl rfl rfl rfl hC hC1 sx sy sm1 sm2 ?_; intro r3 r4 hC3))
        go_roundg (0)
        case measure => rw [hg.out]; omega
        case rel =>
          refine ⟨rfl, 0, l + 1, x + m * dx, y + m * dy, -dy, dx, r3, r4, r5, r6, (rfl : _ = _), int_eq (by omega), rfl, rfl, int_eq (by omega), ?_, ?_, hU2.out, hS2, by omega, ?_⟩
          · have e : CI r3 r4 (x + ((m : Int) * dx - 0 * dy)) (y + ((m : Int) * dy + 0 * dx)) := hC3
            simpa using e
          · simpa using hC5
          · rcases hU with ⟨rfl, rfl⟩ | ⟨rfl, rfl⟩ | ⟨rfl, rfl⟩ | ⟨rfl, rfl⟩ <;> omega
      · skip
        have hS2 : Hid (spotL (x + (((l : Int) + 2) / 2) * dx) (y + (((l : Int) + 2) / 2) * dy) (-dy) dx (l + 1) (m - (l / 2 + 1)) = P) := by
          have h := hS.out
          rw [spotL_far (by omega), show ((l / 2 + 1 : Nat) : Int) = ((l : Int) + 2) / 2 by omega] at h
          exact h
        clear hS
        have hU2 : Hid (Un (-dy) dx) := hU.turn
        have sk : Sm (((l : Int) + 2) / 2) := by unfold Sm; omega
        have s0 : Sm 0 := by unfold Sm; omega
        have s1 : Sm 1 := by unfold Sm; omega
        have sx : Sm x := by unfold Sm; omega
        have sy : Sm y := by unfold Sm; omega
        have sdx : Sm dx := by unfold Sm; unfold Un at hU; omega
        have sdy : Sm dy := by unfold Sm; unfold Un at hU; omega
        have hi : CI 0 4607182418800017408 0 1 := ⟨isI_zero, isI_one⟩
        have hK : CI (floatOfInt .f64 (((l : Int) + 2) / 2)) 0 (((l : Int) + 2) / 2) 0 := ⟨isI_of _ (by unfold Sm at sk; omega), isI_zero⟩
        have sm1 : Sm ((((l : Int) + 2) / 2) * dx - 0 * dy) := by unfold Sm; rcases hU with ⟨rfl, rfl⟩ | ⟨rfl, rfl⟩ | ⟨rfl, rfl⟩ | ⟨rfl, rfl⟩ <;> omega
        have sm2 : Sm ((((l : Int) + 2) / 2) * dy + 0 * dx) := by unfold Sm; rcases hU with ⟨rfl, rfl⟩ | ⟨rfl, rfl⟩ | ⟨rfl, rfl⟩ | ⟨rfl, rfl⟩ <;> omega
        go_wp2_with (first
          | (refine wpList_cmul 51 51 _ (.const (.complex .f64 0 4607182418800017408)) rfl rfl rfl rfl hD hi sdx sdy s0 s1 ?_; intro r5 r6 hC5)
          | (refine wpList_cmul 51 51 _ _ rfl rfl rfl rfl hK hD sk s0 sdx sdy ?_; intro r1 r2 hC1)
          | (refine wpList_cadd 51 51 _ _ rfl rfl rfl rfl hC hC1 sx sy sm1 sm2 ?_; intro r3 r4 hC3))
        go_roundg (m - (l / 2 + 1))
        case measure => rw [hg.out]; omega
        case rel =>
          refine ⟨rfl, m - (l / 2 + 1), l + 1, x + (((l : Int) + 2) / 2) * dx, y + (((l : Int) + 2) / 2) * dy, -dy, dx, r3, r4, r5, r6, (rfl : _ = _), int_eq (by omega), rfl, rfl, int_eq (by omega), ?_, ?_, hU2.out, hS2, by omega, ?_⟩
          · have e : CI r3 r4 (x + ((((l : Int) + 2) / 2) * dx - 0 * dy)) (y + ((((l : Int) + 2) / 2) * dy + 0 * dx)) := hC3
            simpa using e
          · simpa using hC5
          · rcases hU with ⟨rfl, rfl⟩ | ⟨rfl, rfl⟩ | ⟨rfl, rfl⟩ | ⟨rfl, rfl⟩ <;> omega

theorem end_bd {K : Int} (h0 : 0 ≤ K) (h1 : K ≤ 512) : 0 ≤ 4 * K * (K + 1) ∧ 4 * K * (K + 1) ≤ 1050624 := by
  constructor
  · exact Int.mul_nonneg (by omega) (by omega)
  · have : 4 * K * (K + 1) ≤ 2048 * (K + 1) := Int.mul_le_mul_of_nonneg_right (by omega) (by omega)
    omega

theorem ret_int {a b : Int} (h : a = b) : Ending.returned (.int .i64 a) = .returned (.int .i64 b) := by rw [h]

set_option maxHeartbeats 1000000 in
theorem rnumber_any (x y : Int) (hx : -512 ≤ x ∧ x ≤ 512) (hy : -512 ≤ y ∧ y ≤ 512) (w : World) :
    Calls Try.prog 14 #[.int .i64 x, .int .i64 y] w fun e w' => e = .returned (.int .i64 (numF x y)) ∧ w = w' := by
  obtain ⟨hx1, hx2⟩ := hx
  obtain ⟨hy1, hy2⟩ := hy
  go_enter Try.func14, Try.ntmps14
  go_upto_if 11 with (fail)
  go_cut [5] (fun s5 wc => w = wc ∧ ∃ k : Int, s5 = .int .i64 k ∧ Hid (k = max x (-x)) ∧ 0 ≤ k ∧ k ≤ 512)
  case first =>
    go_wp2
    all_goals (go_meet; exact ⟨rfl, _, rfl, by show _ = _; omega, by omega, by omega⟩)
  case rest =>
  obtain ⟨rfl, k1, rfl, hk1, hk10, hk11⟩ := hcut
  go_upto_if 16 with (fail)
  go_cut [5] (fun s5 wc => w = wc ∧ ∃ k : Int, s5 = .int .i64 k ∧ Hid (k = max k1 y) ∧ 0 ≤ k ∧ k ≤ 512)
  case first =>
    go_wp2
    all_goals (go_meet; exact ⟨rfl, _, rfl, by show _ = _; omega, by omega, by omega⟩)
  case rest =>
  obtain ⟨rfl, k2, rfl, hk2, hk20, hk21⟩ := hcut
  go_upto_if 21 with (fail)
  go_cut [5] (fun s5 wc => w = wc ∧ ∃ k : Int, s5 = .int .i64 k ∧ Hid (k = max k2 (-y)) ∧ 0 ≤ k ∧ k ≤ 512)
  case first =>
    go_wp2
    all_goals (go_meet; exact ⟨rfl, _, rfl, by show _ = _; omega, by omega, by omega⟩)
  case rest =>
  obtain ⟨rfl, K, rfl, hk3, hK0, hK1⟩ := hcut
  have hK : Hid (kOf x y = K) := by
    have e1 := hk1.out
    have e2 := hk2.out
    have e3 := hk3.out
    show kOf x y = K
    unfold kOf
    omega
  clear hk1 hk2 hk3 hk10 hk11 hk20 hk21
  obtain ⟨E, hE⟩ : ∃ E, 4 * K * (K + 1) = E := ⟨_, rfl⟩
  have hbd := end_bd hK0 hK1
  rw [hE] at hbd
  obtain ⟨hE0, hE1⟩ := hbd
  have hwr : IntKind.i64.wrap (4 * K * (K + 1)) = E := by rw [hE]; exact IntWalk.i64_in _ (by omega)
  have hN : Hid (numF x y = if y = -K then E - (K - x) else if x = -K then E - 2 * K - (y + K) else if y = K then E - 4 * K - (x + K) else E - 6 * K - (K - y)) := by
    show _ = _
    unfold numF
    rw [hK.out, hE]
  clear hK hE
  by_cases h1 : y = -K
  · go_wp2
    go_ret
    exact ⟨ret_int (by rw [hN.out, if_pos h1]), rfl⟩
  by_cases h2 : x = -K
  · go_wp2
    go_ret
    exact ⟨ret_int (by rw [hN.out, if_neg h1, if_pos h2]), rfl⟩
  by_cases h3 : y = K
  · go_wp2
    go_ret
    exact ⟨ret_int (by rw [hN.out, if_neg h1, if_neg h2, if_pos h3]), rfl⟩
  · go_wp2
    go_ret
    exact ⟨ret_int (by rw [hN.out, if_neg h1, if_neg h2, if_neg h3]), rfl⟩

end Go.Proofs.Ytafdbibjcohdbaa
