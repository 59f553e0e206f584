/-
  The contract of chart.Number, where the place is near enough.
-/
import Derived.Test.YtafdbibjcohdbaaB
namespace Go.Proofs.Ytafdbibjcohdbaa
open Go.RowKit

/-- What stands at the label: n is found. -/
def Found (N : Int) (w : World) (a : Act) (w' : World) : Prop :=
  w = w' ∧ ∃ T : Array Value, a = { tmps := T, defers := [] } ∧ T.size = 91 ∧ T[9]? = some (.int .i64 N)

/-- The corner at which the r-th side ends, and the way back along it. -/
def cX (k : Int) : Nat → Int | 0 => k | 1 => -k | 2 => -k | _ => k
def cY (k : Int) : Nat → Int | 0 => -k | 1 => -k | 2 => k | _ => k
def bX : Nat → Int | 0 => -1 | 1 => 0 | 2 => 1 | _ => 0
def bY : Nat → Int | 0 => 0 | 1 => 1 | 2 => 0 | _ => -1

section steps
variable {x y K : Int} {p q : Nat}
theorem gone0 (h : CI p q ((x - K) * -1 + (y - -K) * 0) ((y - -K) * -1 - (x - K) * 0)) : CI p q (K - x) (-(y + K)) := by
  have e1 : (x - K) * -1 + (y - -K) * 0 = K - x := by omega
  have e2 : (y - -K) * -1 - (x - K) * 0 = -(y + K) := by omega
  rwa [e1, e2] at h
theorem next0c (h : CI p q (K + (2 * K * -1 - 0 * 0)) (-K + (2 * K * 0 + 0 * -1))) : CI p q (cX K 1) (cY K 1) := by
  have e1 : K + (2 * K * -1 - 0 * 0) = cX K 1 := by simp only [cX]; omega
  have e2 : -K + (2 * K * 0 + 0 * -1) = cY K 1 := by simp only [cY]; omega
  rwa [e1, e2] at h
theorem next0b (h : CI p q (-1 * 0 - 0 * -1) (-1 * -1 + 0 * 0)) : CI p q (bX 1) (bY 1) := by
  have e1 : (-1 : Int) * 0 - 0 * -1 = bX 1 := by decide
  have e2 : (-1 : Int) * -1 + 0 * 0 = bY 1 := by decide
  rwa [e1, e2] at h
theorem gone1 (h : CI p q ((x - -K) * 0 + (y - -K) * 1) ((y - -K) * 0 - (x - -K) * 1)) : CI p q (y + K) (-(x + K)) := by
  have e1 : (x - -K) * 0 + (y - -K) * 1 = y + K := by omega
  have e2 : (y - -K) * 0 - (x - -K) * 1 = -(x + K) := by omega
  rwa [e1, e2] at h
theorem next1c (h : CI p q (-K + (2 * K * 0 - 0 * 1)) (-K + (2 * K * 1 + 0 * 0))) : CI p q (cX K 2) (cY K 2) := by
  have e1 : -K + (2 * K * 0 - 0 * 1) = cX K 2 := by simp only [cX]; omega
  have e2 : -K + (2 * K * 1 + 0 * 0) = cY K 2 := by simp only [cY]; omega
  rwa [e1, e2] at h
theorem next1b (h : CI p q (0 * 0 - 1 * -1) (0 * -1 + 1 * 0)) : CI p q (bX 2) (bY 2) := by
  have e1 : (0 : Int) * 0 - 1 * -1 = bX 2 := by decide
  have e2 : (0 : Int) * -1 + 1 * 0 = bY 2 := by decide
  rwa [e1, e2] at h
theorem gone2 (h : CI p q ((x - -K) * 1 + (y - K) * 0) ((y - K) * 1 - (x - -K) * 0)) : CI p q (x + K) (y - K) := by
  have e1 : (x - -K) * 1 + (y - K) * 0 = x + K := by omega
  have e2 : (y - K) * 1 - (x - -K) * 0 = y - K := by omega
  rwa [e1, e2] at h
theorem next2c (h : CI p q (-K + (2 * K * 1 - 0 * 0)) (K + (2 * K * 0 + 0 * 1))) : CI p q (cX K 3) (cY K 3) := by
  have e1 : -K + (2 * K * 1 - 0 * 0) = cX K 3 := by simp only [cX]; omega
  have e2 : K + (2 * K * 0 + 0 * 1) = cY K 3 := by simp only [cY]; omega
  rwa [e1, e2] at h
theorem next2b (h : CI p q (1 * 0 - 0 * -1) (1 * -1 + 0 * 0)) : CI p q (bX 3) (bY 3) := by
  have e1 : (1 : Int) * 0 - 0 * -1 = bX 3 := by decide
  have e2 : (1 : Int) * -1 + 0 * 0 = bY 3 := by decide
  rwa [e1, e2] at h
theorem gone3 (h : CI p q ((x - K) * 0 + (y - K) * -1) ((y - K) * 0 - (x - K) * -1)) : CI p q (K - y) (x - K) := by
  have e1 : (x - K) * 0 + (y - K) * -1 = K - y := by omega
  have e2 : (y - K) * 0 - (x - K) * -1 = x - K := by omega
  rwa [e1, e2] at h
end steps

theorem max4 (x y : Int) (w : World) : (Builtin.max_ #[3, 3, 3, 3] 3 #[.int .i64 x, .int .i64 y, .int .i64 (-x), .int .i64 (-y)]).run Try.prog w = .ok (.int .i64 (kOf x y)) w := by
  have e : (if -y > (if -x > (if y > x then y else x) then -x else (if y > x then y else x)) then -y else (if -x > (if y > x then y else x) then -x else (if y > x then y else x))) = kOf x y := by
    unfold kOf
    repeat' split
    all_goals omega
  rw [← e]
  simp [Builtin.max_, Builtin.max2]

set_option maxRecDepth 100000 in
set_option maxHeartbeats 1000000 in
theorem number_in (x y : Int) (hx : -512 ≤ x ∧ x ≤ 512) (hy : -512 ≤ y ∧ y ≤ 512) (w : World) :
    Calls Try.prog 12 #[.int .i64 x, .int .i64 y] w fun e w' => e = .returned (.tuple #[.int .i64 (numF x y), .int .i64 0]) ∧ w = w' := by
  obtain ⟨hx1, hx2⟩ := hx
  obtain ⟨hy1, hy2⟩ := hy
  have m1 : decide ((if y < x then y else x) < -512) = false := by simp; split <;> omega
  have m2 : decide (512 < (if x < y then y else x)) = false := by simp; split <;> omega
  have hmax := max4 x y
  obtain ⟨N, hN⟩ : ∃ N, numF x y = N := ⟨_, rfl⟩
  rw [hN]
  obtain ⟨K, hK⟩ : ∃ K, kOf x y = K := ⟨_, rfl⟩
  obtain ⟨E, hE⟩ : ∃ E, 4 * K * (K + 1) = E := ⟨_, rfl⟩
  have hNH : Hid (N = if y = -K then E - (K - x) else if x = -K then E - 2 * K - (y + K) else if y = K then E - 4 * K - (x + K) else E - 6 * K - (K - y)) := by
    show _ = _
    rw [← hN]
    unfold numF
    rw [hK, hE]
  have hKH : Hid (K = kOf x y) := hK.symm
  rw [hK] at hmax
  have hK0 : 0 ≤ K := by rw [← hK]; unfold kOf; omega
  have hK1 : K ≤ 512 := by rw [← hK]; unfold kOf; omega
  have kb : -K ≤ x ∧ x ≤ K ∧ -K ≤ y ∧ y ≤ K := by rw [← hK]; unfold kOf; omega
  obtain ⟨kx1, kx2, ky1, ky2⟩ := kb
  have hbd := end_bd hK0 hK1
  rw [hE] at hbd
  obtain ⟨hE0, hE1⟩ := hbd
  have hwr : IntKind.i64.wrap (4 * K * (K + 1)) = E := by rw [hE]; exact IntWalk.i64_in _ (by omega)
  clear hN hK hE
  go_enter Try.func12, Try.ntmps12
  go_wp2_with fail
  refine wp_scope_jumps 0 (Found N w) (fun _ _ => 0) rfl ?_ ?_
  · go_upto_region 1 with fail
    go_cut [21] (fun s21 wc => w = wc ∧ s21 = .bool false)
    case first =>
      go_wp2
      all_goals (go_meet; refine ⟨rfl, ?_⟩; first | rfl | (simp; omega))
    case rest =>
    obtain ⟨rfl, rfl⟩ := hcut
    clear m1 m2
    go_wp2
    go_loopg [8, 9, 10, 45] 4 (fun g s8 s9 s10 s45 wx => w = wx ∧ ∃ (r : Nat) (p q p' q' : Nat), Hid (g = 4 - r) ∧ r ≤ 4 ∧ s8 = .complex .f64 p q ∧ s9 = .int .i64 (E - 2 * (r * K)) ∧ s10 = .complex .f64 p' q' ∧ s45 = .int .i64 r ∧
      CI p q (cX K r) (cY K r) ∧ CI p' q' (bX r) (bY r) ∧ Hid (1 ≤ r → y ≠ -K ∧ 0 < K) ∧ Hid (2 ≤ r → x ≠ -K) ∧ Hid (3 ≤ r → y ≠ K) ∧ Hid (r ≠ 4))
    case atStart => exact ⟨rfl, 0, _, _, _, _, (rfl : 4 = 4 - 0), by omega, rfl, int_eq (by simp), rfl, rfl, ⟨isI_of K (by omega), isI_of (-K) (by omega)⟩, ⟨isI_neg, isI_zero⟩, (fun h => absurd h (by decide) : (1 ≤ 0 → _)), (fun h => absurd h (by decide) : (2 ≤ 0 → _)), (fun h => absurd h (by decide) : (3 ≤ 0 → _)), (by decide : (0 : Nat) ≠ 4)⟩
    case round =>
      obtain ⟨rfl, r, p, q, p', q', hg, hr, rfl, rfl, rfl, rfl, hC, hD, f1, f2, f3, f4⟩ := hrel
      have hZ : CI (floatOfInt .f64 x) (floatOfInt .f64 y) x y := ⟨isI_of x (by omega), isI_of y (by omega)⟩
      have sx : Sm x := by unfold Sm; omega
      have sy : Sm y := by unfold Sm; omega
      have s0 : Sm 0 := by unfold Sm; omega
      have s1 : Sm 1 := by unfold Sm; omega
      have s1n : Sm (-1) := by unfold Sm; omega
      have sK : Sm K := by unfold Sm; omega
      have sKn : Sm (-K) := by unfold Sm; omega
      have s2K : Sm (2 * K) := by unfold Sm; omega
      have hI2 : IsI (floatOfInt .f64 (2 * K)) (2 * K) := isI_of _ (by omega)
      have h2K : CI (floatOfInt .f64 (2 * K)) 0 (2 * K) 0 := ⟨hI2, isI_zero⟩
      have hmi : CI 0 13830554455654793216 0 (-1) := ⟨isI_zero, isI_neg⟩
      rcases (show r = 0 ∨ r = 1 ∨ r = 2 ∨ r = 3 by have := f4.out; omega) with rfl | rfl | rfl | rfl
      · skip
        have hC0 : CI p q (K) (-K) := hC
        have hD0 : CI p' q' (-1) (0) := hD
        clear hC hD
        by_cases hk : K = 0
        · subst hk
          have hN0 : E = N := by
            have e := hNH.out
            have k := hKH.out
            unfold kOf at k
            rw [if_pos (by omega)] at e
            omega
          have hN1 : Hid (E = N) := hN0
          clear hN0
          go_wp2
          go_step3
          simp only [Exit.then, Exit.inBlock, Exit.jump]
          exact ⟨trivial, rfl, _, rfl, rfl, by rw [← hN1.out]; simp⟩
        have hk0 : (K == 0) = false := by simpa using hk
        have hKp : 0 < K := by omega
        by_cases ht : y = -K
        · have hN0 : E - 0 * K - (K - x) = N := by
            have e := hNH.out
            have k := hKH.out
            unfold kOf at k
            rw [if_pos ht] at e
            omega
          have hN1 : Hid (E - 0 * K - (K - x) = N) := hN0
          clear hN0
          have htH : Hid _ := ht
          clear ht
          go_wp2_with (first
            | (refine wpList_csub 51 51 _ _ rfl rfl rfl rfl hZ hC0 sx sy sK sKn ?_; intro r1 r2 hC2)
            | (refine wpList_cquo 51 51 _ _ rfl rfl rfl rfl hC2 hD0 (by unfold Sm; omega) (by unfold Sm; omega) (.inr (.inr (.inl ⟨rfl, rfl⟩))) ?_; intro r3 r4 hC3; have hG := gone0 hC3; have ht := htH.out; have o1 := ord_eq hG.2 (by omega); have o2 := ord_ge hG.1 (by omega); have o3 := ord_le hG.1 hI2 (by omega); have hcv : ∀ w, (convert 53 3 (.float .f64 r3)).run Try.prog w = .ok (.int .i64 (K - x)) w := fun w => run_convert_float_int w 53 3 .f64 .i64 r3 _ (by rw [Try.underlying53]; rfl) Try.underlying3 (hG.1.toInt (by omega)); clear hC2 hC3 hG ht))
          go_step3
          simp only [Exit.then, Exit.inBlock, Exit.jump]
          refine ⟨trivial, rfl, _, rfl, rfl, ?_⟩
          rw [← hN1.out]
          simp
          try omega
        · go_wp2_with (first
            | (refine wpList_csub 51 51 _ _ rfl rfl rfl rfl hZ hC0 sx sy sK sKn ?_; intro r1 r2 hC2)
            | (refine wpList_cquo 51 51 _ _ rfl rfl rfl rfl hC2 hD0 (by unfold Sm; omega) (by unfold Sm; omega) (.inr (.inr (.inl ⟨rfl, rfl⟩))) ?_; intro r3 r4 hC3; have hG := gone0 hC3; have o1 := ord_ne hG.2 (by omega); clear hC2 hC3 hG)
            | (refine wpList_cmul 51 51 _ (.const (.complex .f64 0 13830554455654793216)) rfl rfl rfl rfl hD0 hmi s1n s0 s0 s1n ?_; intro r5 r6 hC5)
            | (refine wpList_cmul 51 51 _ _ rfl rfl rfl rfl h2K hD0 s2K s0 s1n s0 ?_; intro r7 r8 hC7)
            | (refine wpList_cadd 51 51 _ _ rfl rfl rfl rfl hC0 hC7 sK sKn (by unfold Sm; omega) (by unfold Sm; omega) ?_; intro r9 r10 hC9))
          go_roundg (4 - 1)
          case measure => rw [hg.out]; omega
          case rel =>
            refine ⟨rfl, 1, r9, r10, r5, r6, (rfl : 4 - 1 = 4 - 1), by omega, rfl, int_eq (by omega), rfl, rfl, ?_, ?_, (fun _ => ⟨ht, hKp⟩ : (1 ≤ 1 → _)), (fun h => absurd h (by decide) : (2 ≤ 1 → _)), (fun h => absurd h (by decide) : (3 ≤ 1 → _)), (by decide : (1 : Nat) ≠ 4)⟩
            · exact next0c hC9
            · exact next0b hC5
      · skip
        have hC0 : CI p q (-K) (-K) := hC
        have hD0 : CI p' q' (0) (1) := hD
        clear hC hD
        have hKp : 0 < K := (f1.out (by omega)).2
        have hk0 : (K == 0) = false := by simp; omega
        by_cases ht : x = -K
        · have hN0 : E - 2 * K - (y + K) = N := by
            have e := hNH.out
            have k := hKH.out
            unfold kOf at k
            rw [if_neg (f1.out (by omega)).1, if_pos ht] at e
            omega
          have hN1 : Hid (E - 2 * K - (y + K) = N) := hN0
          clear hN0
          have htH : Hid _ := ht
          clear ht
          go_wp2_with (first
            | (refine wpList_csub 51 51 _ _ rfl rfl rfl rfl hZ hC0 sx sy sKn sKn ?_; intro r1 r2 hC2)
            | (refine wpList_cquo 51 51 _ _ rfl rfl rfl rfl hC2 hD0 (by unfold Sm; omega) (by unfold Sm; omega) (.inr (.inl ⟨rfl, rfl⟩)) ?_; intro r3 r4 hC3; have hG := gone1 hC3; have ht := htH.out; have o1 := ord_eq hG.2 (by omega); have o2 := ord_ge hG.1 (by omega); have o3 := ord_le hG.1 hI2 (by omega); have hcv : ∀ w, (convert 53 3 (.float .f64 r3)).run Try.prog w = .ok (.int .i64 (y + K)) w := fun w => run_convert_float_int w 53 3 .f64 .i64 r3 _ (by rw [Try.underlying53]; rfl) Try.underlying3 (hG.1.toInt (by omega)); clear hC2 hC3 hG ht))
          go_step3
          simp only [Exit.then, Exit.inBlock, Exit.jump]
          refine ⟨trivial, rfl, _, rfl, rfl, ?_⟩
          rw [← hN1.out]
          simp
          try omega
        · go_wp2_with (first
            | (refine wpList_csub 51 51 _ _ rfl rfl rfl rfl hZ hC0 sx sy sKn sKn ?_; intro r1 r2 hC2)
            | (refine wpList_cquo 51 51 _ _ rfl rfl rfl rfl hC2 hD0 (by unfold Sm; omega) (by unfold Sm; omega) (.inr (.inl ⟨rfl, rfl⟩)) ?_; intro r3 r4 hC3; have hG := gone1 hC3; have o1 := ord_ne hG.2 (by omega); clear hC2 hC3 hG)
            | (refine wpList_cmul 51 51 _ (.const (.complex .f64 0 13830554455654793216)) rfl rfl rfl rfl hD0 hmi s0 s1 s0 s1n ?_; intro r5 r6 hC5)
            | (refine wpList_cmul 51 51 _ _ rfl rfl rfl rfl h2K hD0 s2K s0 s0 s1 ?_; intro r7 r8 hC7)
            | (refine wpList_cadd 51 51 _ _ rfl rfl rfl rfl hC0 hC7 sKn sKn (by unfold Sm; omega) (by unfold Sm; omega) ?_; intro r9 r10 hC9))
          go_roundg (4 - 2)
          case measure => rw [hg.out]; omega
          case rel =>
            refine ⟨rfl, 2, r9, r10, r5, r6, (rfl : 4 - 2 = 4 - 2), by omega, rfl, int_eq (by omega), rfl, rfl, ?_, ?_, (fun _ => ⟨(f1.out (by omega)).1, hKp⟩ : (1 ≤ 2 → _)), (fun _ => ht : (2 ≤ 2 → _)), (fun h => absurd h (by decide) : (3 ≤ 2 → _)), (by decide : (2 : Nat) ≠ 4)⟩
            · exact next1c hC9
            · exact next1b hC5
      · skip
        have hC0 : CI p q (-K) (K) := hC
        have hD0 : CI p' q' (1) (0) := hD
        clear hC hD
        have hKp : 0 < K := (f1.out (by omega)).2
        have hk0 : (K == 0) = false := by simp; omega
        by_cases ht : y = K
        · have hN0 : E - 4 * K - (x + K) = N := by
            have e := hNH.out
            have k := hKH.out
            unfold kOf at k
            rw [if_neg (f1.out (by omega)).1, if_neg (f2.out (by omega)), if_pos ht] at e
            omega
          have hN1 : Hid (E - 4 * K - (x + K) = N) := hN0
          clear hN0
          have htH : Hid _ := ht
          clear ht
          go_wp2_with (first
            | (refine wpList_csub 51 51 _ _ rfl rfl rfl rfl hZ hC0 sx sy sKn sK ?_; intro r1 r2 hC2)
            | (refine wpList_cquo 51 51 _ _ rfl rfl rfl rfl hC2 hD0 (by unfold Sm; omega) (by unfold Sm; omega) (.inl ⟨rfl, rfl⟩) ?_; intro r3 r4 hC3; have hG := gone2 hC3; have ht := htH.out; have o1 := ord_eq hG.2 (by omega); have o2 := ord_ge hG.1 (by omega); have o3 := ord_le hG.1 hI2 (by omega); have hcv : ∀ w, (convert 53 3 (.float .f64 r3)).run Try.prog w = .ok (.int .i64 (x + K)) w := fun w => run_convert_float_int w 53 3 .f64 .i64 r3 _ (by rw [Try.underlying53]; rfl) Try.underlying3 (hG.1.toInt (by omega)); clear hC2 hC3 hG ht))
          go_step3
          simp only [Exit.then, Exit.inBlock, Exit.jump]
          refine ⟨trivial, rfl, _, rfl, rfl, ?_⟩
          rw [← hN1.out]
          simp
          try omega
        · go_wp2_with (first
            | (refine wpList_csub 51 51 _ _ rfl rfl rfl rfl hZ hC0 sx sy sKn sK ?_; intro r1 r2 hC2)
            | (refine wpList_cquo 51 51 _ _ rfl rfl rfl rfl hC2 hD0 (by unfold Sm; omega) (by unfold Sm; omega) (.inl ⟨rfl, rfl⟩) ?_; intro r3 r4 hC3; have hG := gone2 hC3; have o1 := ord_ne hG.2 (by omega); clear hC2 hC3 hG)
            | (refine wpList_cmul 51 51 _ (.const (.complex .f64 0 13830554455654793216)) rfl rfl rfl rfl hD0 hmi s1 s0 s0 s1n ?_; intro r5 r6 hC5)
            | (refine wpList_cmul 51 51 _ _ rfl rfl rfl rfl h2K hD0 s2K s0 s1 s0 ?_; intro r7 r8 hC7)
            | (refine wpList_cadd 51 51 _ _ rfl rfl rfl rfl hC0 hC7 sKn sK (by unfold Sm; omega) (by unfold Sm; omega) ?_; intro r9 r10 hC9))
          go_roundg (4 - 3)
          case measure => rw [hg.out]; omega
          case rel =>
            refine ⟨rfl, 3, r9, r10, r5, r6, (rfl : 4 - 3 = 4 - 3), by omega, rfl, int_eq (by omega), rfl, rfl, ?_, ?_, (fun _ => ⟨(f1.out (by omega)).1, hKp⟩ : (1 ≤ 3 → _)), (fun _ => f2.out (by omega) : (2 ≤ 3 → _)), (fun _ => ht : (3 ≤ 3 → _)), (by decide : (3 : Nat) ≠ 4)⟩
            · exact next2c hC9
            · exact next2b hC5
      · skip
        have hC0 : CI p q (K) (K) := hC
        have hD0 : CI p' q' (0) (-1) := hD
        clear hC hD
        have hKp : 0 < K := (f1.out (by omega)).2
        have hk0 : (K == 0) = false := by simp; omega
        by_cases ht : x = K
        · have hN0 : E - 6 * K - (K - y) = N := by
            have e := hNH.out
            have k := hKH.out
            unfold kOf at k
            rw [if_neg (f1.out (by omega)).1, if_neg (f2.out (by omega)), if_neg (f3.out (by omega))] at e
            omega
          have hN1 : Hid (E - 6 * K - (K - y) = N) := hN0
          clear hN0
          have htH : Hid _ := ht
          clear ht
          go_wp2_with (first
            | (refine wpList_csub 51 51 _ _ rfl rfl rfl rfl hZ hC0 sx sy sK sK ?_; intro r1 r2 hC2)
            | (refine wpList_cquo 51 51 _ _ rfl rfl rfl rfl hC2 hD0 (by unfold Sm; omega) (by unfold Sm; omega) (.inr (.inr (.inr ⟨rfl, rfl⟩))) ?_; intro r3 r4 hC3; have hG := gone3 hC3; have ht := htH.out; have o1 := ord_eq hG.2 (by omega); have o2 := ord_ge hG.1 (by omega); have o3 := ord_le hG.1 hI2 (by omega); have hcv : ∀ w, (convert 53 3 (.float .f64 r3)).run Try.prog w = .ok (.int .i64 (K - y)) w := fun w => run_convert_float_int w 53 3 .f64 .i64 r3 _ (by rw [Try.underlying53]; rfl) Try.underlying3 (hG.1.toInt (by omega)); clear hC2 hC3 hG ht))
          go_step3
          simp only [Exit.then, Exit.inBlock, Exit.jump]
          refine ⟨trivial, rfl, _, rfl, rfl, ?_⟩
          rw [← hN1.out]
          simp
          try omega
        · exfalso
          have k := hKH.out
          have n1 := (f1.out (by omega)).1
          have n2 := f2.out (by omega)
          have n3 := f3.out (by omega)
          unfold kOf at k
          omega
  · rintro a w' ⟨rfl, T, rfl, hT, h9⟩
    go_wp2
    simp only [Exit.jump]
    refine bodyPost_ret (v := .tuple #[.int .i64 N, .int .i64 0]) ?_ rfl ⟨rfl, rfl⟩
    simp [results, Try.results12, go_sem, hT]
    exact (Array.getElem?_eq_some_iff.1 h9).2

end Go.Proofs.Ytafdbibjcohdbaa
