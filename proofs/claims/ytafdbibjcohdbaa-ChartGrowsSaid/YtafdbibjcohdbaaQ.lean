/-
  The picture in plain numbers: what lies where.
-/
import Derived.Test.YtafdbibjcohdbaaP
namespace Go.Proofs.Ytafdbibjcohdbaa

theorem kOf_bd (x y : Int) : x ≤ kOf x y ∧ -x ≤ kOf x y ∧ y ≤ kOf x y ∧ -y ≤ kOf x y ∧ (x = kOf x y ∨ -x = kOf x y ∨ y = kOf x y ∨ -y = kOf x y) := by unfold kOf; omega

theorem numF_range (x y : Int) : ∃ k q : Int, kOf x y = k ∧ k * k = q ∧ 0 ≤ k ∧ 4 * q - 4 * k + 1 ≤ numF x y + (if k = 0 then 1 else 0) ∧ numF x y ≤ 4 * q + 4 * k := by
  obtain ⟨k, hk⟩ : ∃ k, kOf x y = k := ⟨_, rfl⟩
  obtain ⟨q, hq⟩ : ∃ q, k * k = q := ⟨_, rfl⟩
  have hb := kOf_bd x y
  rw [hk] at hb
  refine ⟨k, q, hk, hq, by omega, ?_, ?_⟩ <;> rw [numF_eq hk q hq]
  · split <;> split <;> (try split) <;> (try split) <;> omega
  · split <;> (try split) <;> (try split) <;> omega

theorem sq_lt {k k' : Int} (h0 : 0 ≤ k) (h : k < k') : k * k + k < k' * k' - k' + 1 := by
  obtain ⟨d, rfl⟩ : ∃ d : Int, k' = k + 1 + d := ⟨k' - k - 1, by omega⟩
  have hd : 0 ≤ d := by omega
  have e : (k + 1 + d) * (k + 1 + d) - (k + 1 + d) = k * k + k + (2 * (k * d) + d * d + d) := by
    simp only [Int.add_mul, Int.mul_add, Int.mul_one, Int.one_mul]
    have := Int.mul_comm d k
    omega
  have h1 : 0 ≤ k * d := Int.mul_nonneg h0 hd
  have h2 : 0 ≤ d * d := Int.mul_nonneg hd hd
  omega

theorem numF_inj {x y x' y' : Int} (h : numF x y = numF x' y') : x = x' ∧ y = y' := by
  obtain ⟨k, q, hk, hq, h0, h1, h2⟩ := numF_range x y
  obtain ⟨k', q', hk', hq', h0', h1', h2'⟩ := numF_range x' y'
  have hkk : k = k' := by
    rcases Int.lt_trichotomy k k' with hl | hl | hl
    · have := sq_lt h0 hl
      rw [hq, hq'] at this
      rw [if_neg (by omega)] at h1'
      omega
    · exact hl
    · have := sq_lt h0' hl
      rw [hq, hq'] at this
      rw [if_neg (by omega)] at h1
      omega
  subst hkk
  have hqq : q = q' := by rw [← hq, hq']
  subst hqq
  have hb := kOf_bd x y
  have hb' := kOf_bd x' y'
  rw [hk] at hb
  rw [hk'] at hb'
  rw [numF_eq hk q hq, numF_eq hk' q hq] at h
  clear h1 h1' h2 h2' hk hk' hq hq'
  split at h <;> split at h <;> (try split at h) <;> (try split at h) <;> (try split at h) <;> (try split at h) <;> omega

theorem numF_nonneg (x y : Int) : 0 ≤ numF x y := by
  obtain ⟨k, q, _, hq, h0, h1, _⟩ := numF_range x y
  have h2 : 0 ≤ k * k - k := by
    rcases Int.lt_or_le 0 k with h | h
    · have : k * 1 ≤ k * k := Int.mul_le_mul_of_nonneg_left (by omega) h0
      omega
    · have : k = 0 := by omega
      subst this
      decide
  rw [hq] at h2
  split at h1 <;> omega

theorem spot_num (x y : Int) : spot (numF x y).toNat = (x, y) := by
  have h := num_spot (numF x y).toNat
  rw [Int.toNat_of_nonneg (numF_nonneg x y)] at h
  obtain ⟨h1, h2⟩ := numF_inj h
  exact Prod.ext h1 h2

theorem spot_inj {j k : Nat} (h : spot j = spot k) : j = k := by
  have h1 := num_spot j
  have h2 := num_spot k
  rw [h] at h1
  omega

/-- A row and a column out of a place in the picture. -/
theorem split_eq {W r c r' c' : Nat} (hc : c < W) (hc' : c' < W) (h : r * W + c = r' * W + c') : r = r' ∧ c = c' := by
  have h1 : (r * W + c) / W = (r' * W + c') / W := by rw [h]
  rw [Nat.add_comm (r * W), Nat.add_comm (r' * W), Nat.add_mul_div_right _ _ (by omega), Nat.add_mul_div_right _ _ (by omega), Nat.div_eq_of_lt hc, Nat.div_eq_of_lt hc'] at h1
  have : r = r' := by omega
  subst this
  exact ⟨rfl, by omega⟩

theorem idx_inj {n j k : Nat} (hj : j < n) (hk : k < n) (h : idx n j = idx n k) : j = k := by
  have c1 := colOf_le hj
  have c2 := colOf_le hk
  obtain ⟨e1, e2⟩ := split_eq (W := wid n + 2) (by omega) (by omega) h
  have r1 := rowOf_eq hj
  have r2 := rowOf_eq hk
  have k1 := colOf_eq hj
  have k2 := colOf_eq hk
  rw [e1] at r1
  rw [e2] at k1
  exact spot_inj (Prod.ext (by omega) (by omega))

theorem repeatL_at (l : List UInt8) (W c : Nat) (hW : l.length = W) (hc : c < W) : ∀ (q r : Nat), r < q → (Lib.repeatL l q)[r * W + c]? = l[c]?
  | 0, r, h => absurd h (Nat.not_lt_zero _)
  | q + 1, 0, _ => by
    rw [Lib.repeatL, Nat.zero_mul, Nat.zero_add, List.getElem?_append_left (by omega)]
  | q + 1, r + 1, h => by
    have e : (r + 1) * W + c = l.length + (r * W + c) := by rw [Nat.add_mul, hW]; omega
    rw [Lib.repeatL, e, List.getElem?_append_right (by omega), Nat.add_sub_cancel_left]
    exact repeatL_at l W c hW hc q r (by omega)

theorem base_dot {n r c : Nat} (hr : r ≤ hei n) (hc : c ≤ wid n) : (baseB n)[r * (wid n + 2) + c]? = some 46 := by
  rw [baseB, repeatL_at (line n) (wid n + 2) c (line_length n) (by omega) _ _ (by omega), line, List.getElem?_append_left (by simp; omega), List.getElem?_replicate, if_pos (by omega)]
theorem base_nl {n r : Nat} (hr : r ≤ hei n) : (baseB n)[r * (wid n + 2) + (wid n + 1)]? = some 10 := by
  rw [baseB, repeatL_at (line n) (wid n + 2) _ (line_length n) (by omega) _ _ (by omega), line, List.getElem?_append_right (by simp)]
  simp

theorem lay_off (L : List UInt8) {n p : Nat} : ∀ k, (∀ j, j < k → idx n j ≠ p) → (layB L n k)[p]? = (baseB n)[p]?
  | 0, _ => rfl
  | k + 1, h => by
    rw [layB, List.getElem?_set_ne (h k (by omega))]
    exact lay_off L k (fun j hj => h j (by omega))

theorem lay_at (L : List UInt8) {n j : Nat} (hj : j < n) : ∀ k, k ≤ n → j < k → (layB L n k)[idx n j]? = some (L.getD j 0)
  | 0, _, h => absurd h (Nat.not_lt_zero _)
  | k + 1, hk, h => by
    rw [layB]
    by_cases e : j = k
    · subst e
      rw [List.getElem?_set_self (by rw [layB_length]; exact idx_lt hj)]
    · rw [List.getElem?_set_ne (fun h' => e (idx_inj hj (by omega) h'.symm))]
      exact lay_at L hj k (by omega) (by omega)

/-- What lies at a place of the picture. -/
theorem pic_cell (L : List UInt8) {n r c : Nat} (hr : r ≤ hei n) (hc : c ≤ wid n) (x y : Int) (hx : x = (low2 (places n)).1 + c) (hy : y = (high2 (places n)).2 - r) :
    (layB L n n)[r * (wid n + 2) + c]? = some (if numF x y < n then L.getD (numF x y).toNat 0 else 46) := by
  have hs := spot_num x y
  have h0 := numF_nonneg x y
  by_cases h : numF x y < n
  · rw [if_pos h]
    obtain ⟨j, hj⟩ : ∃ j, (numF x y).toNat = j := ⟨_, rfl⟩
    rw [hj] at hs ⊢
    have hjn : j < n := by omega
    have e : idx n j = r * (wid n + 2) + c := by
      have h1 := rowOf_eq hjn
      have h2 := colOf_eq hjn
      rw [hs] at h1 h2
      have h3 : rowOf n j = r := by rw [hy] at h1; simp only at h1; omega
      have h4 : colOf n j = c := by rw [hx] at h2; simp only at h2; omega
      rw [idx, h3, h4]
    rw [← e]
    exact lay_at L hjn n (Nat.le_refl _) hjn
  · rw [if_neg h, ← base_dot hr hc]
    refine lay_off L n fun j hj e => ?_
    have c1 := colOf_le hj
    obtain ⟨e1, e2⟩ := split_eq (W := wid n + 2) (by omega) (by omega) e
    have h1 := rowOf_eq hj
    have h2 := colOf_eq hj
    have h3 := num_spot j
    rw [show (spot j).1 = x by omega, show (spot j).2 = y by omega] at h3
    omega

theorem pic_nl (L : List UInt8) {n r : Nat} (hr : r ≤ hei n) : (layB L n n)[r * (wid n + 2) + (wid n + 1)]? = some 10 := by
  rw [← base_nl hr]
  refine lay_off L n fun j hj e => ?_
  have c1 := colOf_le hj
  obtain ⟨_, e2⟩ := split_eq (W := wid n + 2) (by omega) (by omega) e
  omega

end Go.Proofs.Ytafdbibjcohdbaa
