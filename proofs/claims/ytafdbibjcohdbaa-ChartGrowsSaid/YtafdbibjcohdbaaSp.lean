/-
  The spiral in plain numbers: its places leg by leg, their numbers by the square in which they lie.
-/
import Derived.Test.YtafdbibjcohdbaaCx
namespace Go.Proofs.Ytafdbibjcohdbaa

/-- The place n steps on from a corner, where leg l begins in a direction. -/
def spotL (x y dx dy : Int) (l n : Nat) : Int × Int :=
  if n ≤ l / 2 + 1 then (x + n * dx, y + n * dy)
  else spotL (x + (l / 2 + 1 : Nat) * dx) (y + (l / 2 + 1 : Nat) * dy) (-dy) dx (l + 1) (n - (l / 2 + 1))
termination_by n
decreasing_by omega

def spot (n : Nat) : Int × Int := spotL 0 0 1 0 0 n

theorem spotL_near {x y dx dy : Int} {l n : Nat} (h : n ≤ l / 2 + 1) : spotL x y dx dy l n = (x + n * dx, y + n * dy) := by
  rw [spotL, if_pos h]
theorem spotL_far {x y dx dy : Int} {l n : Nat} (h : l / 2 + 1 < n) :
    spotL x y dx dy l n = spotL (x + (l / 2 + 1 : Nat) * dx) (y + (l / 2 + 1 : Nat) * dy) (-dy) dx (l + 1) (n - (l / 2 + 1)) := by
  rw [spotL, if_neg (by omega)]
theorem spotL_zero (x y dx dy : Int) (l : Nat) : spotL x y dx dy l 0 = (x, y) := by
  rw [spotL_near (by omega)]
  simp

theorem Un.turn {u v : Int} (h : Un u v) : Un (-v) u := by unfold Un at *; omega

/-- Neighbours lie one step apart. -/
theorem spotL_next (m : Nat) : ∀ (x y dx dy : Int) (l : Nat), Un dx dy → ∃ u v, Un u v ∧ spotL x y dx dy l (m + 1) = ((spotL x y dx dy l m).1 + u, (spotL x y dx dy l m).2 + v) := by
  induction m using Nat.strongRecOn with
  | _ m ih =>
    intro x y dx dy l hU
    by_cases h1 : m + 1 ≤ l / 2 + 1
    · refine ⟨dx, dy, hU, ?_⟩
      rw [spotL_near h1, spotL_near (by omega)]
      rcases hU with ⟨rfl, rfl⟩ | ⟨rfl, rfl⟩ | ⟨rfl, rfl⟩ | ⟨rfl, rfl⟩ <;> simp <;> omega
    · by_cases h2 : m = l / 2 + 1
      · refine ⟨-dy, dx, hU.turn, ?_⟩
        rw [spotL_far (by omega), spotL_near (l := l) (n := m) (by omega), h2, show l / 2 + 1 + 1 - (l / 2 + 1) = 1 by omega, spotL_near (by omega)]
        simp
      · rw [spotL_far (by omega), spotL_far (l := l) (n := m) (by omega)]
        have := ih (m - (l / 2 + 1)) (by omega) (x + (l / 2 + 1 : Nat) * dx) (y + (l / 2 + 1 : Nat) * dy) (-dy) dx (l + 1) hU.turn
        rwa [show m - (l / 2 + 1) + 1 = m + 1 - (l / 2 + 1) by omega] at this

theorem spot_next (n : Nat) : ∃ u v, Un u v ∧ spot (n + 1) = ((spot n).1 + u, (spot n).2 + v) := spotL_next n 0 0 1 0 0 (.inl ⟨rfl, rfl⟩)

theorem spot_zero : spot 0 = (0, 0) := spotL_zero _ _ _ _ _

/-- Where the k-th turn begins. -/
theorem spot_turn (k : Nat) : ∀ m, 1 ≤ m → spot (4 * (k * k) + 2 * k + m) = spotL (-(k : Int)) (-(k : Int)) 1 0 (4 * k) m := by
  induction k with
  | zero => intro m _; simp [spot]
  | succ k ih =>
    intro m hm
    have e : 4 * ((k + 1) * (k + 1)) + 2 * (k + 1) + m = 4 * (k * k) + 2 * k + (8 * k + 6 + m) := by
      simp only [Nat.add_mul, Nat.mul_add]; omega
    rw [e, ih _ (by omega), spotL_far (by omega), show 4 * k / 2 + 1 = 2 * k + 1 by omega]
    rw [spotL_far (by omega), show (4 * k + 1) / 2 + 1 = 2 * k + 1 by omega]
    rw [spotL_far (by omega), show (4 * k + 1 + 1) / 2 + 1 = 2 * k + 2 by omega]
    rw [spotL_far (by omega), show (4 * k + 1 + 1 + 1) / 2 + 1 = 2 * k + 2 by omega]
    rw [show 8 * k + 6 + m - (2 * k + 1) - (2 * k + 1) - (2 * k + 2) - (2 * k + 2) = m by omega, show 4 * k + 1 + 1 + 1 + 1 = 4 * (k + 1) by omega]
    congr 1
    · simp; omega
    · simp; omega

/-- Every place, by its leg. -/
theorem spot_leg (k j : Nat) (hj : 1 ≤ j) :
    (j ≤ 2 * k + 1 → spot (4 * (k * k) + 2 * k + j) = (-(k : Int) + j, -(k : Int))) ∧
    (j ≤ 2 * k + 1 → spot (4 * (k * k) + 2 * k + (2 * k + 1 + j)) = ((k : Int) + 1, -(k : Int) + j)) ∧
    (j ≤ 2 * k + 2 → spot (4 * (k * k) + 2 * k + (4 * k + 2 + j)) = ((k : Int) + 1 - j, (k : Int) + 1)) ∧
    (j ≤ 2 * k + 2 → spot (4 * (k * k) + 2 * k + (6 * k + 4 + j)) = (-(k : Int) - 1, (k : Int) + 1 - j)) := by
  refine ⟨fun h => ?_, fun h => ?_, fun h => ?_, fun h => ?_⟩
  · rw [spot_turn k _ (by omega), spotL_near (by omega)]
    simp
  · rw [spot_turn k _ (by omega), spotL_far (by omega), show 4 * k / 2 + 1 = 2 * k + 1 by omega, spotL_near (by omega)]
    rw [show 2 * k + 1 + j - (2 * k + 1) = j by omega]
    simp
    omega
  · rw [spot_turn k _ (by omega), spotL_far (by omega), show 4 * k / 2 + 1 = 2 * k + 1 by omega, spotL_far (by omega), show (4 * k + 1) / 2 + 1 = 2 * k + 1 by omega, spotL_near (by omega)]
    rw [show 4 * k + 2 + j - (2 * k + 1) - (2 * k + 1) = j by omega]
    simp
    omega
  · rw [spot_turn k _ (by omega), spotL_far (by omega), show 4 * k / 2 + 1 = 2 * k + 1 by omega, spotL_far (by omega), show (4 * k + 1) / 2 + 1 = 2 * k + 1 by omega, spotL_far (by omega), show (4 * k + 1 + 1) / 2 + 1 = 2 * k + 2 by omega, spotL_near (by omega)]
    rw [show 6 * k + 4 + j - (2 * k + 1) - (2 * k + 1) - (2 * k + 2) = j by omega]
    simp
    omega

/-- Which turn a number lies in. -/
theorem turn_of (n : Nat) (hn : 1 ≤ n) : ∃ k m : Nat, n = 4 * (k * k) + 2 * k + m ∧ 1 ≤ m ∧ m ≤ 8 * k + 6 := by
  induction n with
  | zero => omega
  | succ n ih =>
    by_cases h0 : n = 0
    · exact ⟨0, 1, by omega, by omega, by omega⟩
    · obtain ⟨k, m, h1, h2, h3⟩ := ih (by omega)
      by_cases h4 : m + 1 ≤ 8 * k + 6
      · exact ⟨k, m + 1, by omega, by omega, h4⟩
      · refine ⟨k + 1, 1, ?_, by omega, by omega⟩
        simp only [Nat.add_mul, Nat.mul_add]
        omega


/-- The square's half side. -/
def kOf (x y : Int) : Int := max (max x y) (max (-x) (-y))

/-- The number of a place. -/
def numF (x y : Int) : Int :=
  if y = -kOf x y then 4 * kOf x y * (kOf x y + 1) - (kOf x y - x)
  else if x = -kOf x y then 4 * kOf x y * (kOf x y + 1) - 2 * kOf x y - (y + kOf x y)
  else if y = kOf x y then 4 * kOf x y * (kOf x y + 1) - 4 * kOf x y - (x + kOf x y)
  else 4 * kOf x y * (kOf x y + 1) - 6 * kOf x y - (kOf x y - y)

theorem numF_eq {x y k : Int} (hk : kOf x y = k) (q : Int) (hq : k * k = q) :
    numF x y = if y = -k then 4 * q + 4 * k - (k - x) else if x = -k then 4 * q + 4 * k - 2 * k - (y + k) else if y = k then 4 * q + 4 * k - 4 * k - (x + k) else 4 * q + 4 * k - 6 * k - (k - y) := by
  unfold numF
  rw [hk]
  have e : 4 * k * (k + 1) = 4 * q + 4 * k := by rw [← hq, Int.mul_add, Int.mul_one, Int.mul_assoc]
  rw [e]

theorem sq_succ (k : Int) : (k + 1) * (k + 1) = k * k + 2 * k + 1 := by
  rw [Int.add_mul, Int.mul_add]
  omega

/-- What is known of the n-th place. -/
structure Place (n : Nat) (x y : Int) : Prop where
  num : numF x y = n
  half : 1 ≤ kOf x y
  lo : 4 * (kOf x y * kOf x y) - 4 * kOf x y + 1 ≤ n
  hi : (n : Int) ≤ 4 * (kOf x y * kOf x y) + 4 * kOf x y

theorem place_of {n : Nat} {x y k q : Int} (hk : kOf x y = k) (hq : k * k = q) (h1 : 1 ≤ k) (hlo : 4 * q - 4 * k + 1 ≤ n) (hhi : (n : Int) ≤ 4 * q + 4 * k)
    (hn : (if y = -k then 4 * q + 4 * k - (k - x) else if x = -k then 4 * q + 4 * k - 2 * k - (y + k) else if y = k then 4 * q + 4 * k - 4 * k - (x + k) else 4 * q + 4 * k - 6 * k - (k - y)) = (n : Int)) : Place n x y := by
  subst hk
  exact ⟨(numF_eq rfl q hq).trans hn, h1, by rw [hq]; exact hlo, by rw [hq]; exact hhi⟩

theorem spot_place (n : Nat) (hn : 1 ≤ n) : Place n (spot n).1 (spot n).2 := by
  obtain ⟨k, m, rfl, h1, h2⟩ := turn_of n hn
  obtain ⟨q, hq⟩ : ∃ q : Nat, k * k = q := ⟨_, rfl⟩
  have hqi : (k : Int) * k = q := by rw [← hq]; simp
  have hqs : ((k : Int) + 1) * ((k : Int) + 1) = q + 2 * k + 1 := by rw [sq_succ, hqi]
  by_cases c1 : m ≤ 2 * k
  · have := (spot_leg k m h1).1 (by omega)
    rw [this]
    rw [hq]
    refine place_of (k := k) (q := q) (by unfold kOf; omega) hqi (by omega) (by omega) (by omega) ?_
    rw [if_pos rfl]
    omega
  by_cases c2 : m = 2 * k + 1
  · subst c2
    have := (spot_leg k (2 * k + 1) h1).1 (by omega)
    rw [this]
    rw [hq]
    refine place_of (k := (k : Int) + 1) (q := q + 2 * k + 1) (by unfold kOf; omega) hqs (by omega) (by omega) (by omega) ?_
    rw [if_neg (by omega), if_neg (by omega), if_neg (by omega)]
    omega
  by_cases c3 : m ≤ 4 * k + 2
  · obtain ⟨j, rfl⟩ : ∃ j, m = 2 * k + 1 + j := ⟨m - (2 * k + 1), by omega⟩
    have := (spot_leg k j (by omega)).2.1 (by omega)
    rw [this]
    rw [hq]
    refine place_of (k := (k : Int) + 1) (q := q + 2 * k + 1) (by unfold kOf; omega) hqs (by omega) (by omega) (by omega) ?_
    rw [if_neg (by omega), if_neg (by omega)]
    by_cases hj : j = 2 * k + 1
    · subst hj
      rw [if_pos (by omega)]
      omega
    · rw [if_neg (by omega)]
      omega
  by_cases c4 : m ≤ 6 * k + 4
  · obtain ⟨j, rfl⟩ : ∃ j, m = 4 * k + 2 + j := ⟨m - (4 * k + 2), by omega⟩
    have := (spot_leg k j (by omega)).2.2.1 (by omega)
    rw [this]
    rw [hq]
    refine place_of (k := (k : Int) + 1) (q := q + 2 * k + 1) (by unfold kOf; omega) hqs (by omega) (by omega) (by omega) ?_
    rw [if_neg (by omega)]
    by_cases hj : j = 2 * k + 2
    · subst hj
      rw [if_pos (by omega)]
      omega
    · rw [if_neg (by omega), if_pos (by omega)]
      omega
  · obtain ⟨j, rfl⟩ : ∃ j, m = 6 * k + 4 + j := ⟨m - (6 * k + 4), by omega⟩
    have := (spot_leg k j (by omega)).2.2.2 (by omega)
    rw [this]
    rw [hq]
    refine place_of (k := (k : Int) + 1) (q := q + 2 * k + 1) (by unfold kOf; omega) hqs (by omega) (by omega) (by omega) ?_
    by_cases hj : j = 2 * k + 2
    · subst hj
      rw [if_pos (by omega)]
      omega
    · rw [if_neg (by omega), if_pos (by omega)]
      omega

theorem num_spot (n : Nat) : numF (spot n).1 (spot n).2 = n := by
  by_cases h : 1 ≤ n
  · exact (spot_place n h).num
  · obtain rfl : n = 0 := by omega
    rw [spot_zero]
    decide

end Go.Proofs.Ytafdbibjcohdbaa
