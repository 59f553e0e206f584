/-
  The picture in plain numbers: its corners, its rows, where a place's letter lies.
-/
import Derived.Test.YtafdbibjcohdbaaE
import Derived.Test.YtafdbibjcohdbaaH
namespace Go.Proofs.Ytafdbibjcohdbaa

def low2 (l : List (Int × Int)) : Int × Int := l.foldl (fun a p => (min a.1 p.1, min a.2 p.2)) (0, 0)
def high2 (l : List (Int × Int)) : Int × Int := l.foldl (fun a p => (max a.1 p.1, max a.2 p.2)) (0, 0)
theorem low2_snoc (l : List (Int × Int)) (p : Int × Int) : low2 (l ++ [p]) = (min (low2 l).1 p.1, min (low2 l).2 p.2) := by simp [low2, List.foldl_append]
theorem high2_snoc (l : List (Int × Int)) (p : Int × Int) : high2 (l ++ [p]) = (max (high2 l).1 p.1, max (high2 l).2 p.2) := by simp [high2, List.foldl_append]

theorem low2_le (n : Nat) : (low2 (places n)).1 ≤ 0 ∧ (low2 (places n)).2 ≤ 0 ∧ ∀ k, k < n → (low2 (places n)).1 ≤ (spot k).1 ∧ (low2 (places n)).2 ≤ (spot k).2 := by
  induction n with
  | zero => exact ⟨Int.le_refl _, Int.le_refl _, fun k h => absurd h (Nat.not_lt_zero _)⟩
  | succ n ih =>
    obtain ⟨h1, h2, h3⟩ := ih
    rw [places_succ, low2_snoc]
    refine ⟨by show min _ _ ≤ _; omega, by show min _ _ ≤ _; omega, fun k hk => ?_⟩
    by_cases e : k = n
    · subst e; exact ⟨by show min _ _ ≤ _; omega, by show min _ _ ≤ _; omega⟩
    · have := h3 k (by omega)
      exact ⟨by show min _ _ ≤ _; omega, by show min _ _ ≤ _; omega⟩

theorem high2_ge (n : Nat) : 0 ≤ (high2 (places n)).1 ∧ 0 ≤ (high2 (places n)).2 ∧ ∀ k, k < n → (spot k).1 ≤ (high2 (places n)).1 ∧ (spot k).2 ≤ (high2 (places n)).2 := by
  induction n with
  | zero => exact ⟨Int.le_refl _, Int.le_refl _, fun k h => absurd h (Nat.not_lt_zero _)⟩
  | succ n ih =>
    obtain ⟨h1, h2, h3⟩ := ih
    rw [places_succ, high2_snoc]
    refine ⟨by show _ ≤ max _ _; omega, by show _ ≤ max _ _; omega, fun k hk => ?_⟩
    by_cases e : k = n
    · subst e; exact ⟨by show _ ≤ max _ _; omega, by show _ ≤ max _ _; omega⟩
    · have := h3 k (by omega)
      exact ⟨by show _ ≤ max _ _; omega, by show _ ≤ max _ _; omega⟩

theorem walk_at (k : Nat) : ∃ x y dx dy left l, WalkAt k x y dx dy left l := by
  induction k with
  | zero => exact ⟨_, _, _, _, _, _, WalkAt.start⟩
  | succ k ih =>
    obtain ⟨x, y, dx, dy, left, l, h⟩ := ih
    have hp := h.pos
    rcases Nat.lt_or_ge 1 left with h1 | h1
    · obtain ⟨m, rfl⟩ : ∃ m, left = m + 1 := ⟨left - 1, by omega⟩
      exact ⟨_, _, _, _, _, _, h.next (by omega)⟩
    · obtain rfl : left = 1 := by omega
      exact ⟨_, _, _, _, _, _, h.turn⟩

theorem spot_bd (k : Nat) : -(k : Int) ≤ (spot k).1 ∧ (spot k).1 ≤ k ∧ -(k : Int) ≤ (spot k).2 ∧ (spot k).2 ≤ k := by
  obtain ⟨x, y, dx, dy, left, l, h⟩ := walk_at k
  have := h.bx
  have := h.byy
  rw [h.here]
  exact ⟨by omega, by omega, by omega, by omega⟩

theorem low2_bd (n : Nat) : -(n : Int) ≤ (low2 (places n)).1 ∧ -(n : Int) ≤ (low2 (places n)).2 := by
  induction n with
  | zero => exact ⟨Int.le_refl _, Int.le_refl _⟩
  | succ n ih =>
    have := spot_bd n
    rw [places_succ, low2_snoc]
    exact ⟨by show _ ≤ min _ _; omega, by show _ ≤ min _ _; omega⟩
theorem high2_bd (n : Nat) : (high2 (places n)).1 ≤ n ∧ (high2 (places n)).2 ≤ n := by
  induction n with
  | zero => exact ⟨Int.le_refl _, Int.le_refl _⟩
  | succ n ih =>
    have := spot_bd n
    rw [places_succ, high2_snoc]
    exact ⟨by show max _ _ ≤ _; omega, by show max _ _ ≤ _; omega⟩

/-- How wide and how high a picture of n places is, less one. -/
def wid (n : Nat) : Nat := ((high2 (places n)).1 - (low2 (places n)).1).toNat
def hei (n : Nat) : Nat := ((high2 (places n)).2 - (low2 (places n)).2).toNat
theorem wid_eq (n : Nat) : (wid n : Int) = (high2 (places n)).1 - (low2 (places n)).1 := by have := low2_le n; have := high2_ge n; unfold wid; omega
theorem hei_eq (n : Nat) : (hei n : Int) = (high2 (places n)).2 - (low2 (places n)).2 := by have := low2_le n; have := high2_ge n; unfold hei; omega
theorem wid_le (n : Nat) : wid n ≤ 2 * n := by have := wid_eq n; have := low2_bd n; have := high2_bd n; omega
theorem hei_le (n : Nat) : hei n ≤ 2 * n := by have := hei_eq n; have := low2_bd n; have := high2_bd n; omega

/-- The row and the column of the k-th place. -/
def rowOf (n k : Nat) : Nat := ((high2 (places n)).2 - (spot k).2).toNat
def colOf (n k : Nat) : Nat := ((spot k).1 - (low2 (places n)).1).toNat
theorem rowOf_eq {n k : Nat} (h : k < n) : (rowOf n k : Int) = (high2 (places n)).2 - (spot k).2 := by have := (high2_ge n).2.2 k h; unfold rowOf; omega
theorem colOf_eq {n k : Nat} (h : k < n) : (colOf n k : Int) = (spot k).1 - (low2 (places n)).1 := by have := (low2_le n).2.2 k h; unfold colOf; omega
theorem rowOf_le {n k : Nat} (h : k < n) : rowOf n k ≤ hei n := by have := rowOf_eq h; have := hei_eq n; have := (low2_le n).2.2 k h; omega
theorem colOf_le {n k : Nat} (h : k < n) : colOf n k ≤ wid n := by have := colOf_eq h; have := wid_eq n; have := (high2_ge n).2.2 k h; omega

/-- Where the k-th place's letter lies. -/
def idx (n k : Nat) : Nat := rowOf n k * (wid n + 2) + colOf n k

def line (n : Nat) : List UInt8 := List.replicate (wid n + 1) 46 ++ [10]
theorem line_length (n : Nat) : (line n).length = wid n + 2 := by simp [line]
def baseB (n : Nat) : List UInt8 := Lib.repeatL (line n) (hei n + 1)
theorem baseB_length (n : Nat) : (baseB n).length = (hei n + 1) * (wid n + 2) := by rw [baseB, Lib.repeatL_length, line_length]

/-- The picture with the first k letters laid. -/
def layB (L : List UInt8) (n : Nat) : Nat → List UInt8
  | 0 => baseB n
  | k + 1 => (layB L n k).set (idx n k) (L.getD k 0)
theorem layB_length (L : List UInt8) (n : Nat) (k : Nat) : (layB L n k).length = (hei n + 1) * (wid n + 2) := by
  induction k with
  | zero => exact baseB_length n
  | succ k ih => rw [layB, List.length_set, ih]

/-- Letters laid one behind the other at whatever places. -/
def layP (L : List UInt8) (n : Nat) : List Nat → Nat → List UInt8 → List UInt8
  | [], _, r => r
  | m :: t, i, r => layP L n t (i + 1) (r.set (idx n m) (L.getD i 0))
theorem layP_snoc (L : List UInt8) (n m : Nat) : ∀ (t : List Nat) (i : Nat) (r : List UInt8), layP L n (t ++ [m]) i r = (layP L n t i r).set (idx n m) (L.getD (i + t.length) 0)
  | [], i, r => by simp [layP]
  | a :: t, i, r => by
    rw [List.cons_append, layP, layP, layP_snoc L n m t (i + 1), List.length_cons, show i + 1 + t.length = i + (t.length + 1) by omega]
theorem layP_length (L : List UInt8) (n : Nat) : ∀ (t : List Nat) (i : Nat) (r : List UInt8), (layP L n t i r).length = r.length
  | [], _, _ => rfl
  | a :: t, i, r => by rw [layP, layP_length L n t, List.length_set]
theorem layP_range (L : List UInt8) (n k : Nat) : layP L n (List.range k) 0 (baseB n) = layB L n k := by
  induction k with
  | zero => rfl
  | succ k ih => rw [List.range_succ, layP_snoc, ih, List.length_range, Nat.zero_add]; rfl

def drawB (L : List UInt8) : List UInt8 := if L = [] then [] else layB L L.length L.length

theorem idx_lt {n k : Nat} (h : k < n) : idx n k < (hei n + 1) * (wid n + 2) := by
  have h1 := rowOf_le h
  have h2 := colOf_le h
  have h3 : rowOf n k * (wid n + 2) ≤ hei n * (wid n + 2) := Nat.mul_le_mul_right _ h1
  have h4 : (hei n + 1) * (wid n + 2) = hei n * (wid n + 2) + (wid n + 2) := by rw [Nat.add_mul]; omega
  unfold idx
  omega

theorem pic_bd {n : Nat} (h : n ≤ 4096) : (hei n + 1) * (wid n + 2) ≤ 1073741824 := by
  have h1 := wid_le n
  have h2 := hei_le n
  exact Nat.le_trans (Nat.mul_le_mul (show hei n + 1 ≤ 8193 by omega) (show wid n + 2 ≤ 8194 by omega)) (by decide)

end Go.Proofs.Ytafdbibjcohdbaa
