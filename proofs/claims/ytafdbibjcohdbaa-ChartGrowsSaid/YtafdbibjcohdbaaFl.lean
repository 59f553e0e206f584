/-
  Floats that hold whole numbers below 2^53: what the model's operations make of them is exact.
-/
import Derived.Laws.ComplexQuo
namespace Go.Proofs.Ytafdbibjcohdbaa
open Ieee

/-- The signed number of a sign and a magnitude. -/
def sg (s : Bool) (m : Nat) : Int := if s then -(m : Int) else m

/-- The datum stands for the whole number n. -/
def DI (s : Bool) (m : Nat) (e : Int) (n : Int) : Prop := sg s m * 2 ^ e.toNat = n * 2 ^ (-e).toNat

/-- The word holds the whole number n. -/
def IsI (b : Nat) (n : Int) : Prop := ∃ (s : Bool) (m : Nat) (e : Int), Ieee.double.read b = .number s m e ∧ m < 2 ^ 53 ∧ DI s m e n

theorem sg_natAbs (s : Bool) (m : Nat) : (sg s m).natAbs = m := by cases s <;> simp [sg]

theorem pow_pos (k : Nat) : (0 : Int) < 2 ^ k := Int.pow_pos (by decide)

/-- The magnitudes alone. -/
theorem DI.abs {s : Bool} {m : Nat} {e n : Int} (h : DI s m e n) : m * 2 ^ e.toNat = n.natAbs * 2 ^ (-e).toNat := by
  have := congrArg Int.natAbs h
  rw [Int.natAbs_mul, Int.natAbs_mul, sg_natAbs, Int.natAbs_pow, Int.natAbs_pow] at this
  simpa using this

theorem DI.mk {s : Bool} {m : Nat} {e n : Int} (hs : s = true → n ≤ 0) (hs' : s = false → 0 ≤ n) (h : m * 2 ^ e.toNat = n.natAbs * 2 ^ (-e).toNat) : DI s m e n := by
  unfold DI sg
  have h' : (m : Int) * 2 ^ e.toNat = (n.natAbs : Int) * 2 ^ (-e).toNat := by exact_mod_cast h
  cases s
  · have := hs' rfl
    rw [show (n.natAbs : Int) = n by omega] at h'
    simpa using h'
  · have := hs rfl
    rw [show (n.natAbs : Int) = -n by omega] at h'
    simp only [if_true]
    rw [Int.neg_mul, h', Int.neg_mul, Int.neg_neg]

theorem DI.sign {s : Bool} {m : Nat} {e n : Int} (h : DI s m e n) : (s = true → n ≤ 0) ∧ (s = false → 0 ≤ n) := by
  unfold DI sg at h
  have p1 := pow_pos e.toNat
  have p2 := pow_pos (-e).toNat
  constructor
  · intro hs
    subst hs
    simp only [if_true] at h
    by_cases hn : n ≤ 0
    · exact hn
    · exfalso
      have h1 : 0 < n * 2 ^ (-e).toNat := Int.mul_pos (by omega) p2
      have h2 : -(m : Int) * 2 ^ e.toNat ≤ 0 := by
        rw [Int.neg_mul]
        have := Int.mul_nonneg (Int.natCast_nonneg m) (Int.le_of_lt p1)
        omega
      omega
  · intro hs
    subst hs
    simp only [Bool.false_eq_true, if_false] at h
    by_cases hn : 0 ≤ n
    · exact hn
    · exfalso
      have h1 : n * 2 ^ (-e).toNat < 0 := Int.mul_neg_of_neg_of_pos (by omega) p2
      have h2 := Int.mul_nonneg (Int.natCast_nonneg m) (Int.le_of_lt p1)
      omega

theorem DI.zero (s : Bool) (e : Int) : DI s 0 e 0 := by
  unfold DI sg
  cases s <;> simp

theorem dbl_binade : Ieee.double.binade = 2 ^ 52 := rfl
theorem dbl_least : Ieee.double.leastPlace = -1074 := by decide
theorem dbl_sign : Ieee.double.signWeight = 2 ^ 63 := rfl
theorem dbl_inf : Ieee.double.infRung = 2047 * 2 ^ 52 := rfl

/-- What a word of a normal number reads as. -/
theorem read_word (s : Bool) (p kept : Nat) (hp : p + 2 ≤ 2047) (h1 : 2 ^ 52 ≤ kept) (h2 : kept < 2 ^ 53) :
    Ieee.double.read (Ieee.double.word s (p * 2 ^ 52 + kept)) = .number s kept (-1074 + p) := by
  have hb : p * 2 ^ 52 + kept < 2 ^ 63 := by omega
  have e1 : Ieee.double.word s (p * 2 ^ 52 + kept) / Ieee.double.signWeight % 2 = if s then 1 else 0 := by
    rw [dbl_sign]
    unfold Format.word
    rw [dbl_sign]
    cases s <;> simp <;> omega
  have e2 : Ieee.double.word s (p * 2 ^ 52 + kept) % Ieee.double.signWeight = p * 2 ^ 52 + kept := by
    rw [dbl_sign]
    unfold Format.word
    rw [dbl_sign]
    cases s <;> simp <;> omega
  unfold Format.read
  simp only [e1, e2, dbl_binade, dbl_inf, dbl_least]
  rw [if_neg (by omega), if_pos (by omega)]
  have e3 : (p * 2 ^ 52 + kept) % 2 ^ 52 = kept - 2 ^ 52 := by omega
  have e4 : (p * 2 ^ 52 + kept) / 2 ^ 52 = p + 1 := by omega
  rw [e3, e4]
  simp only [Datum.number.injEq]
  refine ⟨by cases s <;> rfl, by omega, by omega⟩

theorem read_zero (s : Bool) : Ieee.double.read (Ieee.double.word s 0) = .number s 0 (-1074) := by cases s <;> decide


/-- Nothing is cut off. -/
theorem cut_none (way : Toward) (neg : Bool) (n : Nat) : way.cut neg n 0 = n := by
  unfold Toward.cut
  simp [Nat.mod_one]
  cases way <;> simp

/-- A number that the cut leaves whole. -/
theorem cut_exact (way : Toward) (neg : Bool) (q drop : Nat) : way.cut neg (q * 2 ^ drop) drop = q := by
  unfold Toward.cut
  by_cases hq : q = 0
  · subst hq
    have hz : ∀ g : Nat, (0 : Nat) / g = 0 := Nat.zero_div
    simp
    cases way <;> simp
  · have hlog : drop ≤ (q * 2 ^ drop).log2 := by
      rw [Nat.le_log2 (by have := Nat.two_pow_pos drop; exact Nat.mul_ne_zero hq (by omega))]
      exact Nat.le_mul_of_pos_left _ (by omega)
    rw [show min drop ((q * 2 ^ drop).log2 + 2) = drop by omega, Nat.one_shiftLeft]
    have e1 : q * 2 ^ drop / 2 ^ drop = q := Nat.mul_div_cancel _ (Nat.two_pow_pos _)
    have e2 : q * 2 ^ drop % 2 ^ drop = 0 := Nat.mul_mod_left _ _
    simp only [e1, e2]
    have hp := Nat.two_pow_pos drop
    cases way <;> simp <;> omega


/-- The same number, written with more digits. -/
theorem mag_shift {m A k : Nat} {e : Int} (h : m * 2 ^ e.toNat = A * 2 ^ (-e).toNat) : m * 2 ^ k * 2 ^ (e - k).toNat = A * 2 ^ (-(e - k)).toNat := by
  by_cases h1 : (k : Int) ≤ e
  · obtain ⟨j, rfl⟩ : ∃ j : Nat, e = k + j := ⟨(e - k).toNat, by omega⟩
    rw [show ((k : Int) + j).toNat = k + j by omega, show (-((k : Int) + j)).toNat = 0 by omega] at h
    rw [show ((k : Int) + j - k).toNat = j by omega, show (-((k : Int) + j - k)).toNat = 0 by omega, ← h, Nat.pow_add]
    simp [Nat.mul_assoc]
  · by_cases h2 : 0 ≤ e
    · obtain ⟨j, rfl⟩ : ∃ j : Nat, e = j := ⟨e.toNat, by omega⟩
      obtain ⟨l, rfl⟩ : ∃ l : Nat, k = j + l := ⟨k - j, by omega⟩
      rw [show ((j : Int)).toNat = j by omega, show (-(j : Int)).toNat = 0 by omega] at h
      rw [show ((j : Int) - ((j + l : Nat) : Int)).toNat = 0 by omega, show (-((j : Int) - ((j + l : Nat) : Int))).toNat = l by omega, Nat.pow_add, ← Nat.mul_assoc, h]
      simp
    · obtain ⟨j, rfl⟩ : ∃ j : Nat, e = -(j : Int) := ⟨(-e).toNat, by omega⟩
      rw [show (-(j : Int)).toNat = 0 by omega, show (-(-(j : Int))).toNat = j by omega] at h
      rw [show (-(j : Int) - k).toNat = 0 by omega, show (-(-(j : Int) - k)).toNat = j + k by omega, Nat.pow_add, ← Nat.mul_assoc, ← h]
      simp

/-- The same number, written with fewer digits. -/
theorem mag_unshift {q A k : Nat} {e : Int} (h : q * 2 ^ k * 2 ^ e.toNat = A * 2 ^ (-e).toNat) : q * 2 ^ (e + k).toNat = A * 2 ^ (-(e + k)).toNat := by
  have key := mag_shift (m := q) (A := A) (k := k) (e := e + k)
  -- both sides are decided by the product with a power of two
  have hp : ∀ j : Nat, 0 < 2 ^ j := Nat.two_pow_pos
  by_cases h2 : 0 ≤ e
  · obtain ⟨j, rfl⟩ : ∃ j : Nat, e = j := ⟨e.toNat, by omega⟩
    rw [show ((j : Int)).toNat = j by omega, show (-(j : Int)).toNat = 0 by omega] at h
    rw [show ((j : Int) + k).toNat = k + j by omega, show (-((j : Int) + k)).toNat = 0 by omega, ← h, Nat.pow_add]
    simp [Nat.mul_assoc]
  · obtain ⟨j, rfl⟩ : ∃ j : Nat, e = -(j : Int) := ⟨(-e).toNat, by omega⟩
    rw [show (-(j : Int)).toNat = 0 by omega, show (-(-(j : Int))).toNat = j by omega] at h
    by_cases h1 : j ≤ k
    · obtain ⟨l, rfl⟩ : ∃ l : Nat, k = j + l := ⟨k - j, by omega⟩
      rw [show (-(j : Int) + ((j + l : Nat) : Int)).toNat = l by omega, show (-(-(j : Int) + ((j + l : Nat) : Int))).toNat = 0 by omega]
      rw [Nat.pow_add, Nat.pow_zero, Nat.mul_one] at h
      refine Nat.eq_of_mul_eq_mul_right (hp j) ?_
      rw [Nat.pow_zero, Nat.mul_one, ← h, Nat.mul_assoc, Nat.mul_comm (2 ^ l)]
    · obtain ⟨l, rfl⟩ : ∃ l : Nat, j = k + l := ⟨j - k, by omega⟩
      rw [show (-((k + l : Nat) : Int) + k).toNat = 0 by omega, show (-(-((k + l : Nat) : Int) + k)).toNat = l by omega]
      rw [Nat.pow_add, Nat.pow_zero, Nat.mul_one] at h
      refine Nat.eq_of_mul_eq_mul_right (hp k) ?_
      rw [Nat.pow_zero, Nat.mul_one, h, Nat.mul_assoc, Nat.mul_comm (2 ^ l)]

theorem pow_lt_iff {a b : Nat} : 2 ^ a < 2 ^ b ↔ a < b := Nat.pow_lt_pow_iff_right (by decide)
theorem pow_le_iff {a b : Nat} : 2 ^ a ≤ 2 ^ b ↔ a ≤ b := Nat.pow_le_pow_iff_right (by decide)

/-- **A whole number below 2^53 is written without loss.** -/
theorem write_exact {s : Bool} {m : Nat} {e n : Int} (h : DI s m e n) (hn : n.natAbs < 2 ^ 53) : IsI (Ieee.double.write (.number s m e)) n := by
  have hs := h.sign
  have hm := h.abs
  show IsI (Ieee.double.nearest s m e) n
  unfold Format.nearest
  by_cases h0 : m = 0
  · rw [if_pos h0]
    subst h0
    have hz : n = 0 := by
      have hp := Nat.two_pow_pos (-e).toNat
      simp only [Nat.zero_mul] at hm
      have := (Nat.mul_eq_zero.1 hm.symm).resolve_right (by omega)
      omega
    subst hz
    exact ⟨s, 0, -1074, read_zero s, by omega, DI.zero s _⟩
  · rw [if_neg h0]
    obtain ⟨L, hL⟩ : ∃ L, m.log2 = L := ⟨_, rfl⟩
    have l1 : 2 ^ L ≤ m := by rw [← hL]; exact Nat.log2_self_le h0
    have l2 : m < 2 ^ (L + 1) := by rw [← hL]; exact Nat.lt_log2_self
    obtain ⟨A, hA⟩ : ∃ A, n.natAbs = A := ⟨_, rfl⟩
    rw [hA] at hm hn
    have hA0 : 0 < A := by
      rcases Nat.eq_zero_or_pos A with hz | hz
      · exfalso
        subst hz
        rw [Nat.zero_mul] at hm
        have hp := Nat.two_pow_pos e.toNat
        rcases Nat.mul_eq_zero.1 hm with h | h <;> omega
      · exact hz
    -- the first digit's place lies between 0 and 52
    have hpl : 0 ≤ e + L ∧ e + L ≤ 52 := by
      by_cases he : 0 ≤ e
      · obtain ⟨j, rfl⟩ : ∃ j : Nat, e = j := ⟨e.toNat, by omega⟩
        rw [show ((j : Int)).toNat = j by omega, show (-(j : Int)).toNat = 0 by omega, Nat.pow_zero, Nat.mul_one] at hm
        have : 2 ^ (L + j) ≤ A := by rw [← hm, Nat.pow_add]; exact Nat.mul_le_mul_right _ l1
        have : L + j < 53 := pow_lt_iff.1 (Nat.lt_of_le_of_lt this hn)
        omega
      · obtain ⟨j, rfl⟩ : ∃ j : Nat, e = -(j : Int) := ⟨(-e).toNat, by omega⟩
        rw [show (-(j : Int)).toNat = 0 by omega, show (-(-(j : Int))).toNat = j by omega, Nat.pow_zero, Nat.mul_one] at hm
        have a1 : 2 ^ j ≤ m := by rw [hm]; exact Nat.le_mul_of_pos_left _ hA0
        have : j < L + 1 := pow_lt_iff.1 (Nat.lt_of_le_of_lt a1 l2)
        have a2 : m < 2 ^ (53 + j) := by rw [hm, Nat.pow_add]; exact Nat.mul_lt_mul_of_pos_right hn (Nat.two_pow_pos _)
        have : L < 53 + j := pow_lt_iff.1 (Nat.lt_of_le_of_lt l1 a2)
        omega
    simp only [hL, dbl_least, dbl_binade, dbl_inf]
    rw [show Ieee.double.fractionBits = 52 from rfl]
    rw [show max (e + (L : Int) - ((52 : Nat) : Int)) (-1074) = e + L - 52 by omega]
    obtain ⟨kept, hk, k1, k2, k3⟩ : ∃ kept, Toward.even.cut s (m <<< (e - (e + (L : Int) - 52)).toNat) (e + (L : Int) - 52 - e).toNat = kept ∧ 2 ^ 52 ≤ kept ∧ kept < 2 ^ 53 ∧ kept * 2 ^ (e + (L : Int) - 52).toNat = A * 2 ^ (-(e + (L : Int) - 52)).toNat := by
      by_cases hL52 : L ≤ 52
      · refine ⟨m * 2 ^ (52 - L), ?_, ?_, ?_, ?_⟩
        · rw [show (e - (e + (L : Int) - 52)).toNat = 52 - L by omega, show (e + (L : Int) - 52 - e).toNat = 0 by omega, cut_none, Nat.shiftLeft_eq]
        · rw [show (52 : Nat) = L + (52 - L) by omega, Nat.pow_add]
          rw [show L + (52 - L) - L = 52 - L by omega]
          exact Nat.mul_le_mul_right _ l1
        · rw [show (53 : Nat) = (L + 1) + (52 - L) by omega, Nat.pow_add]
          exact Nat.mul_lt_mul_of_pos_right l2 (Nat.two_pow_pos _)
        · have := mag_shift (k := 52 - L) hm
          rwa [show e - ((52 - L : Nat) : Int) = e + (L : Int) - 52 by omega] at this
      · obtain ⟨j, rfl⟩ : ∃ j : Nat, e = -(j : Int) := ⟨(-e).toNat, by omega⟩
        rw [show (-(j : Int)).toNat = 0 by omega, show (-(-(j : Int))).toNat = j by omega, Nat.pow_zero, Nat.mul_one] at hm
        obtain ⟨c, hc⟩ : ∃ c, L = 52 + c := ⟨L - 52, by omega⟩
        subst hc
        obtain ⟨f, hf⟩ : ∃ f, j = f + c := ⟨j - c, by omega⟩
        subst hf
        rw [Nat.pow_add, ← Nat.mul_assoc] at hm
        obtain ⟨q, hq⟩ : ∃ q, A * 2 ^ f = q := ⟨_, rfl⟩
        rw [hq] at hm
        refine ⟨q, ?_, ?_, ?_, ?_⟩
        · rw [show (-((f + c : Nat) : Int) - (-((f + c : Nat) : Int) + ((52 + c : Nat) : Int) - 52)).toNat = 0 by omega, show (-((f + c : Nat) : Int) + ((52 + c : Nat) : Int) - 52 - -((f + c : Nat) : Int)).toNat = c by omega, Nat.shiftLeft_zero, hm, cut_exact]
        · rw [hm, Nat.pow_add] at l1
          exact Nat.le_of_mul_le_mul_right l1 (Nat.two_pow_pos _)
        · rw [hm, show 52 + c + 1 = 53 + c by omega, Nat.pow_add] at l2
          exact Nat.lt_of_mul_lt_mul_right l2
        · rw [show -((f + c : Nat) : Int) + ((52 + c : Nat) : Int) - 52 = -(f : Int) by omega, show (-(f : Int)).toNat = 0 by omega, show (-(-(f : Int))).toNat = f by omega, hq]
          simp
    rw [hk]
    obtain ⟨p, hp⟩ : ∃ p : Nat, (e + (L : Int) - 52 - -1074).toNat = p := ⟨_, rfl⟩
    have hle : p * 2 ^ 52 + kept ≤ 2047 * 2 ^ 52 := by omega
    rw [hp, Nat.min_eq_left hle]
    refine ⟨s, kept, -1074 + p, read_word s p kept (by omega) k1 k2, k2, ?_⟩
    rw [show (-1074 : Int) + p = e + (L : Int) - 52 by omega]
    exact DI.mk hs.1 hs.2 (by rw [hA]; exact k3)


theorem sg_mul (s t : Bool) (m n : Nat) : sg (s ^^ t) (m * n) = sg s m * sg t n := by
  cases s <;> cases t <;> simp [sg, Int.mul_neg, Int.neg_mul]

theorem signed_eq (s : Bool) (m k : Nat) : signed s m k = sg s (m * 2 ^ k) := by
  unfold signed sg
  rw [Nat.shiftLeft_eq]

theorem cancel_pow {X Y : Int} {p q c : Nat} (h : X * 2 ^ (p + c) = Y * 2 ^ (q + c)) : X * 2 ^ p = Y * 2 ^ q := by
  rw [Int.pow_add, Int.pow_add, ← Int.mul_assoc, ← Int.mul_assoc] at h
  exact Int.eq_of_mul_eq_mul_right (by have := pow_pos c; omega) h

/-- The number at a place that is not above its own. -/
theorem DI.at {s : Bool} {m : Nat} {e n base : Int} (h : DI s m e n) (hb : base ≤ e) : signed s m (e - base).toNat * 2 ^ base.toNat = n * 2 ^ (-base).toNat := by
  have h1 := mag_shift (k := (e - base).toNat) h.abs
  rw [show e - ((e - base).toNat : Int) = base by omega] at h1
  have h2 : DI s (m * 2 ^ (e - base).toNat) base n := DI.mk h.sign.1 h.sign.2 h1
  rw [signed_eq]
  exact h2

/-- A signed number, taken apart. -/
theorem sg_of (s0 : Bool) (t : Int) : sg (if t = 0 then s0 else decide (t < 0)) t.natAbs = t := by
  by_cases h : t = 0
  · subst h
    cases s0 <;> simp [sg]
  · rw [if_neg h]
    by_cases h1 : t < 0 <;> simp [sg, h1] <;> omega

theorem sum_DI {s t : Bool} {m n : Nat} {i j a b : Int} (h1 : DI s m i a) (h2 : DI t n j b) :
    ∃ s' m' e', Datum.sum (.number s m i) (.number t n j) = some (.number s' m' e') ∧ DI s' m' e' (a + b) := by
  refine ⟨_, _, _, rfl, ?_⟩
  have k1 := h1.at (base := min i j) (by omega)
  have k2 := h2.at (base := min i j) (by omega)
  unfold DI
  rw [sg_of, Int.add_mul, Int.add_mul, k1, k2]

theorem product_DI {s t : Bool} {m n : Nat} {i j a b : Int} (h1 : DI s m i a) (h2 : DI t n j b) :
    ∃ s' m' e', Datum.product (.number s m i) (.number t n j) = some (.number s' m' e') ∧ DI s' m' e' (a * b) := by
  refine ⟨_, _, _, rfl, ?_⟩
  unfold DI at *
  rw [sg_mul]
  refine cancel_pow (c := i.toNat + j.toNat - (i + j).toNat) ?_
  rw [show (i + j).toNat + (i.toNat + j.toNat - (i + j).toNat) = i.toNat + j.toNat by omega, show (-(i + j)).toNat + (i.toNat + j.toNat - (i + j).toNat) = (-i).toNat + (-j).toNat by omega, Int.pow_add, Int.pow_add]
  calc sg s m * sg t n * (2 ^ i.toNat * 2 ^ j.toNat) = (sg s m * 2 ^ i.toNat) * (sg t n * 2 ^ j.toNat) := by ac_rfl
    _ = (a * 2 ^ (-i).toNat) * (b * 2 ^ (-j).toNat) := by rw [h1, h2]
    _ = a * b * (2 ^ (-i).toNat * 2 ^ (-j).toNat) := by ac_rfl

theorem DI.opp {s : Bool} {m : Nat} {e n : Int} (h : DI s m e n) : DI (!s) m e (-n) := by
  unfold DI at *
  rw [show sg (!s) m = -sg s m by cases s <;> simp [sg], Int.neg_mul, h, Int.neg_mul]

theorem compare_DI {s t : Bool} {m n : Nat} {i j a b : Int} (h1 : DI s m i a) (h2 : DI t n j b) :
    Datum.order (.number s m i) (.number t n j) = some (compare a b) := by
  have k1 := h1.at (base := min i j) (by omega)
  have k2 := h2.at (base := min i j) (by omega)
  show some (compare _ _) = _
  obtain ⟨X, hX⟩ : ∃ X, signed s m (i - min i j).toNat = X := ⟨_, rfl⟩
  obtain ⟨Y, hY⟩ : ∃ Y, signed t n (j - min i j).toNat = Y := ⟨_, rfl⟩
  rw [hX] at k1
  rw [hY] at k2
  rw [hX, hY]
  have p1 := pow_pos (min i j).toNat
  have p2 := pow_pos (-(min i j)).toNat
  have hlt : X < Y ↔ a < b := by
    rw [← Int.mul_lt_mul_right p1, k1, k2, Int.mul_lt_mul_right p2]
  have heq : X = Y ↔ a = b := by
    constructor
    · intro h
      rw [h, k2] at k1
      exact (Int.eq_of_mul_eq_mul_right (by omega) k1).symm
    · intro h
      rw [h, ← k2] at k1
      exact Int.eq_of_mul_eq_mul_right (by omega) k1
  congr 1
  simp only [compare, compareOfLessAndEq]
  simp only [hlt, heq]

theorem toInt_DI {s : Bool} {m : Nat} {e n : Int} (h : DI s m e n) : Datum.toInt .zero (.number s m e) = some n := by
  have hcut : Toward.zero.cut s (m <<< e.toNat) (-e).toNat = n.natAbs := by
    rw [Nat.shiftLeft_eq, h.abs, cut_exact]
  show some (signed s (Toward.zero.cut s (m <<< e.toNat) (-e).toNat) 0) = _
  rw [hcut, signed_eq]
  congr 1
  have := h.sign
  cases s
  · have := this.2 rfl
    simp [sg]
    omega
  · have := this.1 rfl
    simp [sg]
    omega


/-- A datum that stands for one or for minus one is a power of two. -/
theorem unit_pow {t : Bool} {n : Nat} {j u : Int} (h : DI t n j u) (hu : u = 1 ∨ u = -1) : ∃ d : Nat, j = -(d : Int) ∧ n = 2 ^ d := by
  have hm := h.abs
  rw [show u.natAbs = 1 by omega, Nat.one_mul] at hm
  by_cases hj : 0 < j
  · exfalso
    obtain ⟨k, rfl⟩ : ∃ k : Nat, j = k + 1 := ⟨(j - 1).toNat, by omega⟩
    rw [show ((k : Int) + 1).toNat = k + 1 by omega, show (-((k : Int) + 1)).toNat = 0 by omega, Nat.pow_zero, Nat.pow_succ, ← Nat.mul_assoc] at hm
    omega
  · refine ⟨(-j).toNat, by omega, ?_⟩
    rw [show j.toNat = 0 by omega] at hm
    simpa using hm

theorem quotient_DI {s t : Bool} {m n : Nat} {i j a u : Int} (h1 : DI s m i a) (hm : m < 2 ^ 53) (h2 : DI t n j u) (hu : u = 1 ∨ u = -1) :
    ∃ s' m' e', Datum.quotient 54 (.number s m i) (.number t n j) = some (.number s' m' e') ∧ DI s' m' e' (a * u) := by
  obtain ⟨d, rfl, rfl⟩ := unit_pow h2 hu
  have hn : (2 : Nat) ^ d ≠ 0 := by have := Nat.two_pow_pos d; omega
  have hlog : m.log2 ≤ 53 := by
    by_cases h0 : m = 0
    · subst h0; decide
    · have : 2 ^ m.log2 ≤ m := Nat.log2_self_le h0
      have := pow_lt_iff.1 (Nat.lt_of_le_of_lt this hm)
      omega
  have hd2 : ((2 : Nat) ^ d).log2 = d := Nat.log2_two_pow
  obtain ⟨more, hmore⟩ : ∃ more, 54 + d - m.log2 = more := ⟨_, rfl⟩
  obtain ⟨c, hc⟩ : ∃ c, more = d + c := ⟨more - d, by omega⟩
  refine ⟨s ^^ t, 2 * (m * 2 ^ c), i - -(d : Int) - more - 1, ?_, ?_⟩
  · unfold Datum.quotient
    simp only [hd2, hmore]
    rw [if_neg hn]
    have e0 : m <<< more = m * 2 ^ c * 2 ^ d := by rw [Nat.shiftLeft_eq, hc, Nat.add_comm, Nat.pow_add, Nat.mul_assoc]
    have e1 : m <<< more / 2 ^ d = m * 2 ^ c := by rw [e0]; exact Nat.mul_div_cancel _ (Nat.two_pow_pos _)
    have e2 : m <<< more % 2 ^ d = 0 := by rw [e0]; exact Nat.mul_mod_left _ _
    simp [e1, e2]
  · have hs : DI (s ^^ t) m i (a * u) := by
      have htu : sg t 1 = u := by
        have := h2.sign
        cases t
        · have := this.2 rfl; simp [sg]; omega
        · have := this.1 rfl; simp [sg]; omega
      unfold DI at *
      rw [show m = m * 1 by omega, sg_mul, htu]
      calc sg s m * u * 2 ^ i.toNat = (sg s m * 2 ^ i.toNat) * u := by ac_rfl
        _ = a * 2 ^ (-i).toNat * u := by rw [h1]
        _ = a * u * 2 ^ (-i).toNat := by ac_rfl
    have k := mag_shift (k := c + 1) hs.abs
    rw [show i - ((c + 1 : Nat) : Int) = i - -(d : Int) - more - 1 by omega] at k
    refine DI.mk hs.sign.1 hs.sign.2 ?_
    rw [← k, Nat.pow_succ, show 2 * (m * 2 ^ c) = m * (2 ^ c * 2) by ac_rfl]

section words
variable {x y : Nat} {a b : Int}

theorem IsI.add (h1 : IsI x a) (h2 : IsI y b) (hb : (a + b).natAbs < 2 ^ 53) : ∃ r, floatBits .add .f64 x y = some r ∧ IsI r (a + b) := by
  obtain ⟨s, m, e, hr, _, hd⟩ := h1
  obtain ⟨t, n, f, hr', _, hd'⟩ := h2
  obtain ⟨s', m', e', hs, hD⟩ := sum_DI hd hd'
  refine ⟨_, ?_, write_exact hD hb⟩
  show Ieee.double.add x y = _
  unfold Format.add
  rw [hr, hr', hs]
  rfl

theorem IsI.sub (h1 : IsI x a) (h2 : IsI y b) (hb : (a - b).natAbs < 2 ^ 53) : ∃ r, floatBits .sub .f64 x y = some r ∧ IsI r (a - b) := by
  obtain ⟨s, m, e, hr, _, hd⟩ := h1
  obtain ⟨t, n, f, hr', _, hd'⟩ := h2
  obtain ⟨s', m', e', hs, hD⟩ := sum_DI hd hd'.opp
  rw [← Int.sub_eq_add_neg] at hD
  refine ⟨_, ?_, write_exact hD hb⟩
  show Ieee.double.sub x y = _
  unfold Format.sub
  rw [hr, hr']
  show Option.map _ (Datum.sum _ (.number (!t) n f)) = _
  rw [hs]
  rfl

theorem IsI.mul (h1 : IsI x a) (h2 : IsI y b) (hb : (a * b).natAbs < 2 ^ 53) : ∃ r, floatBits .mul .f64 x y = some r ∧ IsI r (a * b) := by
  obtain ⟨s, m, e, hr, _, hd⟩ := h1
  obtain ⟨t, n, f, hr', _, hd'⟩ := h2
  obtain ⟨s', m', e', hs, hD⟩ := product_DI hd hd'
  refine ⟨_, ?_, write_exact hD hb⟩
  show Ieee.double.mul x y = _
  unfold Format.mul
  rw [hr, hr', hs]
  rfl

theorem IsI.quo (h1 : IsI x a) (h2 : IsI y b) (hu : b = 1 ∨ b = -1) (hb : a.natAbs < 2 ^ 53) : ∃ r, floatBits .quo .f64 x y = some r ∧ IsI r (a * b) := by
  obtain ⟨s, m, e, hr, hm, hd⟩ := h1
  obtain ⟨t, n, f, hr', _, hd'⟩ := h2
  obtain ⟨s', m', e', hs, hD⟩ := quotient_DI hd hm hd' hu
  refine ⟨_, ?_, write_exact hD (by rcases hu with rfl | rfl <;> omega)⟩
  show Ieee.double.div x y = _
  unfold Format.div
  rw [hr, hr']
  show Option.map _ (Datum.quotient 54 _ _) = _
  rw [hs]
  rfl

theorem IsI.order (h1 : IsI x a) (h2 : IsI y b) : FloatKind.f64.format.order x y = some (compare a b) := by
  obtain ⟨s, m, e, hr, _, hd⟩ := h1
  obtain ⟨t, n, f, hr', _, hd'⟩ := h2
  show Datum.order (Ieee.double.read x) (Ieee.double.read y) = _
  rw [hr, hr', compare_DI hd hd']

theorem IsI.toInt (h1 : IsI x a) (hb : -9223372036854775808 ≤ a ∧ a ≤ 9223372036854775807) : floatToIntVal .f64 x .i64 = some a := by
  obtain ⟨s, m, e, hr, _, hd⟩ := h1
  unfold floatToIntVal
  rw [show FloatKind.f64.decode x = .number s m e from hr, toInt_DI hd]
  have hk : IntKind.i64.min ≤ a ∧ a ≤ IntKind.i64.max := hb
  exact if_pos hk

theorem isI_of (n : Int) (hn : n.natAbs < 2 ^ 53) : IsI (FloatKind.f64.nearest n) n := by
  refine write_exact (DI.mk ?_ ?_ (by simp)) hn
  · intro h; have := of_decide_eq_true h; omega
  · intro h; have := of_decide_eq_false h; omega

theorem IsI.nan (h1 : IsI x a) : Op.Complex.isNaN x = false := by
  obtain ⟨s, m, e, hr, _, _⟩ := h1
  show (Ieee.double.read x).isNaN = false
  rw [hr]
  rfl

theorem IsI.abs (h1 : IsI x a) : IsI (Op.Complex.abs x) (a.natAbs : Int) := by
  obtain ⟨s, m, e, hr, hm, hd⟩ := h1
  have key : ∀ (s : Bool) (m : Nat) (e : Int), Ieee.double.read x = .number s m e → Ieee.double.read (Op.Complex.abs x) = .number false m e := by
    intro s m e hr
    unfold Format.read at hr ⊢
    have e1 : Op.Complex.abs x % Ieee.double.signWeight = x % Ieee.double.signWeight := by
      rw [dbl_sign]; unfold Op.Complex.abs; omega
    have e2 : Op.Complex.abs x / Ieee.double.signWeight % 2 = 0 := by
      rw [dbl_sign]; unfold Op.Complex.abs; omega
    simp only [e1, e2]
    simp only at hr
    split at hr
    · rename_i h
      rw [if_pos h]
      simp only [Datum.number.injEq] at hr ⊢
      exact ⟨rfl, hr.2.1, hr.2.2⟩
    · rename_i h
      rw [if_neg h]
      split at hr
      · rename_i h'
        rw [if_pos h']
        simp only [Datum.number.injEq] at hr ⊢
        exact ⟨rfl, hr.2.1, hr.2.2⟩
      · split at hr <;> cases hr
  refine ⟨false, m, e, key s m e hr, hm, DI.mk (by simp) (by omega) ?_⟩
  rw [Int.natAbs_natCast]
  exact hd.abs
end words

theorem isI_zero : IsI 0 0 := ⟨false, 0, -1074, by decide, by omega, DI.zero _ _⟩
theorem isI_one : IsI 4607182418800017408 1 := isI_of 1 (by decide)
theorem isI_neg : IsI 13830554455654793216 (-1) := by
  have h := isI_of (-1) (by decide)
  rwa [show FloatKind.f64.nearest (-1) = 13830554455654793216 by decide] at h

end Go.Proofs.Ytafdbibjcohdbaa
