/-
  Matches, plainly: the longest and nearest of all distances; by pairs first; the document's functions in these words.
-/
import Derived.Test.YtfefbelglohfdaaO
namespace Go.Proofs.Ytfefbelglohfdaa
open Go.Proofs.YtfefbelglohfdaaW.PrintWords

/-- How long the piece at i stands at j too, at most so long. -/
def rn (L : List Int) : Nat → Nat → Nat → Nat
  | 0, _, _ => 0
  | m + 1, i, j => if i < L.length ∧ rd L (i : Int) = rd L (j : Int) then rn L m (i + 1) (j + 1) + 1 else 0
def rI (L : List Int) (most : Int) (a d : Nat) : Int := (rn L most.toNat a (a - d) : Int)

theorem rI_nonneg (L : List Int) (most : Int) (a d : Nat) : 0 ≤ rI L most a d := Int.natCast_nonneg _

def stp (L : List Int) (most : Int) (a : Nat) (s : Int × Int) (d : Nat) : Int × Int := if s.1 < rI L most a d then (rI L most a d, (d : Int)) else s
def full (L : List Int) (most : Int) (a : Nat) : Nat → Int × Int
  | 0 => (0, 0)
  | d + 1 => stp L most a (full L most a d) (d + 1)
def pm (L : List Int) (a d : Nat) : Prop := rd L ((a - d : Nat) : Int) = rd L (a : Int) ∧ rd L (((a - d : Nat) : Int) + 1) = rd L ((a : Int) + 1)
open Classical in
noncomputable def cand (L : List Int) (most : Int) (a : Nat) : Nat → Int × Int
  | 0 => (0, 0)
  | d + 1 => if pm L a (d + 1) then stp L most a (cand L most a d) (d + 1) else cand L most a d

theorem rn_two {L : List Int} {m i j : Nat} (h0 : i + 1 < L.length) (h1 : rd L (i : Int) = rd L (j : Int)) (h2 : rd L ((i : Int) + 1) = rd L ((j : Int) + 1)) : 2 ≤ rn L (m + 2) i j := by
  unfold rn
  rw [if_pos ⟨by omega, h1⟩]
  unfold rn
  rw [if_pos ⟨h0, by simpa using h2⟩]
  omega
theorem rn_one {L : List Int} {m i j : Nat} (h : ¬ (rd L (i : Int) = rd L (j : Int) ∧ rd L ((i : Int) + 1) = rd L ((j : Int) + 1)) ∨ L.length ≤ i + 1 ∨ m ≤ 1) : rn L m i j ≤ 1 := by
  cases m with
  | zero => simp [rn]
  | succ m =>
    unfold rn
    split
    · rename_i h1
      cases m with
      | zero => simp [rn]
      | succ m =>
        unfold rn
        rw [if_neg]
        · simp
        · rintro ⟨h2, h3⟩
          rcases h with h | h | h
          · exact h ⟨h1.2, by simpa using h3⟩
          · omega
          · omega
    · simp
theorem rn_zero {L : List Int} {m i j : Nat} (h : L.length ≤ i) : rn L m i j = 0 := by
  cases m with
  | zero => rfl
  | succ m =>
    unfold rn
    rw [if_neg (by omega)]

theorem stp_eq (L : List Int) (most : Int) (a : Nat) (s : Int × Int) (d : Nat) : stp L most a s d = if s.1 < rI L most a d then (rI L most a d, (d : Int)) else s := rfl

theorem full_nonneg (L : List Int) (most : Int) (a : Nat) : ∀ t, 0 ≤ (full L most a t).1
  | 0 => Int.le_refl _
  | t + 1 => by
    have := full_nonneg L most a t
    show 0 ≤ (stp L most a (full L most a t) (t + 1)).1
    rw [stp_eq]
    split
    · exact rI_nonneg _ _ _ _
    · exact this

/-- Pairs first. -/
theorem cand_full {L : List Int} {most : Int} {a : Nat} (hm : 1 < most) (ha : a + 1 < L.length) : ∀ t, (2 ≤ (cand L most a t).1 ∧ cand L most a t = full L most a t) ∨ (cand L most a t = (0, 0) ∧ (full L most a t).1 ≤ 1)
  | 0 => Or.inr ⟨rfl, by show (0 : Int) ≤ 1; omega⟩
  | t + 1 => by
    have ih := cand_full hm ha t
    obtain ⟨m, hm'⟩ : ∃ m, most.toNat = m + 2 := ⟨most.toNat - 2, by omega⟩
    have ef : full L most a (t + 1) = stp L most a (full L most a t) (t + 1) := rfl
    by_cases hp : pm L a (t + 1)
    · have ec : cand L most a (t + 1) = stp L most a (cand L most a t) (t + 1) := by simp only [cand]; rw [if_pos hp]
      have h2 : 2 ≤ rI L most a (t + 1) := by
        have := rn_two (m := m) (j := a - (t + 1)) ha hp.1.symm hp.2.symm
        rw [← hm'] at this
        unfold rI
        omega
      rw [ec, ef]
      rcases ih with ⟨h3, h4⟩ | ⟨h3, h4⟩
      · rw [h4]
        left
        refine ⟨?_, rfl⟩
        rw [h4] at h3
        rw [stp_eq]
        split
        · exact h2
        · exact h3
      · left
        rw [h3, stp_eq, stp_eq, if_pos (by show (0 : Int) < _; omega), if_pos (by omega)]
        exact ⟨h2, rfl⟩
    · have ec : cand L most a (t + 1) = cand L most a t := by simp only [cand]; rw [if_neg hp]
      have h2 : rI L most a (t + 1) ≤ 1 := by
        have := rn_one (L := L) (m := most.toNat) (i := a) (j := a - (t + 1)) (Or.inl fun h => hp ⟨h.1.symm, h.2.symm⟩)
        unfold rI
        omega
      rw [ec, ef]
      rcases ih with ⟨h3, h4⟩ | ⟨h3, h4⟩
      · left
        refine ⟨h3, ?_⟩
        rw [h4] at h3 ⊢
        rw [stp_eq, if_neg (by omega)]
      · right
        refine ⟨h3, ?_⟩
        rw [stp_eq]
        split
        · exact h2
        · exact h4
theorem full_small {L : List Int} {most : Int} {a : Nat} (h : ¬ (1 < most ∧ a + 1 < L.length)) : ∀ t, (full L most a t).1 ≤ 1
  | 0 => by show (0 : Int) ≤ 1; omega
  | t + 1 => by
    show (stp L most a (full L most a t) (t + 1)).1 ≤ 1
    rw [stp_eq]
    split
    · have := rn_one (L := L) (m := most.toNat) (i := a) (j := a - (t + 1)) (by
        by_cases h1 : 1 < most
        · exact Or.inr (Or.inl (by have := fun h2 => h ⟨h1, h2⟩; omega))
        · exact Or.inr (Or.inr (by omega)))
      unfold rI
      show ((rn L most.toNat a (a - (t + 1)) : Nat) : Int) ≤ 1
      omega
    · exact full_small h t
theorem full_none {L : List Int} {most : Int} {a : Nat} (h : L.length ≤ a) : ∀ t, full L most a t = (0, 0)
  | 0 => rfl
  | t + 1 => by
    show stp L most a (full L most a t) (t + 1) = (0, 0)
    rw [full_none h t, stp_eq, if_neg]
    unfold rI
    rw [rn_zero h]
    simp
/-- From one distance on nothing longer. -/
theorem full_stays {L : List Int} {most : Int} {a t : Nat} : ∀ j, (full L most a t).1 ≤ (full L most a (t + j)).1 ∧ ((full L most a (t + j)).1 = (full L most a t).1 → full L most a (t + j) = full L most a t)
  | 0 => ⟨Int.le_refl _, fun _ => rfl⟩
  | j + 1 => by
    obtain ⟨h1, h2⟩ := full_stays (L := L) (most := most) (a := a) (t := t) j
    have e : full L most a (t + (j + 1)) = stp L most a (full L most a (t + j)) (t + j + 1) := rfl
    rw [e, stp_eq]
    split
    · rename_i h3
      refine ⟨by show _ ≤ rI L most a (t + j + 1); omega, fun h4 => ?_⟩
      have h4' : rI L most a (t + j + 1) = (full L most a t).1 := h4
      omega
    · exact ⟨h1, h2⟩
theorem full_first {L : List Int} {most : Int} {a t D : Nat} (h1 : (full L most a D).1 ≤ 1) (h2 : 0 < (full L most a t).1) (ht : t ≤ D) : full L most a D = full L most a t := by
  obtain ⟨j, rfl⟩ : ∃ j, D = t + j := ⟨D - t, by omega⟩
  obtain ⟨h3, h4⟩ := full_stays (L := L) (most := most) (a := a) (t := t) j
  exact h4 (by omega)

/-! ### the places, nearest first -/
theorem mem_plc {L : List Int} {u : Nat} {key : Value} {z : Int} : z ∈ plc L u key ↔ ∃ p : Nat, p < u ∧ z = (p : Int) ∧ key = pairV (rd L (p : Int)) (rd L ((p : Int) + 1)) := by
  simp only [plc, List.mem_map, List.mem_filter, List.mem_range, decide_eq_true_eq]
  constructor
  · rintro ⟨p, ⟨h1, h2⟩, rfl⟩; exact ⟨p, h1, rfl, h2⟩
  · rintro ⟨p, h1, rfl, h2⟩; exact ⟨p, ⟨h1, h2⟩, rfl⟩
theorem plc_sorted (L : List Int) (u : Nat) (key : Value) : (plc L u key).Pairwise (· < ·) := by
  unfold plc
  rw [List.pairwise_map]
  exact (List.Pairwise.filter _ (List.pairwise_lt_range)).imp (fun h => by omega)

/-- Behind the places from j on. -/
def Inv (L : List Int) (most : Int) (a : Nat) (window : Int) (zs : List Int) (j : Nat) (s : Int × Int) : Prop :=
  ∃ t : Nat, t ≤ a ∧ (t : Int) ≤ window ∧ s = cand L most a t ∧ (∀ q z, q < j → zs[q]? = some z → (t : Int) < a - z) ∧ ∀ d : Nat, t < d → d ≤ a → pm L a d → ∃ q, q < j ∧ zs[q]? = some ((a : Int) - d)

variable {L : List Int} {most window : Int} {a : Nat}
theorem pair_iff {p : Nat} (hp : p ≤ a) : pairV (rd L (a : Int)) (rd L ((a : Int) + 1)) = pairV (rd L (p : Int)) (rd L ((p : Int) + 1)) ↔ pm L a (a - p) := by
  unfold pm
  rw [show a - (a - p) = p by omega]
  simp only [pairV, Value.agg.injEq]
  constructor
  · intro h
    simp at h
    exact ⟨h.1.symm, h.2.symm⟩
  · rintro ⟨h1, h2⟩
    rw [h1, h2]
theorem inv_start (hw : 0 ≤ window) : Inv L most a window (plc L a (pairV (rd L (a : Int)) (rd L ((a : Int) + 1)))) (plc L a (pairV (rd L (a : Int)) (rd L ((a : Int) + 1)))).length (0, 0) := by
  refine ⟨0, Nat.zero_le _, hw, rfl, fun q z _ hz => ?_, fun d h1 h2 h3 => ?_⟩
  · obtain ⟨p, hp, rfl, _⟩ := mem_plc.1 (List.mem_of_getElem? hz)
    omega
  · have hm : ((a : Int) - d) ∈ plc L a (pairV (rd L (a : Int)) (rd L ((a : Int) + 1))) := mem_plc.2 ⟨a - d, by omega, by omega, (pair_iff (by omega)).2 (by rw [show a - (a - d) = d by omega]; exact h3)⟩
    obtain ⟨q, hq⟩ := List.mem_iff_getElem?.1 hm
    exact ⟨q, (List.getElem?_eq_some_iff.1 hq).1, hq⟩
theorem cand_same {t d : Nat} (h : ∀ e, t < e → e ≤ d → ¬ pm L a e) (ht : t ≤ d) : cand L most a d = cand L most a t := by
  induction d with
  | zero => rw [show t = 0 by omega]
  | succ d ih =>
    by_cases e : t = d + 1
    · rw [e]
    · rw [← ih (fun e h1 h2 => h e h1 (by omega)) (by omega)]
      simp only [cand]
      rw [if_neg (h (d + 1) (by omega) (Nat.le_refl _))]
theorem inv_step {j : Nat} {z : Int} {s : Int × Int} (h : Inv L most a window (plc L a (pairV (rd L (a : Int)) (rd L ((a : Int) + 1)))) (j + 1) s) (hz : (plc L a (pairV (rd L (a : Int)) (rd L ((a : Int) + 1))))[j]? = some z) (hw : (a : Int) - z ≤ window) :
    ∃ p : Nat, z = (p : Int) ∧ p < a ∧ Inv L most a window (plc L a (pairV (rd L (a : Int)) (rd L ((a : Int) + 1)))) j (if s.1 < rI L most a (a - p) then rI L most a (a - p) else s.1, if s.1 < rI L most a (a - p) then (a : Int) - p else s.2) := by
  obtain ⟨p, hp, rfl, hk⟩ := mem_plc.1 (List.mem_of_getElem? hz)
  obtain ⟨t, h1, h2, rfl, h3, h4⟩ := h
  have hpm := (pair_iff (Nat.le_of_lt hp)).1 hk
  have hlt := h3 j _ (Nat.lt_succ_self j) hz
  have hs := plc_sorted L a (pairV (rd L (a : Int)) (rd L ((a : Int) + 1)))
  have mono : ∀ q z, q < j → (plc L a (pairV (rd L (a : Int)) (rd L ((a : Int) + 1))))[q]? = some z → z < (p : Int) := fun q z hq hz' => by
    obtain ⟨b1, e1⟩ := List.getElem?_eq_some_iff.1 hz'
    obtain ⟨b2, e2⟩ := List.getElem?_eq_some_iff.1 hz
    have := List.pairwise_iff_getElem.1 hs q j b1 b2 hq
    rw [e1, e2] at this
    exact this
  refine ⟨p, rfl, hp, a - p, by omega, by omega, ?_, fun q z hq hz' => ?_, fun d h5 h6 h7 => ?_⟩
  · have hsame : cand L most a (a - p - 1) = cand L most a t := cand_same (fun e h5 h6 h7 => by
      obtain ⟨q, hq, hz'⟩ := h4 e h5 (by omega) h7
      rcases Nat.lt_succ_iff_lt_or_eq.1 hq with hq' | rfl
      · have := mono q _ hq' hz'
        omega
      · rw [hz] at hz'
        have := Option.some.inj hz'
        omega) (by omega)
    obtain ⟨d, hd⟩ : ∃ d, a - p = d + 1 := ⟨a - p - 1, by omega⟩
    rw [hd] at hpm hsame ⊢
    rw [show d + 1 - 1 = d by omega] at hsame
    have ec : cand L most a (d + 1) = stp L most a (cand L most a d) (d + 1) := by simp only [cand]; rw [if_pos hpm]
    rw [ec, hsame, stp_eq]
    have e2 : (a : Int) - p = ((d + 1 : Nat) : Int) := by omega
    split
    · rw [e2]
    · rfl
  · have := mono q z hq hz'
    omega
  · obtain ⟨q, hq, hz'⟩ := h4 d (by omega) h6 h7
    rcases Nat.lt_succ_iff_lt_or_eq.1 hq with hq' | rfl
    · exact ⟨q, hq', hz'⟩
    · rw [hz] at hz'
      have := Option.some.inj hz'
      omega
theorem inv_end {j : Nat} {s : Int × Int} (h : Inv L most a window (plc L a (pairV (rd L (a : Int)) (rd L ((a : Int) + 1)))) j s) (he : j = 0 ∨ ∃ i z, j = i + 1 ∧ (plc L a (pairV (rd L (a : Int)) (rd L ((a : Int) + 1))))[i]? = some z ∧ window < (a : Int) - z) :
    s = cand L most a (min a window.toNat) := by
  obtain ⟨t, h1, h2, rfl, h3, h4⟩ := h
  refine (cand_same (fun e h5 h6 h7 => ?_) (by omega)).symm
  obtain ⟨q, hq, hz'⟩ := h4 e h5 (by omega) h7
  rcases he with rfl | ⟨i, z, rfl, hz, hw⟩
  · omega
  · have hs := plc_sorted L a (pairV (rd L (a : Int)) (rd L ((a : Int) + 1)))
    obtain ⟨b1, e1⟩ := List.getElem?_eq_some_iff.1 hz'
    obtain ⟨b2, e2⟩ := List.getElem?_eq_some_iff.1 hz
    have : (a : Int) - e ≤ z := by
      rcases Nat.lt_succ_iff_lt_or_eq.1 hq with hq' | rfl
      · have := List.pairwise_iff_getElem.1 hs q i b1 b2 hq'
        rw [e1, e2] at this
        omega
      · rw [hz] at hz'
        have := Option.some.inj hz'
        omega
    omega

end Go.Proofs.Ytfefbelglohfdaa
