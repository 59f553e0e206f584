/-
  A picture has each letter as often as the list of letters; the picture of 1, 3, 2.
-/
import Derived.Test.YtafdbibjcohdbaaQ
namespace Go.Proofs.Ytafdbibjcohdbaa

/-- How often the c-th letter. -/
def cnt1 (B : List UInt8) (c : Nat) : Nat := B.count (97 + c).toUInt8
def cntA (B : List UInt8) : Array Value := ((List.range 26).map fun c => Value.int .i64 (cnt1 B c)).toArray
theorem cntA_size (B : List UInt8) : (cntA B).size = 26 := by simp [cntA]
theorem cntA_at (B : List UInt8) {c : Nat} (h : c < 26) : (cntA B)[c]? = some (.int .i64 (cnt1 B c)) := by simp [cntA, h]
theorem cnt1_le (B : List UInt8) (c : Nat) : cnt1 B c ≤ B.length := List.count_le_length

theorem letter_ne {c d : Nat} (hc : c < 26) (hd : d < 26) (h : c ≠ d) : ((97 + c).toUInt8 == (97 + d).toUInt8) = false := by
  rw [beq_eq_false_iff_ne]
  intro e
  have : (97 + c).toUInt8.toNat = (97 + d).toUInt8.toNat := by rw [e]
  have e1 : (97 + c).toUInt8.toNat = (97 + c) % 256 := rfl
  have e2 : (97 + d).toUInt8.toNat = (97 + d) % 256 := rfl
  omega

theorem cntA_ext {A : Array Value} {B : List UInt8} (hs : A.size = 26) (h : ∀ c, c < 26 → A[c]? = some (.int .i64 (cnt1 B c))) : A = cntA B := by
  apply Array.ext_getElem?
  intro i
  by_cases hi : i < 26
  · rw [h i hi, cntA_at B hi]
  · rw [Array.getElem?_eq_none (by omega), Array.getElem?_eq_none (by rw [cntA_size]; omega)]

theorem cntA_rep (B : List UInt8) {c : Nat} (hc : c < 26) (m : Nat) : (cntA B).setIfInBounds c (.int .i64 ((cnt1 B c : Int) + m)) = cntA (B ++ List.replicate m (97 + c).toUInt8) := by
  refine cntA_ext (by simp [cntA_size]) fun d hd => ?_
  rw [Array.getElem?_setIfInBounds]
  by_cases e : c = d
  · subst e
    rw [if_pos rfl, if_pos (by rw [cntA_size]; exact hc)]
    simp [cnt1, List.count_append]
  · rw [if_neg e, cntA_at B hd]
    have : List.count (97 + d).toUInt8 (List.replicate m (97 + c).toUInt8) = 0 := by
      rw [List.count_replicate, letter_ne hc hd e]
      rfl
    simp only [cnt1, List.count_append, this, Nat.add_zero]

theorem cntA_one (B : List UInt8) {c : Nat} (hc : c < 26) : (cntA B).setIfInBounds c (.int .i64 ((cnt1 B c : Int) + 1)) = cntA (B ++ [(97 + c).toUInt8]) := cntA_rep B hc 1

theorem letter_not {c : Nat} (hc : c < 26) : (97 + c).toUInt8 ≠ 46 ∧ (97 + c).toUInt8 ≠ 10 := by
  have e1 : (97 + c).toUInt8.toNat = (97 + c) % 256 := rfl
  constructor
  · intro e
    rw [e] at e1
    have : (46 : UInt8).toNat = 46 := rfl
    omega
  · intro e
    rw [e] at e1
    have : (10 : UInt8).toNat = 10 := rfl
    omega

theorem cntA_other (B : List UInt8) {u : UInt8} (hu : u = 46 ∨ u = 10) : cntA (B ++ [u]) = cntA B := by
  refine cntA_ext (by rw [cntA_size]) fun d hd => ?_
  rw [cntA_at _ hd]
  obtain ⟨n1, n2⟩ := letter_not hd
  have : List.count (97 + d).toUInt8 [u] = 0 := by
    rw [List.count_eq_zero]
    intro hm
    rw [List.mem_singleton] at hm
    rcases hu with rfl | rfl
    · exact n1 hm
    · exact n2 hm
  simp only [cnt1, List.count_append, this, Nat.add_zero]

theorem cntA_nil : cntA [] = (List.replicate 26 (Value.int .i64 0)).toArray := by rfl

theorem base_mem {n : Nat} {u : UInt8} (h : u ∈ baseB n) : u = 46 ∨ u = 10 := by
  unfold baseB at h
  have : ∀ q, u ∈ Lib.repeatL (line n) q → u ∈ line n := fun q => by
    induction q with
    | zero => intro h; cases h
    | succ q ih =>
      intro h
      rw [Lib.repeatL, List.mem_append] at h
      exact h.elim id ih
  have h1 := this _ h
  unfold line at h1
  rw [List.mem_append, List.mem_replicate, List.mem_singleton] at h1
  exact h1.imp And.right id

/-- The letters laid are the picture's. -/
theorem lay_count {L : List UInt8} {n : Nat} (hn : L.length = n) {v : UInt8} (h1 : v ≠ 46) (h2 : v ≠ 10) : ∀ k, k ≤ n → (layB L n k).count v = (L.take k).count v
  | 0, _ => by
    rw [layB, List.take_zero, List.count_nil, List.count_eq_zero]
    intro hm
    exact (base_mem hm).elim h1 h2
  | k + 1, hk => by
    have hlt : idx n k < (layB L n k).length := by rw [layB_length]; exact idx_lt (by omega)
    have hold : (layB L n k)[idx n k]'hlt = 46 := by
      have e := lay_off L k (n := n) (p := idx n k) (fun j hj e => by have := idx_inj (by omega) (by omega) e; omega)
      have b := base_dot (rowOf_le (show k < n by omega)) (colOf_le (show k < n by omega))
      rw [List.getElem?_eq_getElem hlt] at e
      rw [show rowOf n k * (wid n + 2) + colOf n k = idx n k from rfl] at b
      rw [b] at e
      injection e
    have ih := lay_count hn h1 h2 k (by omega)
    have hLk : k < L.length := by omega
    rw [layB, List.count_set hlt, hold, ih, List.take_succ_eq_append_getElem hLk, List.count_append, List.getD_eq_getElem?_getD, List.getElem?_eq_getElem hLk]
    have e46 : ((46 : UInt8) == v) = false := beq_eq_false_iff_ne.2 (Ne.symm h1)
    rw [e46, List.count_singleton]
    simp

theorem draw_cnt (L : List UInt8) : cntA (drawB L) = cntA L := by
  refine cntA_ext (cntA_size _) fun c hc => ?_
  rw [cntA_at _ hc]
  obtain ⟨n1, n2⟩ := letter_not hc
  by_cases h : L = []
  · rw [drawB, if_pos h, h]
  · rw [drawB, if_neg h]
    have := lay_count (L := L) rfl n1 n2 L.length (Nat.le_refl _)
    rw [List.take_length] at this
    simp only [cnt1, this]

theorem lay_mem {L : List UInt8} {n : Nat} (hn : L.length = n) {u : UInt8} : ∀ k, k ≤ n → u ∈ layB L n k → u = 46 ∨ u = 10 ∨ u ∈ L
  | 0, _, h => (base_mem h).imp id Or.inl
  | k + 1, hk, h => by
    rw [layB] at h
    rcases List.mem_or_eq_of_mem_set h with h | h
    · exact lay_mem hn k (by omega) h
    · have hLk : k < L.length := by omega
      rw [List.getD_eq_getElem?_getD, List.getElem?_eq_getElem hLk] at h
      rw [h]
      exact .inr (.inr (List.getElem_mem hLk))

theorem letters_mem (l : List Int) : ∀ (i : Nat) (u : UInt8), u ∈ lettersFrom i l → ∃ c, c < 26 ∧ u = (97 + c).toUInt8 := by
  induction l with
  | nil => intro i u h; cases h
  | cons x l ih =>
    intro i u h
    rw [lettersFrom, List.mem_append, List.mem_replicate] at h
    rcases h with ⟨_, rfl⟩ | h
    · exact ⟨i % 26, Nat.mod_lt _ (by decide), rfl⟩
    · exact ih _ u h

theorem draw_mem {l : List Int} {u : UInt8} (h : u ∈ drawB (lettersB l)) : u = 46 ∨ u = 10 ∨ ∃ c, c < 26 ∧ u = (97 + c).toUInt8 := by
  unfold drawB at h
  split at h
  · cases h
  · rcases lay_mem rfl _ (Nat.le_refl _) h with h | h | h
    · exact .inl h
    · exact .inr (.inl h)
    · refine .inr (.inr ?_)
      unfold lettersB at h
      split at h
      · exact letters_mem l 0 u h
      · cases h

theorem spots6 : spot 0 = (0, 0) ∧ spot 1 = (1, 0) ∧ spot 2 = (1, 1) ∧ spot 3 = (0, 1) ∧ spot 4 = (-1, 1) ∧ spot 5 = (-1, 0) := by
  refine ⟨?_, ?_, ?_, ?_, ?_, ?_⟩ <;> simp [spot, spotL]

theorem places6 : places 6 = [(0, 0), (1, 0), (1, 1), (0, 1), (-1, 1), (-1, 0)] := by
  obtain ⟨e0, e1, e2, e3, e4, e5⟩ := spots6
  simp [places, List.range_succ, e0, e1, e2, e3, e4, e5]

theorem pic132 : drawB (lettersB [1, 3, 2]) = [99, 98, 98, 10, 99, 97, 98, 10] ∧ lettersE [1, 3, 2] = 0 := by
  have hE : lettersE [1, 3, 2] = 0 := by decide
  have hB : lettersB [1, 3, 2] = [97, 98, 98, 98, 99, 99] := by decide
  refine ⟨?_, hE⟩
  rw [hB]
  obtain ⟨e0, e1, e2, e3, e4, e5⟩ := spots6
  have hl : low2 (places 6) = (-1, 0) := by rw [places6]; decide
  have hh : high2 (places 6) = (1, 1) := by rw [places6]; decide
  have hw : wid 6 = 2 := by unfold wid; rw [hl, hh]; decide
  have hi : hei 6 = 1 := by unfold hei; rw [hl, hh]; decide
  have r : ∀ k, idx 6 k = ((high2 (places 6)).2 - (spot k).2).toNat * (wid 6 + 2) + ((spot k).1 - (low2 (places 6)).1).toNat := fun _ => rfl
  have i0 : idx 6 0 = 5 := by rw [r, hl, hh, hw, e0]; decide
  have i1 : idx 6 1 = 6 := by rw [r, hl, hh, hw, e1]; decide
  have i2 : idx 6 2 = 2 := by rw [r, hl, hh, hw, e2]; decide
  have i3 : idx 6 3 = 1 := by rw [r, hl, hh, hw, e3]; decide
  have i4 : idx 6 4 = 0 := by rw [r, hl, hh, hw, e4]; decide
  have i5 : idx 6 5 = 4 := by rw [r, hl, hh, hw, e5]; decide
  have hb : baseB 6 = [46, 46, 46, 10, 46, 46, 46, 10] := by unfold baseB line; rw [hw, hi]; decide
  rw [drawB, if_neg (by decide)]
  show layB _ 6 6 = _
  simp only [layB, i0, i1, i2, i3, i4, i5, hb]
  decide

end Go.Proofs.Ytafdbibjcohdbaa
