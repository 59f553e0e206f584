/-
  Paths in plain lists of bytes: names, pieces, joining; what a decoded character says of its bytes.
-/
import Derived.Lib.Join
import Derived.Lib.Split
import Derived.Lib.Hide
import Derived.Laws.Strings
import Derived.Lib.IndexLaws
import Derived.Lib.IndexBytes
import Derived.Laws.RangeAny
import Derived.Test.YtlpgkkaeojnndaaDoorProg
namespace Go.Proofs.YtlpgkkaeojnndaaDoor

/-- No slash and no zero. -/
def cleanL (l : List UInt8) : Prop := ∀ c ∈ l, c ≠ 47 ∧ c ≠ 0
def nameL (l : List UInt8) : Prop := 1 ≤ l.length ∧ l.length ≤ 255 ∧ l ≠ [46] ∧ l ≠ [46, 46] ∧ cleanL l
instance (l : List UInt8) : Decidable (cleanL l) := inferInstanceAs (Decidable (∀ c ∈ l, c ≠ 47 ∧ c ≠ 0))
instance (l : List UInt8) : Decidable (nameL l) := inferInstanceAs (Decidable (1 ≤ l.length ∧ l.length ≤ 255 ∧ l ≠ [46] ∧ l ≠ [46, 46] ∧ cleanL l))
def nameB (s : ByteArray) : Bool := decide (nameL s.data.toList)

theorem name_yes {s : ByteArray} (h : nameL s.data.toList) : nameB s = true := decide_eq_true h
theorem name_not {s : ByteArray} (h : ¬ nameL s.data.toList) : nameB s = false := decide_eq_false h

/-- A text cut at each slash. -/
def pieces : List UInt8 → List (List UInt8)
  | [] => [[]]
  | c :: r => if c = 47 then [] :: pieces r else match pieces r with
    | [] => [[c]]
    | p :: ps => (c :: p) :: ps

theorem pieces_cons (l : List UInt8) : ∃ p ps, pieces l = p :: ps := by
  cases l with
  | nil => exact ⟨[], [], rfl⟩
  | cons c r =>
    rw [pieces]
    split
    · exact ⟨_, _, rfl⟩
    · cases h : pieces r with
      | nil => exact ⟨_, _, rfl⟩
      | cons p ps => exact ⟨_, _, rfl⟩

theorem pieces_slash (r : List UInt8) : pieces (47 :: r) = [] :: pieces r := by rw [pieces, if_pos rfl]
theorem pieces_other {c : UInt8} (hc : c ≠ 47) {r p : List UInt8} {ps : List (List UInt8)} (h : pieces r = p :: ps) : pieces (c :: r) = (c :: p) :: ps := by rw [pieces, if_neg hc, h]

theorem pieces_one : ∀ (a : List UInt8), (∀ c ∈ a, c ≠ 47) → pieces a = [a]
  | [], _ => rfl
  | c :: r, h => pieces_other (h c (by simp)) (pieces_one r fun d hd => h d (by simp [hd]))

theorem pieces_cut : ∀ (a r : List UInt8), (∀ c ∈ a, c ≠ 47) → pieces (a ++ 47 :: r) = a :: pieces r
  | [], r, _ => pieces_slash r
  | c :: a, r, h => pieces_other (h c (by simp)) (pieces_cut a r fun d hd => h d (by simp [hd]))

theorem pieces_no : ∀ (l p : List UInt8), p ∈ pieces l → ∀ c ∈ p, c ≠ 47
  | [], p, hp, c, hc => by
    simp [pieces] at hp
    subst hp
    simp at hc
  | d :: r, p, hp, c, hc => by
    by_cases hd : d = 47
    · subst hd
      rw [pieces_slash] at hp
      rcases List.mem_cons.1 hp with rfl | hp
      · simp at hc
      · exact pieces_no r p hp c hc
    · obtain ⟨q, ps, h⟩ := pieces_cons r
      rw [pieces_other hd h] at hp
      rcases List.mem_cons.1 hp with rfl | hp
      · rcases List.mem_cons.1 hc with rfl | hc
        · exact hd
        · exact pieces_no r q (by rw [h]; simp) c hc
      · exact pieces_no r p (by rw [h]; simp [hp]) c hc

theorem pieces_le : ∀ (l p : List UInt8), p ∈ pieces l → p.length ≤ l.length
  | [], p, hp => by
    simp [pieces] at hp
    subst hp
    simp
  | d :: r, p, hp => by
    by_cases hd : d = 47
    · subst hd
      rw [pieces_slash] at hp
      rcases List.mem_cons.1 hp with rfl | hp
      · simp
      · have := pieces_le r p hp
        simp only [List.length_cons]
        omega
    · obtain ⟨q, ps, h⟩ := pieces_cons r
      rw [pieces_other hd h] at hp
      rcases List.mem_cons.1 hp with rfl | hp
      · have := pieces_le r q (by rw [h]; simp)
        simp only [List.length_cons]
        omega
      · have := pieces_le r p (by rw [h]; simp [hp])
        simp only [List.length_cons]
        omega

theorem join_cons2 (x y : List UInt8) (ls : List (List UInt8)) : Lib.join (x :: y :: ls) [47] = x ++ 47 :: Lib.join (y :: ls) [47] := by
  rw [Lib.join_cons, Lib.join_cons]
  simp [Lib.joinTail]

theorem join_pieces : ∀ l : List UInt8, Lib.join (pieces l) [47] = l
  | [] => by simp [pieces, Lib.join_one]
  | c :: r => by
    have ih := join_pieces r
    obtain ⟨p, ps, h⟩ := pieces_cons r
    by_cases hc : c = 47
    · subst hc
      rw [pieces_slash, h, join_cons2, ← h, ih]
      rfl
    · rw [pieces_other hc h]
      rw [h] at ih
      cases ps with
      | nil => rw [Lib.join_one] at ih ⊢; rw [ih]
      | cons q qs => rw [join_cons2] at ih ⊢; rw [← ih]; rfl

theorem pieces_join : ∀ ls : List (List UInt8), ls ≠ [] → (∀ p ∈ ls, ∀ c ∈ p, c ≠ 47) → pieces (Lib.join ls [47]) = ls
  | [], h, _ => absurd rfl h
  | [x], _, h => by rw [Lib.join_one]; exact pieces_one x (h x (by simp))
  | x :: y :: ls, _, h => by
    rw [join_cons2, pieces_cut x _ (h x (by simp)), pieces_join (y :: ls) (by simp) fun p hp => h p (List.mem_cons_of_mem _ hp)]

/-- A path. -/
def validL (l : List UInt8) : Prop := l.length ≤ 1024 ∧ (∀ p ∈ pieces l, nameL p) ∧ (pieces l).length ≤ 64
instance (l : List UInt8) : Decidable (validL l) := inferInstanceAs (Decidable (l.length ≤ 1024 ∧ (∀ p ∈ pieces l, nameL p) ∧ (pieces l).length ≤ 64))
def validB (s : ByteArray) : Bool := decide (validL s.data.toList)

theorem valid_yes {s : ByteArray} (h : validL s.data.toList) : validB s = true := decide_eq_true h
theorem valid_not {s : ByteArray} (h : ¬ validL s.data.toList) : validB s = false := decide_eq_false h

theorem name_no {l : List UInt8} (h : nameL l) : ∀ c ∈ l, c ≠ 47 := fun c hc => (h.2.2.2.2 c hc).1

theorem size_data (s : ByteArray) : s.data.toList.length = s.size := by rw [Array.length_toList]; rfl
theorem at_data (s : ByteArray) (i : Nat) (h : i < s.size) : s.data.toList[i]? = some (s[i]'h) := by
  rw [Array.getElem?_toList]
  exact Array.getElem?_eq_getElem h

theorem take_cons (l : List UInt8) (i : Nat) (c : UInt8) (h : l[i]? = some c) : l.drop i = c :: l.drop (i + 1) := by
  obtain ⟨hi, rfl⟩ := List.getElem?_eq_some_iff.1 h
  exact List.drop_eq_getElem_cons hi

theorem clean_take (l : List UInt8) (i : Nat) (c : UInt8) (h : l[i]? = some c) (hc : cleanL (l.take i)) (h1 : c ≠ 47 ∧ c ≠ 0) : cleanL (l.take (i + 1)) := by
  obtain ⟨hi, rfl⟩ := List.getElem?_eq_some_iff.1 h
  intro d hd
  rw [List.take_succ_eq_append_getElem hi] at hd
  rcases List.mem_append.1 hd with hd | hd
  · exact hc d hd
  · rw [List.mem_singleton] at hd
    subst hd
    exact h1

theorem not_clean (l : List UInt8) (i : Nat) (c : UInt8) (h : l[i]? = some c) (h1 : c = 47 ∨ c = 0) : ¬ cleanL l := fun hc => by
  have := hc c (List.mem_of_getElem? h)
  rcases h1 with rfl | rfl
  · exact this.1 rfl
  · exact this.2 rfl

/-- A list of bytes as a text. -/
def bs (l : List UInt8) : ByteArray := ⟨l.toArray⟩
theorem bs_data (l : List UInt8) : (bs l).data.toList = l := rfl
theorem data_bs (s : ByteArray) : bs s.data.toList = s := rfl
def piecesB (s : ByteArray) : List ByteArray := (pieces s.data.toList).map bs
theorem piecesB_datas (s : ByteArray) : (piecesB s).map (fun x => x.data.toList) = pieces s.data.toList := by
  unfold piecesB
  rw [List.map_map]
  exact List.map_id _

theorem extract_is (s : ByteArray) (a b : Nat) : s.extract a b = bs ((s.data.toList.drop a).take (b - a)) := by
  rw [← Lib.extract_data, data_bs]

theorem piecesB_miss (r : ByteArray) (h : Lib.indexByte r.data.toList 47 = -1) : piecesB r = [r] := by
  unfold piecesB
  rw [pieces_one _ fun c hc e => by
    obtain ⟨i, hi⟩ := List.getElem?_of_mem hc
    exact Lib.indexByte_none h i (by rw [hi, e])]
  rfl

theorem piecesB_hit (r : ByteArray) (k : Nat) (h : Lib.indexByte r.data.toList 47 = k) : k < r.size ∧ piecesB r = r.extract 0 k :: piecesB (r.extract (k + 1) r.size) := by
  obtain ⟨h1, h2⟩ := Lib.indexByte_some h
  have hk : k < r.size := by rw [← size_data]; exact (List.getElem?_eq_some_iff.1 h1).1
  refine ⟨hk, ?_⟩
  have e : r.data.toList = r.data.toList.take k ++ 47 :: r.data.toList.drop (k + 1) := by
    rw [← take_cons _ k 47 h1, List.take_append_drop]
  unfold piecesB
  rw [extract_is, Lib.extract_to_end]
  simp only [List.drop_zero, Nat.sub_zero]
  conv => lhs; rw [e]
  rw [pieces_cut _ _ fun c hc hcc => ?_]
  · rfl
  · obtain ⟨i, hi⟩ := List.getElem?_of_mem hc
    have hik : i < k := by
      have := (List.getElem?_eq_some_iff.1 hi).1
      rw [List.length_take] at this
      omega
    rw [List.getElem?_take_of_lt hik] at hi
    exact h2 i hik (by rw [hi, hcc])

/-- The bytes of a decoded character beyond ASCII are all beyond ASCII. -/
theorem decode_bytes (s : ByteArray) (pos : Nat) (h : pos < s.size) (ha : 128 ≤ (s[pos]'h).toNat) :
    ∀ j, pos ≤ j → j < pos + (Utf8.decode s pos).2 → ∃ hj : j < s.size, 128 ≤ (s[j]'hj).toNat := by
  have hn : ¬ (s[pos]'h).toNat < 128 := by omega
  have hc : ∀ k, (decide (pos + k < s.size) && ((s.get! (pos + k)).toNat / 64 == 2)) = true → ∃ hj : pos + k < s.size, 128 ≤ (s[pos + k]'hj).toNat := by
    intro k hk
    simp only [Bool.and_eq_true, decide_eq_true_eq, beq_iff_eq] at hk
    refine ⟨hk.1, ?_⟩
    have e : s.get! (pos + k) = s[pos + k]'hk.1 := get_at s (pos + k) hk.1
    rw [← e]
    omega
  have h0 : ∀ j, pos ≤ j → j < pos + 1 → ∃ hj : j < s.size, 128 ≤ (s[j]'hj).toNat := fun j h1 h2 => by
    obtain rfl : j = pos := by omega
    exact ⟨h, ha⟩
  have hs : ∀ n, (∀ j, pos ≤ j → j < pos + n → ∃ hj : j < s.size, 128 ≤ (s[j]'hj).toNat) → (∃ hj : pos + n < s.size, 128 ≤ (s[pos + n]'hj).toNat) →
      ∀ j, pos ≤ j → j < pos + (n + 1) → ∃ hj : j < s.size, 128 ≤ (s[j]'hj).toNat := fun n hn he j h1 h2 => by
    by_cases hj : j = pos + n
    · subst hj
      exact he
    · exact hn j h1 (by omega)
  have e0 : (s.get! (pos + 0)).toNat = (s[pos]'h).toNat := by rw [get_at s pos h]
  unfold Utf8.decode
  simp only [e0, if_neg hn]
  split
  · rename_i hc1
    rw [Bool.and_eq_true] at hc1
    split
    · exact hs 1 h0 (hc 1 hc1.2)
    · exact h0
  · split
    · rename_i hc1
      simp only [Bool.and_eq_true] at hc1
      split
      · exact hs 2 (hs 1 h0 (hc 1 (by simp only [Bool.and_eq_true]; exact hc1.1.2))) (hc 2 (by simp only [Bool.and_eq_true]; exact hc1.2))
      · exact h0
    · split
      · rename_i hc1
        simp only [Bool.and_eq_true] at hc1
        split
        · exact hs 3 (hs 2 (hs 1 h0 (hc 1 (by simp only [Bool.and_eq_true]; exact hc1.1.1.2))) (hc 2 (by simp only [Bool.and_eq_true]; exact hc1.1.2))) (hc 3 (by simp only [Bool.and_eq_true]; exact hc1.2))
        · exact h0
      · exact h0

theorem clean_upto (s : ByteArray) (pos n : Nat) (h : cleanL (s.data.toList.take pos)) (hb : ∀ j, pos ≤ j → j < pos + n → ∃ hj : j < s.size, 128 ≤ (s[j]'hj).toNat) : cleanL (s.data.toList.take (pos + n)) := by
  induction n with
  | zero => exact h
  | succ n ih =>
    have ih := ih fun j h1 h2 => hb j h1 (by omega)
    obtain ⟨hj, h1⟩ := hb (pos + n) (by omega) (by omega)
    refine clean_take _ _ _ (at_data s (pos + n) hj) ih ⟨fun e => ?_, fun e => ?_⟩
    · rw [e] at h1; exact absurd h1 (by decide)
    · rw [e] at h1; exact absurd h1 (by decide)

end Go.Proofs.YtlpgkkaeojnndaaDoor
