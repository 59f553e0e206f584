/-
  The document's name, pieces, valid path (as printed), in plain lists of bytes.
-/
import Derived.Test.YtlpgkkaeojnndaaDoorS
import Derived.Test.YtlpgkkaeojnndaaDoorPRouteTellsx1
namespace Go.Proofs.YtlpgkkaeojnndaaDoor
open Go.RowKit Go.Proofs.YtlpgkkaeojnndaaDoorW.PrintWords Go.Proofs.YtlpgkkaeojnndaaDoorW.PrintLast Go.Proofs.YtlpgkkaeojnndaaDoorW.PrintMore Go.Proofs.YtlpgkkaeojnndaaDoor.PRouteTells

theorem bt_data {s : ByteArray} {i : Nat} {c : UInt8} (h : s.data.toList[i]? = some c) : bt s (i : Int) = (c.toNat : Int) := by
  have hi : i < s.size := by rw [← size_data]; exact (List.getElem?_eq_some_iff.1 h).1
  have e := at_data s i hi
  rw [h] at e
  unfold bt
  rw [dif_pos (show (i : Int).toNat < s.size from hi), Option.some.inj e]
  rfl

theorem wrap_succ {i n : Nat} (h : i < n) (hn : n ≤ 9223372036854775807) : wrap64 ((i : Int) + 1) = ((i + 1 : Nat) : Int) := by unfold wrap64; omega

theorem byte47 (c : UInt8) : (c.toNat : Int) = 47 ↔ c = 47 := ⟨fun h => UInt8.toNat_inj.1 (by show c.toNat = 47; omega), fun h => by rw [h]; rfl⟩
theorem byte0 (c : UInt8) : (c.toNat : Int) = 0 ↔ c = 0 := ⟨fun h => UInt8.toNat_inj.1 (by show c.toNat = 0; omega), fun h => by rw [h]; rfl⟩

theorem rname_from (s : ByteArray) (hs : s.size ≤ 9223372036854775807) (d : Nat) : ∀ (k i : Nat), i + d = s.size → d < k → cleanL (s.data.toList.take i) → hamperref17_name.l0 k s (i : Int) = some (nameB s) := by
  induction d with
  | zero =>
    intro k i hi hk hc
    obtain ⟨k, rfl⟩ : ∃ m, k = m + 1 := ⟨k - 1, by omega⟩
    have hcl : cleanL s.data.toList := by rwa [List.take_of_length_le (by rw [size_data]; omega)] at hc
    simp only [hamperref17_name.l0]
    rw [if_neg (by omega), ByteArray.toList_eq]
    by_cases h1 : (s.size : Int) ≥ 1
    · rw [if_pos h1]
      by_cases h2 : (s.size : Int) ≤ 255
      · rw [if_pos h2]
        by_cases h3 : s.data.toList = [46]
        · rw [if_pos h3, name_not (fun h => h.2.2.1 h3)]
        · rw [if_neg h3]
          by_cases h4 : s.data.toList = [46, 46]
          · rw [name_not (fun h => h.2.2.2.1 h4), h4]; rfl
          · rw [name_yes ⟨by rw [size_data]; omega, by rw [size_data]; omega, h3, h4, hcl⟩]
            congr 1
            exact bne_iff_ne.2 h4
      · rw [if_neg h2, name_not (fun h => by have := h.2.1; rw [size_data] at this; omega)]
    · rw [if_neg h1, name_not (fun h => by have := h.1; rw [size_data] at this; omega)]
  | succ d ih =>
    intro k i hi hk hc
    obtain ⟨k, rfl⟩ : ∃ m, k = m + 1 := ⟨k - 1, by omega⟩
    have hlt : i < s.size := by omega
    have hat := at_data s i hlt
    obtain ⟨c, hcc⟩ : ∃ c, s[i]'hlt = c := ⟨_, rfl⟩
    rw [hcc] at hat
    simp only [hamperref17_name.l0]
    rw [if_pos (by omega), if_pos (by omega), bt_data hat]
    by_cases h1 : (c.toNat : Int) = 47
    · rw [if_pos h1]
      rw [name_not fun h => not_clean _ i c hat (.inl ((byte47 c).1 h1)) h.2.2.2.2]
    · rw [if_neg h1]
      by_cases h2 : (c.toNat : Int) = 0
      · rw [if_pos h2]
        rw [name_not fun h => not_clean _ i c hat (.inr ((byte0 c).1 h2)) h.2.2.2.2]
      · rw [if_neg h2, wrap_succ hlt hs]
        exact ih k (i + 1) (by omega) (by omega) (clean_take _ i c hat hc ⟨fun e => h1 ((byte47 c).2 e), fun e => h2 ((byte0 c).2 e)⟩)

theorem rname_is (s : ByteArray) (hs : s.size ≤ 9223372036854775807) (k : Nat) (hk : s.size < k) : hamperref17_name.f k s = some (nameB s) :=
  rname_from s hs s.size k 0 (by omega) hk (fun c hc => by simp at hc)

theorem part_next (l : List UInt8) (a i : Nat) (c : UInt8) (h : l[i]? = some c) (ha : a ≤ i) : (l.drop a).take (i + 1 - a) = (l.drop a).take (i - a) ++ [c] := by
  obtain ⟨hi, rfl⟩ := List.getElem?_eq_some_iff.1 h
  rw [show i + 1 - a = (i - a) + 1 by omega, List.take_succ_eq_append_getElem (by rw [List.length_drop]; omega)]
  congr 1
  simp [List.getElem_drop, show a + (i - a) = i by omega]

theorem part_drop (l : List UInt8) (a i : Nat) (ha : a ≤ i) : l.drop a = (l.drop a).take (i - a) ++ l.drop i := by
  have h := (List.take_append_drop (i - a) (l.drop a)).symm
  rw [List.drop_drop, show a + (i - a) = i by omega] at h
  exact h

theorem rpieces_from (s : ByteArray) (hs : s.size ≤ 1048576) (d : Nat) : ∀ (k a i : Nat) (out : List ByteArray), i + d = s.size → a ≤ i → d + 1 < k → out.length ≤ i → (∀ c ∈ (s.data.toList.drop a).take (i - a), c ≠ 47) →
    hamperref17_Pieces.l0 k s out (a : Int) (i : Int) = some (out ++ (pieces (s.data.toList.drop a)).map bs) := by
  induction d with
  | zero =>
    intro k a i out hi ha hk ho hc
    obtain ⟨k, rfl⟩ : ∃ m, k = m + 1 := ⟨k - 1, by omega⟩
    obtain ⟨k, rfl⟩ : ∃ m, k = m + 1 := ⟨k - 1, by omega⟩
    have e : (s.data.toList.drop a).take (i - a) = s.data.toList.drop a := List.take_of_length_le (by rw [List.length_drop, size_data]; omega)
    simp only [hamperref17_Pieces.l0]
    rw [if_pos (by omega), if_pos (by omega), if_pos (by omega), if_pos (by omega), if_pos (by omega), if_neg (by unfold wrap64; omega)]
    rw [Int.toNat_natCast, Int.toNat_natCast, extract_is, e]
    rw [e] at hc
    rw [pieces_one _ hc]
    rfl
  | succ d ih =>
    intro k a i out hi ha hk ho hc
    obtain ⟨k, rfl⟩ : ∃ m, k = m + 1 := ⟨k - 1, by omega⟩
    have hlt : i < s.size := by omega
    have hat := at_data s i hlt
    obtain ⟨c, hcc⟩ : ∃ c, s[i]'hlt = c := ⟨_, rfl⟩
    rw [hcc] at hat
    simp only [hamperref17_Pieces.l0]
    rw [if_pos (by omega), if_neg (by omega), if_pos (by omega), if_pos (by omega), bt_data hat]
    by_cases h1 : (c.toNat : Int) = 47
    · obtain rfl := (byte47 c).1 h1
      rw [if_pos h1, if_pos (by omega), if_pos (by omega), if_pos (by omega), wrap_succ hlt (by omega), Int.toNat_natCast, Int.toNat_natCast, extract_is]
      rw [ih k (i + 1) (i + 1) _ (by omega) (by omega) (by omega) (by simp; omega) (by simp)]
      have e := part_drop s.data.toList a i ha
      rw [take_cons _ i 47 hat] at e
      obtain ⟨Q, hQ⟩ : ∃ Q, (s.data.toList.drop a).take (i - a) = Q := ⟨_, rfl⟩
      rw [hQ] at hc e ⊢
      rw [e, pieces_cut _ _ hc]
      simp
    · rw [if_neg h1, wrap_succ hlt (by omega)]
      refine ih k a (i + 1) out (by omega) (by omega) (by omega) (by omega) ?_
      rw [part_next _ a i c hat ha]
      intro x hx
      rcases List.mem_append.1 hx with hx | hx
      · exact hc x hx
      · rw [List.mem_singleton] at hx
        subst hx
        exact fun e => h1 ((byte47 _).2 e)

theorem rpieces_is (s : ByteArray) (hs : s.size ≤ 1048576) (k : Nat) (hk : s.size + 1 < k) : hamperref17_Pieces.f k s = some (piecesB s) :=
  rpieces_from s hs s.size k 0 0 [] (by omega) (Nat.le_refl _) hk (Nat.le_refl _) (by simp)

theorem rd_at {l : List ByteArray} {j : Nat} {x : ByteArray} (h : l[j]? = some x) : rdOf ByteArray.empty l (j : Int) = x := by
  unfold rdOf
  rw [Int.toNat_natCast, List.getD_eq_getElem?_getD, h]
  rfl

theorem rvalid_from (ps : List ByteArray) (M : Nat) (hM : ∀ x ∈ ps, x.size ≤ M) (hM1 : M ≤ 9223372036854775807) (hp : ps.length ≤ 9223372036854775807) (d : Nat) : ∀ (k j : Nat), j + d = ps.length → d + M + 1 < k → (∀ x ∈ ps.take j, nameL x.data.toList) →
    hamperref17_Valid.l0 k ps (j : Int) = some (decide ((∀ x ∈ ps, nameL x.data.toList) ∧ ps.length ≤ 64)) := by
  induction d with
  | zero =>
    intro k j hj hk hn
    obtain ⟨k, rfl⟩ : ∃ m, k = m + 1 := ⟨k - 1, by omega⟩
    rw [List.take_of_length_le (by omega)] at hn
    simp only [hamperref17_Valid.l0]
    rw [if_neg (by omega)]
    congr 1
    rw [decide_eq_decide]
    constructor
    · intro h
      exact ⟨hn, by omega⟩
    · intro h
      have := h.2
      omega
  | succ d ih =>
    intro k j hj hk hn
    obtain ⟨k, rfl⟩ : ∃ m, k = m + 1 := ⟨k - 1, by omega⟩
    obtain ⟨x, hx⟩ : ∃ x, ps[j]? = some x := ⟨ps[j]'(by omega), List.getElem?_eq_getElem _⟩
    have hxM := hM x (List.mem_of_getElem? hx)
    simp only [hamperref17_Valid.l0]
    rw [if_pos (by omega), if_pos (by omega), rd_at hx, rname_is x (by omega) k (by omega), Option.bind_some]
    by_cases h : nameL x.data.toList
    · rw [if_pos (name_yes h), wrap_succ (show j < ps.length by omega) hp]
      refine ih k (j + 1) (by omega) (by omega) ?_
      intro y hy
      obtain ⟨hj', rfl⟩ := List.getElem?_eq_some_iff.1 hx
      rw [List.take_succ_eq_append_getElem hj'] at hy
      rcases List.mem_append.1 hy with hy | hy
      · exact hn y hy
      · rw [List.mem_singleton] at hy; subst hy; exact h
    · rw [if_neg (by rw [name_not h]; simp), decide_eq_false fun hh => h (hh.1 x (List.mem_of_getElem? hx))]

theorem pieces_size (s : ByteArray) : ∀ x ∈ piecesB s, x.size ≤ s.size := by
  intro x hx
  obtain ⟨p, hp, rfl⟩ := List.mem_map.1 hx
  rw [← size_data, bs_data, ← size_data]
  exact pieces_le _ p hp

theorem pieces_count : ∀ l : List UInt8, (pieces l).length ≤ l.length + 1
  | [] => by simp [pieces]
  | c :: r => by
    have ih := pieces_count r
    obtain ⟨p, ps, h⟩ := pieces_cons r
    by_cases hc : c = 47
    · subst hc
      rw [pieces_slash]
      simp only [List.length_cons]
      omega
    · rw [pieces_other hc h]
      rw [h] at ih
      simp only [List.length_cons] at ih ⊢
      omega

theorem valid_iff (s : ByteArray) (h : s.size ≤ 1024) : ((∀ x ∈ piecesB s, nameL x.data.toList) ∧ (piecesB s).length ≤ 64) ↔ validL s.data.toList := by
  unfold validL piecesB
  rw [size_data, List.length_map]
  constructor
  · rintro ⟨h1, h2⟩
    exact ⟨h, fun p hp => h1 (bs p) (List.mem_map_of_mem hp), h2⟩
  · rintro ⟨_, h1, h2⟩
    refine ⟨fun x hx => ?_, h2⟩
    obtain ⟨p, hp, rfl⟩ := List.mem_map.1 hx
    exact h1 p hp

theorem rvalid_is (s : ByteArray) (k : Nat) (hk : 4096 < k) : hamperref17_Valid.f k s = some (validB s) := by
  unfold hamperref17_Valid.f validB
  by_cases h : (s.size : Int) > 1024
  · rw [if_pos h, decide_eq_false fun hv => by have := hv.1; rw [size_data] at this; omega]
  · rw [if_neg h, rpieces_is s (by omega) k (by omega), Option.bind_some]
    have hc := pieces_count s.data.toList
    rw [size_data] at hc
    have hl : (piecesB s).length = (pieces s.data.toList).length := by unfold piecesB; rw [List.length_map]
    have := rvalid_from (piecesB s) 1024 (fun x hx => by have := pieces_size s x hx; omega) (by omega) (by omega) (piecesB s).length k 0 (by omega) (by omega) (fun x hx => by simp at hx)
    rw [show ((0 : Nat) : Int) = 0 from rfl] at this
    rw [this]
    congr 1
    rw [decide_eq_decide]
    exact valid_iff s (by omega)

end Go.Proofs.YtlpgkkaeojnndaaDoor
