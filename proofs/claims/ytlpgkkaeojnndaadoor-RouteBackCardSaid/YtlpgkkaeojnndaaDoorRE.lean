/-
  route.Read, and the document's Read.
-/
import Derived.Test.YtlpgkkaeojnndaaDoorRD
import Derived.OwnWalk
namespace Go.Proofs.YtlpgkkaeojnndaaDoor
open Go.RowKit Go.Proofs.YtlpgkkaeojnndaaDoorW.PrintWords Go.Proofs.YtlpgkkaeojnndaaDoorW.PrintLast Go.Proofs.YtlpgkkaeojnndaaDoorW.PrintMore Go.Proofs.YtlpgkkaeojnndaaDoor.PRouteTells

/-- Does a text end in a slash; the text without that slash. -/
def endsB (s : ByteArray) : Bool := Lib.hasSuffix s.data.toList [47]
def cutB (s : ByteArray) : ByteArray := ⟨(Lib.trimSuffix s.data.toList [47]).toArray⟩
/-- What an archive's name says: a path, whether it is a folder's, and the fault's number. -/
def readB (s : ByteArray) : ByteArray × Bool × Int := if validB (cutB s) = true then (cutB s, endsB s, 0) else (⟨#[]⟩, false, 20)

theorem cut_size (s : ByteArray) : (cutB s).size ≤ s.size := by
  rw [← size_data s]
  show (Lib.trimSuffix s.data.toList [47]).toArray.size ≤ _
  unfold Lib.trimSuffix
  split <;> simp

theorem ends_yes {s : ByteArray} (h : endsB s = true) : ∃ m, s.size = m + 1 ∧ s.data.toList[m]? = some 47 ∧ cutB s = s.extract 0 m ∧ s.data.toList = s.data.toList.take m ++ [47] := by
  have hs := h
  unfold endsB Lib.hasSuffix at h
  obtain ⟨y, hy⟩ := List.isSuffixOf_iff_suffix.1 h
  have hl : s.size = y.length + 1 := by rw [← size_data s, ← hy]; simp
  have ht : s.data.toList.take y.length = y := by rw [← hy]; simp
  refine ⟨y.length, hl, ?_, ?_, by rw [ht, hy]⟩
  · rw [← hy]; simp
  · have e1 : cutB s = ⟨(s.data.toList.take y.length).toArray⟩ := by
      unfold cutB Lib.trimSuffix
      unfold endsB at hs
      rw [if_pos hs]
      congr 3
      rw [size_data, hl]
      simp
    rw [e1, extract_is, Nat.sub_zero, List.drop_zero]
    rfl

theorem ends_not {s : ByteArray} (h : endsB s = false) : cutB s = s ∧ ∀ m, s.size = m + 1 → s.data.toList[m]? ≠ some 47 := by
  constructor
  · unfold cutB Lib.trimSuffix
    unfold endsB at h
    rw [if_neg (by rw [h]; decide)]
  · intro m hm e
    have : Lib.hasSuffix s.data.toList [47] = true := by
      unfold Lib.hasSuffix
      refine List.isSuffixOf_iff_suffix.2 ⟨s.data.toList.take m, ?_⟩
      have hlen := size_data s
      rw [hm] at hlen
      have e2 : s.data.toList.drop m = [47] := by
        rw [List.drop_eq_getElem_cons (by omega), List.drop_eq_nil_of_le (by omega)]
        obtain ⟨hi, e3⟩ := List.getElem?_eq_some_iff.1 e
        rw [e3]
      rw [← e2, List.take_append_drop]
    unfold endsB at h
    rw [this] at h
    cases h

theorem valid_ends {s : ByteArray} (h : validB s = true) : endsB s = false := by
  cases he : endsB s with
  | false => rfl
  | true =>
    obtain ⟨m, _, _, _, e⟩ := ends_yes he
    have hv : validL s.data.toList := of_decide_eq_true h
    have hp : pieces s.data.toList = pieces (s.data.toList.take m) ++ [[]] := by
      conv => lhs; rw [e]
      rw [pieces_append, pieces_one [] (by simp)]
    exact absurd (hv.2.1 [] (by rw [hp]; simp)) (by decide)

set_option maxHeartbeats 1000000 in
/-- route.Read. -/
theorem read_any (s : ByteArray) (hs : s.size ≤ 140737488355328) (w : World) :
    Calls Tryd.prog 19 #[.string s] w fun e w' => e = .returned (.tuple #[.string (readB s).1, .bool (readB s).2.1, .int .i64 (readB s).2.2]) ∧ Below w.heap.size w w' := by
  have hC : ∀ W, Calls Tryd.prog 34 #[.string s, .string ⟨#[47]⟩] W fun e w' => e = .returned (.tuple #[.string (cutB s), .bool (endsB s)]) ∧ w' = W := fun W => Tryd.strings_CutSuffix s _ W (by omega)
  have hz := cut_size s
  have hR : readB s = if validB (cutB s) = true then (cutB s, endsB s, 0) else (⟨#[]⟩, false, 20) := rfl
  rw [hR]
  clear hR
  obtain ⟨t, ht⟩ : ∃ t, cutB s = t := ⟨_, rfl⟩
  obtain ⟨b, hb⟩ : ∃ b, endsB s = b := ⟨_, rfl⟩
  simp only [ht, hb] at hC hz ⊢
  clear ht hb
  cases hv : validB t with
  | false =>
    have hV := fun W => valid_is (by omega) hv W
    rw [if_neg (by decide)]
    clear hv hz hs
    go_enter Tryd.func19, Tryd.ntmps19
    go_wp2_with (first
      | (go_at_call 34; refine (hC _).mono ?_; clear hC; rintro e w1 ⟨rfl, hw⟩; rw [hw]; clear hw)
      | (go_at_call 13; refine (hV _).mono ?_; clear hV; rintro e w1 ⟨rfl, hb⟩; have hb1 := Lib.hid hb; clear hb))
    go_ret3
    exact ⟨rfl, hb1.out⟩
  | true =>
    have hV := fun W => valid_is (by omega) hv W
    rw [if_pos rfl]
    clear hv hz hs
    go_enter Tryd.func19, Tryd.ntmps19
    go_wp2_with (first
      | (go_at_call 34; refine (hC _).mono ?_; clear hC; rintro e w1 ⟨rfl, hw⟩; rw [hw]; clear hw)
      | (go_at_call 13; refine (hV _).mono ?_; clear hV; rintro e w1 ⟨rfl, hb⟩; have hb1 := Lib.hid hb; clear hb))
    go_ret3
    exact ⟨rfl, hb1.out⟩

set_option maxHeartbeats 1000000 in
/-- The document's Read. -/
theorem rread_any (s : ByteArray) (hs : s.size ≤ 140737488355328) (w : World) :
    Calls Tryd.prog 20 #[.string s] w fun e w' => e = .returned (.tuple #[.string (readB s).1, .bool (readB s).2.1, .int .i64 (readB s).2.2]) ∧ Below w.heap.size w w' := by
  cases hv : validB s with
  | true =>
    have hV := fun W => rvalid_r hv W
    have he := valid_ends hv
    have hR : readB s = (s, false, 0) := by unfold readB; rw [(ends_not he).1, if_pos hv, he]
    rw [hR]
    clear hv he hR hs
    go_enter Tryd.func20, Tryd.ntmps20
    go_wp2_with (first
      | (go_at_call 16; refine (hV _).mono ?_; clear hV; rintro e w1 ⟨rfl, hb⟩; have hb1 := Lib.hid hb; clear hb))
    go_ret3
    exact ⟨rfl, hb1.out⟩
  | false =>
    have hV := fun W => rvalid_r hv W
    cases he : endsB s with
    | true =>
      obtain ⟨m, hm, hat, hcut, _⟩ := ends_yes he
      have hlt : m < s.size := by omega
      have h47 : (((s[m]'hlt).toNat : Nat) : Int) = 47 := by
        rw [at_data s m hlt] at hat
        rw [Option.some.inj hat]
        rfl
      obtain ⟨i4, i5, i6, i7⟩ : wrap64 ((m : Int) + 1 - 1) = (m : Int) ∧ wrap64 (m : Int) = (m : Int) ∧ (m : Int) ≤ s.size ∧ (0 : Int) < s.size :=
        ⟨by unfold wrap64; omega, by unfold wrap64; omega, by omega, by omega⟩
      cases hu : validB (s.extract 0 m) with
      | true =>
        have hU := fun W => rvalid_r hu W
        have hR : readB s = (s.extract 0 m, true, 0) := by unfold readB; rw [hcut, if_pos hu, he]
        rw [hR]
        clear hv he hR hs hu hcut hat
        go_enter Tryd.func20, Tryd.ntmps20
        go_wp2_with (first
          | (go_at_call_of 16 (s); refine (hV _).mono ?_; clear hV; rintro e w1 ⟨rfl, hb⟩; have hb1 := Lib.hid hb; clear hb)
          | (go_at_call_of 16 (s.extract 0 m); refine (hU _).mono ?_; clear hU; rintro e w2 ⟨rfl, hb⟩; have hb2 := Lib.hid hb; clear hb))
        go_ret3
        exact ⟨rfl, (grow hb1 hb2.out).out⟩
      | false =>
        have hU := fun W => rvalid_r hu W
        have hR : readB s = (⟨#[]⟩, false, 20) := by unfold readB; rw [hcut, hu]; rfl
        rw [hR]
        clear hv he hR hs hu hcut hat
        go_enter Tryd.func20, Tryd.ntmps20
        go_wp2_with (first
          | (go_at_call_of 16 (s); refine (hV _).mono ?_; clear hV; rintro e w1 ⟨rfl, hb⟩; have hb1 := Lib.hid hb; clear hb)
          | (go_at_call_of 16 (s.extract 0 m); refine (hU _).mono ?_; clear hU; rintro e w2 ⟨rfl, hb⟩; have hb2 := Lib.hid hb; clear hb))
        go_ret3
        exact ⟨rfl, (grow hb1 hb2.out).out⟩
    | false =>
      obtain ⟨hcut, hno⟩ := ends_not he
      have hR : readB s = (⟨#[]⟩, false, 20) := by unfold readB; rw [hcut, hv]; rfl
      rw [hR]
      rcases Nat.eq_zero_or_pos s.size with h0 | h0
      · have i7 : ¬ (0 : Int) < s.size := by omega
        clear hv he hR hs hcut hno
        go_enter Tryd.func20, Tryd.ntmps20
        go_wp2_with (first
          | (go_at_call_of 16 (s); refine (hV _).mono ?_; clear hV; rintro e w1 ⟨rfl, hb⟩; have hb1 := Lib.hid hb; clear hb))
        go_ret3
        exact ⟨rfl, hb1.out⟩
      · obtain ⟨m, hm⟩ : ∃ m, s.size = m + 1 := ⟨s.size - 1, by omega⟩
        have hlt : m < s.size := by omega
        have h47 : ¬ (((s[m]'hlt).toNat : Nat) : Int) = 47 := fun e => hno m hm (by
          rw [at_data s m hlt]
          congr 1
          exact UInt8.toNat_inj.1 (by show (s[m]'hlt).toNat = 47; omega))
        obtain ⟨i4, i5, i6, i7⟩ : wrap64 ((m : Int) + 1 - 1) = (m : Int) ∧ wrap64 (m : Int) = (m : Int) ∧ (m : Int) ≤ s.size ∧ (0 : Int) < s.size :=
          ⟨by unfold wrap64; omega, by unfold wrap64; omega, by omega, by omega⟩
        clear hv he hR hs hcut hno h0
        go_enter Tryd.func20, Tryd.ntmps20
        go_wp2_with (first
          | (go_at_call_of 16 (s); refine (hV _).mono ?_; clear hV; rintro e w1 ⟨rfl, hb⟩; have hb1 := Lib.hid hb; clear hb))
        go_ret3
        exact ⟨rfl, hb1.out⟩

end Go.Proofs.YtlpgkkaeojnndaaDoor
