/-
  route.Parent, and the document's.
-/
import Derived.Test.YtlpgkkaeojnndaaDoorLO
import Derived.Lib.LastIndexByte
namespace Go.Proofs.YtlpgkkaeojnndaaDoor
open Go.RowKit

/-- The folder that a path lies in. -/
def parentB (s : ByteArray) : ByteArray × Bool := if validB s = true ∧ 2 ≤ (pieces s.data.toList).length then (bs (Lib.join (pieces s.data.toList).dropLast [47]), true) else (⟨#[]⟩, false)
theorem parentB_yes {s : ByteArray} (h : validB s = true) (k : 2 ≤ (pieces s.data.toList).length) : parentB s = (bs (Lib.join (pieces s.data.toList).dropLast [47]), true) := if_pos ⟨h, k⟩
theorem parentB_not {s : ByteArray} (h : ¬ (validB s = true ∧ 2 ≤ (pieces s.data.toList).length)) : parentB s = (⟨#[]⟩, false) := if_neg h

theorem bang_at (s : ByteArray) (i : Nat) (h : i < s.size) : ((s.data[i]!).toNat : Int) = ((s[i]'h).toNat : Int) := by
  have e : s.data[i]! = s[i]'h := by
    rw [getElem!_pos s.data i h]
    rfl
  rw [e]

theorem last_cut (s : ByteArray) (k : Nat) (hk : k < s.size) (h1 : ((s.data[k]!).toNat : Int) = 47) (h2 : ∀ j, k < j → j < s.size → ((s.data[j]!).toNat : Int) ≠ 47) :
    (pieces s.data.toList).length = (pieces (s.data.toList.take k)).length + 1 ∧ (pieces s.data.toList).dropLast = pieces (s.data.toList.take k) := by
  have hat := at_data s k hk
  rw [bang_at s k hk] at h1
  have hc : s[k]'hk = 47 := UInt8.toNat_inj.1 (by show (s[k]'hk).toNat = 47; omega)
  rw [hc] at hat
  have e : s.data.toList = s.data.toList.take k ++ 47 :: s.data.toList.drop (k + 1) := by rw [← take_cons _ k 47 hat, List.take_append_drop]
  have hno : ∀ c ∈ s.data.toList.drop (k + 1), c ≠ 47 := fun c hc hcc => by
    obtain ⟨i, hi⟩ := List.getElem?_of_mem hc
    rw [List.getElem?_drop] at hi
    have hlt : k + 1 + i < s.size := by rw [← size_data]; exact (List.getElem?_eq_some_iff.1 hi).1
    have := h2 (k + 1 + i) (by omega) hlt
    rw [bang_at s _ hlt] at this
    have hat2 := at_data s (k + 1 + i) hlt
    rw [hi] at hat2
    rw [← Option.some.inj hat2, hcc] at this
    exact this rfl
  have hp : pieces s.data.toList = pieces (s.data.toList.take k) ++ [s.data.toList.drop (k + 1)] := by
    conv => lhs; rw [e]
    rw [pieces_append, pieces_one _ hno]
  rw [hp]
  exact ⟨by simp, by simp⟩

theorem parent_any (s : ByteArray) (hs : s.size ≤ 140737488355328) (w : World) :
    Calls Tryd.prog 17 #[.string s] w fun e w' => e = .returned (.tuple #[.string (parentB s).1, .bool (parentB s).2]) ∧ Below w.heap.size w w' := by
  have hL := fun W => Tryd.strings_LastIndexByte s 47 (by omega) W
  rcases Lib.lastIndexByte_spec s 47 with ⟨h, h1⟩ | ⟨k, hk, h, h1, h2⟩
  · rw [h] at hL
    have hR : parentB s = (⟨#[]⟩, false) := parentB_not fun hh => by
      have e : pieces s.data.toList = [s.data.toList] := pieces_one _ fun c hc hcc => by
        obtain ⟨i, hi⟩ := List.getElem?_of_mem hc
        have hlt : i < s.size := by rw [← size_data]; exact (List.getElem?_eq_some_iff.1 hi).1
        have := h1 i hlt
        rw [bang_at s i hlt] at this
        have hat := at_data s i hlt
        rw [hi] at hat
        rw [← Option.some.inj hat, hcc] at this
        exact this rfl
      rw [e] at hh
      simp at hh
    rw [hR]
    clear h h1 hR
    go_enter Tryd.func17, Tryd.ntmps17
    go_wp2_with (go_at_call 33; refine (hL _).mono ?_; clear hL; rintro e w1 ⟨rfl, hw⟩; rw [hw]; clear hw)
    go_ret2
    exact ⟨rfl, Below.refl _ _⟩
  · rw [h] at hL
    obtain ⟨c1, c2⟩ := last_cut s k hk h1 h2
    cases hv : validB s with
    | false =>
      have hV := fun W => valid_is (by omega) hv W
      rw [parentB_not fun hh => by rw [hh.1] at hv; cases hv]
      clear hv h h1 h2 c1 c2
      go_enter Tryd.func17, Tryd.ntmps17
      go_wp2_with (first
        | (go_at_call 33; refine (hL _).mono ?_; clear hL; rintro e w1 ⟨rfl, hw⟩; rw [hw]; clear hw)
        | (go_at_call 13; refine (hV _).mono ?_; clear hV; rintro e w1 ⟨rfl, hb⟩; have hb1 := Lib.hid hb; clear hb))
      go_ret2
      exact ⟨rfl, hb1.out⟩
    | true =>
      have hV := fun W => valid_is (by omega) hv W
      have hp0 : 1 ≤ (pieces (s.data.toList.take k)).length := by
        obtain ⟨p, ps, e⟩ := pieces_cons (s.data.toList.take k)
        rw [e]
        simp
      have hR : parentB s = (s.extract 0 k, true) := by
        rw [parentB_yes hv (by omega), c2, join_pieces, extract_is]
        simp
      rw [hR]
      have i1 : (0 : Int) ≤ k := by omega
      have i2 : (k : Int) ≤ s.size := by omega
      clear hv h h1 h2 c1 c2 hR hp0
      go_enter Tryd.func17, Tryd.ntmps17
      go_wp2_with (first
        | (go_at_call 33; refine (hL _).mono ?_; clear hL; rintro e w1 ⟨rfl, hw⟩; rw [hw]; clear hw)
        | (go_at_call 13; refine (hV _).mono ?_; clear hV; rintro e w1 ⟨rfl, hb⟩; have hb1 := Lib.hid hb; clear hb))
      go_ret2
      exact ⟨rfl, hb1.out⟩

end Go.Proofs.YtlpgkkaeojnndaaDoor
