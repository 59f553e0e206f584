/-
  route.Read, and the document's Parent and Read.
-/
import Derived.Test.YtlpgkkaeojnndaaDoorPA
namespace Go.Proofs.YtlpgkkaeojnndaaDoor
open Go.RowKit Go.Proofs.YtlpgkkaeojnndaaDoorW.PrintWords Go.Proofs.YtlpgkkaeojnndaaDoorW.PrintLast Go.Proofs.YtlpgkkaeojnndaaDoorW.PrintMore Go.Proofs.YtlpgkkaeojnndaaDoor.PRouteTells

theorem rvalid_any (s : ByteArray) (w : World) : Calls Tryd.prog 16 #[.string s] w fun e w' => e = .returned (.bool (validB s)) ∧ Below w.heap.size w w' :=
  hamperref17_Valid.calls 5000 s (validB s) w (rvalid_is s 5000 (by omega))
theorem rvalid_r {s : ByteArray} {r : Bool} (h : validB s = r) (w : World) : Calls Tryd.prog 16 #[.string s] w fun e w' => e = .returned (.bool r) ∧ Below w.heap.size w w' := by
  rw [← h]; exact rvalid_any s w

theorem join_last (l : List (List UInt8)) (x : List UInt8) (h : l ≠ []) : Lib.join (l ++ [x]) [47] = Lib.join l [47] ++ 47 :: x := by
  rw [join_append l [x] h (by simp), Lib.join_one]

set_option maxHeartbeats 1000000 in
/-- The document's Parent. -/
theorem rparent_any (s : ByteArray) (w : World) :
    Calls Tryd.prog 18 #[.string s] w fun e w' => e = .returned (.tuple #[.string (parentB s).1, .bool (parentB s).2]) ∧ Below w.heap.size w w' := by
  have hA := fun W => rnames_any s W
  by_cases h : validB s = true ∧ 2 ≤ (pieces s.data.toList).length
  · obtain ⟨hv, h2⟩ := h
    have hsz := valid_size hv
    simp only [namesB_yes hv] at hA
    have hlen : (piecesB s).length = (pieces s.data.toList).length := by unfold piecesB; rw [List.length_map]
    have hbd := pieces_bd s (by omega)
    obtain ⟨l, hl⟩ : ∃ l, piecesB s = l := ⟨_, rfl⟩
    rw [hl] at hA hlen hbd
    obtain ⟨q, hq⟩ : ∃ q, l.length = q + 1 := ⟨l.length - 1, by omega⟩
    obtain ⟨x, hx⟩ : ∃ x, l[q]? = some x := ⟨l[q]'(by omega), List.getElem?_eq_getElem _⟩
    have hne : (pieces s.data.toList).dropLast ≠ [] := fun e => by
      have := congrArg List.length e
      rw [List.length_dropLast, List.length_nil] at this
      omega
    have hxl : (pieces s.data.toList)[q]? = some x.data.toList := by
      have e : (l.map fun x => x.data.toList)[q]? = some x.data.toList := by rw [List.getElem?_map, hx]; rfl
      rw [← hl, piecesB_datas] at e
      exact e
    have hcat : pieces s.data.toList = (pieces s.data.toList).dropLast ++ [x.data.toList] := by
      have e := (List.dropLast_concat_getLast (l := pieces s.data.toList) (fun e => hne (by rw [e]; rfl))).symm
      have e2 : (pieces s.data.toList).getLast (fun e => hne (by rw [e]; rfl)) = x.data.toList := by
        rw [List.getLast_eq_getElem]
        obtain ⟨hi, e3⟩ := List.getElem?_eq_some_iff.1 hxl
        rw [← e3]
        congr 1
        omega
      rw [e2] at e
      exact e
    have hs : s.data.toList = Lib.join (pieces s.data.toList).dropLast [47] ++ 47 :: x.data.toList := by
      have e := join_pieces s.data.toList
      rw [hcat, join_last _ _ hne] at e
      exact e.symm
    have hsize : s.size = (Lib.join (pieces s.data.toList).dropLast [47]).length + 1 + x.size := by
      have e := congrArg List.length hs
      rw [List.length_append, size_data, List.length_cons, size_data] at e
      omega
    obtain ⟨m, hm⟩ : ∃ m, (Lib.join (pieces s.data.toList).dropLast [47]).length = m := ⟨_, rfl⟩
    have hR : parentB s = (s.extract 0 m, true) := by
      rw [parentB_yes hv h2, extract_is]
      have e : (s.data.toList.drop 0).take (m - 0) = Lib.join (pieces s.data.toList).dropLast [47] := by
        rw [List.drop_zero, Nat.sub_zero, ← hm]
        conv => lhs; arg 2; rw [hs]
        exact List.take_left
      rw [e]
    rw [hm] at hsize
    rw [hR]
    obtain ⟨w2, w4, w5, e1, e2, d0, i1, i2⟩ : wrap64 ((s.size : Int) - (x.size : Int)) = (m : Int) + 1 ∧ wrap64 (q : Int) = (q : Int) ∧ wrap64 (m : Int) = (m : Int) ∧ ((q + 1 : Nat) : Int) - 1 = (q : Int)
        ∧ (s.size : Int) - (x.size : Int) = (m : Int) + 1 ∧ ¬ ((q : Int) + 1 < 2) ∧ (m : Int) ≤ s.size ∧ (0 : Int) ≤ m :=
      ⟨by unfold wrap64; omega, by unfold wrap64; omega, by unfold wrap64; omega, by omega, by omega, by omega, by omega, by omega⟩
    have hq' := Lib.hid hq
    have hx' := Lib.hid hx
    clear hv h2 hlen hl hq hx hne hxl hcat hs hm hR hsize
    go_enter Tryd.func18, Tryd.ntmps18
    go_wp2_with (go_at_call 14; refine (hA _).mono ?_; clear hA; rintro e w1 ⟨v1, rfl, ⟨A1, c1, rfl, _, hg⟩, hb⟩; obtain ⟨g, rfl, hs⟩ := hg (by rw [hq'.out]; omega); have hc1 := hs q x hx'.out; rw [Nat.zero_add] at hc1; have hb1 := Lib.hid hb; clear hb hs; rw [hq'.out])
    go_ret2
    exact ⟨rfl, hb1.out⟩
  · rw [parentB_not h]
    have h2 : (namesB s).length < 2 := by
      cases hv : validB s with
      | false => rw [namesB_not hv]; decide
      | true =>
        have e : (piecesB s).length = (pieces s.data.toList).length := by unfold piecesB; rw [List.length_map]
        rw [namesB_yes hv, e]
        exact Nat.lt_of_not_le fun k => h ⟨hv, k⟩
    obtain ⟨l, hl⟩ : ∃ l, namesB s = l := ⟨_, rfl⟩
    rw [hl] at hA h2
    have d0 : ((l.length : Nat) : Int) < 2 := by omega
    clear h h2 hl
    go_enter Tryd.func18, Tryd.ntmps18
    go_wp2_with (go_at_call 14; refine (hA _).mono ?_; clear hA; rintro e w1 ⟨v1, rfl, ⟨A1, c1, rfl, _, hg⟩, hb⟩; have hb1 := Lib.hid hb; clear hb hg)
    go_ret2
    exact ⟨rfl, hb1.out⟩

end Go.Proofs.YtlpgkkaeojnndaaDoor
