/-
  route.Compare and route.Within, for every text.
-/
import Derived.Test.YtlpgkkaeojnndaaDoorSP
import Derived.Test.YtlpgkkaeojnndaaDoorJ
import Derived.Test.YtlpgkkaeojnndaaDoorO
import Derived.Deep.QuietTactic
import Derived.BigQuiet
namespace Go.Proofs.YtlpgkkaeojnndaaDoor
open Go.RowKit

theorem strs_new (l : List ByteArray) (w : World) : Strs (w.alloc (.cells (l.map Value.string).toArray 9)) w.heap.size 0 l := fun j x hx => by
  rw [Nat.zero_add, cell_of_row _ _ j _ _ _ (World.alloc_heap_new w _), List.getElem?_toArray, List.getElem?_map, hx]
  rfl
theorem Strs.below {w W : World} {b o : Nat} {l : List ByteArray} (h : Strs w b o l) (hb : Below w.heap.size w W) : Strs W b o l := fun j x hx => (hb.cell (p := ⟨b, o + j, none⟩) (World.block_lt_of_cell? w _ (h j x hx))).trans (h j x hx)

theorem isNaN_any (a : ByteArray) (w : World) : Calls Tryd.prog 46 #[.string a] w fun e w' => e = .returned (.bool false) ∧ w = w' := by
  go_enter Tryd.func46, Tryd.ntmps46
  go_wp2
  go_ret
  exact ⟨by simp, rfl⟩

theorem cmp_any (a b : ByteArray) (w : World) : Calls Tryd.prog 36 #[.string a, .string b] w fun e w' => e = .returned (.int .i64 (cmpS a.data.toList b.data.toList)) ∧ w = w' := by
  rcases cmpS_cases a.data.toList b.data.toList with ⟨h, h1, h2⟩ | ⟨h, h1, h2⟩ | ⟨h, h1⟩
  · rw [← ByteArray.toList_eq, ← ByteArray.toList_eq] at h1
    rw [h]
    clear h h2
    go_enter Tryd.func36, Tryd.ntmps36
    go_wp2_with (go_at_call 46; refine (isNaN_any _ _).mono ?_; rintro e w' ⟨rfl, rfl⟩)
    go_ret
    exact ⟨rfl, rfl⟩
  · rw [← ByteArray.toList_eq, ← ByteArray.toList_eq] at h1
    have h3 : (a.toList == b.toList) = false := beq_eq_false_iff_ne.2 fun e => by
      rw [ByteArray.toList_eq, ByteArray.toList_eq] at e
      rw [e, less_irr] at h2
      cases h2
    rw [h]
    clear h h2
    go_enter Tryd.func36, Tryd.ntmps36
    go_wp2_with (go_at_call 46; refine (isNaN_any _ _).mono ?_; rintro e w' ⟨rfl, rfl⟩)
    go_ret
    exact ⟨rfl, rfl⟩
  · have h2 : (a.toList == b.toList) = true := by rw [ByteArray.toList_eq, ByteArray.toList_eq, h1]; simp
    have h3 : Op.bytesLess a.toList b.toList = false := by rw [ByteArray.toList_eq, ByteArray.toList_eq, h1]; exact less_irr _
    rw [h]
    clear h h1
    go_enter Tryd.func36, Tryd.ntmps36
    go_wp2_with (go_at_call 46; refine (isNaN_any _ _).mono ?_; rintro e w' ⟨rfl, rfl⟩)
    go_ret
    exact ⟨rfl, rfl⟩

theorem datas_drop (l : List ByteArray) (k : Nat) (x : ByteArray) (h : l[k]? = some x) : datas (l.drop k) = x.data.toList :: datas (l.drop (k + 1)) := by
  obtain ⟨hk, rfl⟩ := List.getElem?_eq_some_iff.1 h
  rw [List.drop_eq_getElem_cons hk]
  rfl

theorem ret_i64 {a b : Int} (h : a = b) : Ending.returned (.int .i64 a) = .returned (.int .i64 b) := by rw [h]

set_option maxHeartbeats 2000000 in
theorem compare_rows (l m : List ByteArray) (g o g' o' c c' : Nat) (w : World) (hl : l.length ≤ 4294967296) (hg : Strs w g o l) (hg' : Strs w g' o' m) :
    Calls Tryd.prog 24 #[.slice (some ⟨g, o, none⟩) l.length c, .slice (some ⟨g', o', none⟩) m.length c'] w fun e w' => e = .returned (.int .i64 (cmpL (datas l) (datas m))) ∧ w = w' := by
  obtain ⟨a, ha⟩ : ∃ a, l.length = a := ⟨_, rfl⟩
  obtain ⟨b, hb⟩ : ∃ b, m.length = b := ⟨_, rfl⟩
  obtain ⟨R, hR⟩ : ∃ R, cmpL (datas l) (datas m) = R := ⟨_, rfl⟩
  rw [ha] at hl ⊢
  rw [hb]
  rw [hR]
  have ha' := Lib.hid ha
  have hb' := Lib.hid hb
  have hR' := Lib.hid hR
  replace hg := Lib.hid hg
  replace hg' := Lib.hid hg'
  clear ha hb hR
  go_enter Tryd.func24, Tryd.ntmps24
  go_wp2
  go_loopw [11] (fun s11 wr => ∃ k : Nat, k ≤ a ∧ k ≤ b ∧ s11 = .int .i64 k ∧ wr = w ∧ Hid (cmpL (datas (l.drop k)) (datas (m.drop k)) = R)) (fun s11 _ => a - (intOf s11).toNat)
  case atStart => exact ⟨0, Nat.zero_le _, Nat.zero_le _, rfl, rfl, hR'.out⟩
  case round =>
    obtain ⟨k, hk1, hk2, rfl, rfl, hI⟩ := hrel
    by_cases h1 : k < a
    · obtain ⟨x, hx⟩ : ∃ x, l[k]? = some x := ⟨l[k]'(by have := ha'.out; omega), List.getElem?_eq_getElem _⟩
      have hcx := hg.out k x hx
      have hx' := Lib.hid hx
      clear hx
      by_cases h2 : k < b
      · obtain ⟨y, hy⟩ : ∃ y, m[k]? = some y := ⟨m[k]'(by have := hb'.out; omega), List.getElem?_eq_getElem _⟩
        have hcy := hg'.out k y hy
        have hy' := Lib.hid hy
        clear hy
        have hI2 : Hid ((if cmpS x.data.toList y.data.toList = 0 then cmpL (datas (l.drop (k + 1))) (datas (m.drop (k + 1))) else cmpS x.data.toList y.data.toList) = R) := by
          have := hI.out
          rw [datas_drop l k x hx'.out, datas_drop m k y hy'.out, cmpL] at this
          exact this
        clear hI
        have hc := fun W => cmp_any x y W
        obtain ⟨r, hr⟩ : ∃ r, cmpS x.data.toList y.data.toList = r := ⟨_, rfl⟩
        rw [hr] at hc
        have hr' := Lib.hid hr
        clear hr
        by_cases h3 : r = 0
        · have hI3 : Hid (cmpL (datas (l.drop (k + 1))) (datas (m.drop (k + 1))) = R) := by
            have := hI2.out
            rw [hr'.out, if_pos h3] at this
            exact this
          subst h3
          clear hI2 hr'
          go_wp2_with (go_at_call 36; refine (hc _).mono ?_; clear hc; rintro e w' ⟨rfl, rfl⟩)
          go_roundw
          case rel => exact ⟨k + 1, by omega, by omega, by go_num, by first | rfl | trivial, hI3⟩
          case measure => simp [intOf]; omega
        · have hI3 : Hid (r = R) := by
            have := hI2.out
            rw [hr'.out, if_neg h3] at this
            exact this
          clear hI2 hr'
          go_wp2_with (go_at_call 36; refine (hc _).mono ?_; clear hc; rintro e w' ⟨rfl, rfl⟩)
          go_ret
          exact ⟨ret_i64 hI3.out, rfl⟩
      · have hI3 : Hid (1 = R) := by
          have := hI.out
          rw [datas_drop l k x hx'.out, show m.drop k = [] from List.drop_eq_nil_of_le (by have := hb'.out; omega)] at this
          exact this
        clear hI
        go_wp2
        go_ret
        exact ⟨ret_i64 hI3.out, rfl⟩
    · by_cases h2 : k < b
      · have hI3 : Hid (-1 = R) := by
          have := hI.out
          obtain ⟨y, hy⟩ : ∃ y, m[k]? = some y := ⟨m[k]'(by have := hb'.out; omega), List.getElem?_eq_getElem _⟩
          rw [datas_drop m k y hy, show l.drop k = [] from List.drop_eq_nil_of_le (by have := ha'.out; omega)] at this
          exact this
        have h4 : a < b := by omega
        clear hI
        go_wp2
        go_ret
        exact ⟨ret_i64 hI3.out, rfl⟩
      · have hI3 : Hid (0 = R) := by
          have := hI.out
          rw [show m.drop k = [] from List.drop_eq_nil_of_le (by have := hb'.out; omega), show l.drop k = [] from List.drop_eq_nil_of_le (by have := ha'.out; omega)] at this
          exact this
        have h4 : ¬ a < b := by omega
        clear hI
        go_wp2
        go_ret
        exact ⟨ret_i64 hI3.out, rfl⟩

theorem pieces_bd (s : ByteArray) (hs : s.size < 4294967281) : (piecesB s).length ≤ 4294967296 := by
  have := pieces_len _ s rfl
  have h2 : s.data.toList.count 47 ≤ s.data.toList.length := List.count_le_length
  rw [size_data] at h2
  omega

/-- route.Compare. -/
theorem compare_any (a b : ByteArray) (ha : a.size < 4294967281) (hb : b.size < 4294967281) (w : World) :
    Calls Tryd.prog 8 #[.string a, .string b] w fun e w' => e = .returned (.int .i64 (cmpB a b)) ∧ Below w.heap.size w w' := by
  have hA := fun W => split_any a ha W
  have hB := fun W => split_any b hb W
  have la := pieces_bd a ha
  have hR : cmpL (datas (piecesB a)) (datas (piecesB b)) = cmpB a b := by unfold cmpB datas; rw [piecesB_datas, piecesB_datas]
  obtain ⟨l, hl⟩ : ∃ l, piecesB a = l := ⟨_, rfl⟩
  obtain ⟨m, hm⟩ : ∃ m, piecesB b = m := ⟨_, rfl⟩
  rw [hl] at hA la hR
  rw [hm] at hB hR
  have hS1 : Strs ((w.alloc (.cells (l.map Value.string).toArray 9)).alloc (.cells (m.map Value.string).toArray 9)) w.heap.size 0 l := (strs_new l w).below ((Below.refl _ _).alloc (Nat.le_refl _) _)
  have hS2 : Strs ((w.alloc (.cells (l.map Value.string).toArray 9)).alloc (.cells (m.map Value.string).toArray 9)) (w.heap.size + 1) 0 m := by
    have := strs_new m (w.alloc (.cells (l.map Value.string).toArray 9))
    rwa [World.size_alloc] at this
  have hC := compare_rows l m w.heap.size 0 (w.heap.size + 1) 0 l.length m.length _ la hS1 hS2
  rw [hR] at hC
  replace hC := Lib.hid hC
  clear hR hl hm hS1 hS2 la
  go_enter Tryd.func8, Tryd.ntmps8
  go_wp2_with (first
    | (go_at_call_of 25 (a); refine (hA _).mono ?_; clear hA; rintro e w' ⟨rfl, hw⟩; rw [hw]; clear hw)
    | (go_at_call_of 25 (b); refine (hB _).mono ?_; clear hB; rintro e w' ⟨rfl, hw⟩; rw [hw]; clear hw)
    | (go_at_call 24; refine hC.out.mono ?_; rintro e w' ⟨rfl, rfl⟩))
  go_ret
  exact ⟨rfl, ((Below.refl _ w).alloc (Nat.le_refl _) _).alloc (by simp) _⟩

theorem data_append (a b : ByteArray) : (a ++ b).data.toList = a.data.toList ++ b.data.toList := by
  rw [ByteArray.data_append, Array.toList_append]

theorem valid_is {s : ByteArray} (hs : s.size ≤ 9223372036854775807) {r : Bool} (h : validB s = r) (w : World) :
    Calls Tryd.prog 13 #[.string s] w fun e w' => e = .returned (.bool r) ∧ Below w.heap.size w w' := (valid_any s hs w).mono fun _ _ k => ⟨by rw [k.1, h], k.2⟩

theorem valid_size {s : ByteArray} (h : validB s = true) : s.size ≤ 1024 := by
  have := (of_decide_eq_true h : validL s.data.toList).1
  rwa [size_data] at this

set_option maxHeartbeats 1000000 in
/-- route.Within. -/
theorem within_any (s f : ByteArray) (hs : s.size ≤ 9223372036854775807) (hf : f.size ≤ 9223372036854775807) (w : World) :
    Calls Tryd.prog 10 #[.string s, .string f] w fun e w' => e = .returned (.bool (withinB s f)) ∧ Below w.heap.size w w' := by
  cases h1 : validB s with
  | false =>
    have hV := fun W => valid_is hs h1 W
    have hR : withinB s f = false := within_not fun h => by rw [valid_yes h.1] at h1; cases h1
    rw [hR]
    clear h1 hR
    go_enter Tryd.func10, Tryd.ntmps10
    go_wp2_with (go_at_call 13; refine (hV _).mono ?_; clear hV; rintro e w1 ⟨rfl, hb⟩; have hb1 := Lib.hid hb; clear hb)
    go_ret
    exact ⟨rfl, hb1.out⟩
  | true =>
    have hV := fun W => valid_is hs h1 W
    cases h2 : validB f with
    | false =>
      have hU := fun W => valid_is hf h2 W
      have hR : withinB s f = false := within_not fun h => by rw [valid_yes h.2.1] at h2; cases h2
      rw [hR]
      clear h1 h2 hR
      go_enter Tryd.func10, Tryd.ntmps10
      go_wp2_with (first
        | (go_at_call_of 13 (s); refine (hV _).mono ?_; clear hV; rintro e w1 ⟨rfl, hb⟩; have hb1 := Lib.hid hb; clear hb)
        | (go_at_call_of 13 (f); refine (hU _).mono ?_; clear hU; rintro e w2 ⟨rfl, hb⟩; have hb2 := Lib.hid hb; clear hb))
      go_ret
      exact ⟨rfl, hb1.out.trans (hb2.out.mono hb1.out.size)⟩
    | true =>
      have hU := fun W => valid_is hf h2 W
      have hfs := valid_size h2
      have hP := fun W => Tryd.strings_HasPrefix s (f ++ ⟨#[47]⟩) W
      have hR : Lib.hasPrefix s.data.toList (f ++ (⟨#[47]⟩ : ByteArray)).data.toList = withinB s f := by
        rw [data_append]
        cases h : Lib.hasPrefix s.data.toList (f.data.toList ++ [47]) with
        | false => exact (within_not fun k => by rw [(prefix_slash _ _).2 k.2.2] at h; cases h).symm
        | true => exact (within_yes ⟨of_decide_eq_true h1, of_decide_eq_true h2, (prefix_slash _ _).1 h⟩).symm
      rw [hR] at hP
      clear h1 h2 hR
      go_enter Tryd.func10, Tryd.ntmps10
      go_wp2_with (first
        | (go_at_call_of 13 (s); refine (hV _).mono ?_; clear hV; rintro e w1 ⟨rfl, hb⟩; have hb1 := Lib.hid hb; clear hb)
        | (go_at_call_of 13 (f); refine (hU _).mono ?_; clear hU; rintro e w2 ⟨rfl, hb⟩; have hb2 := Lib.hid hb; clear hb)
        | (go_at_call 27; refine (hP _).mono ?_; clear hP; rintro e w3 ⟨rfl, hw⟩; rw [hw]; clear hw))
      go_ret
      exact ⟨rfl, hb1.out.trans (hb2.out.mono hb1.out.size)⟩

end Go.Proofs.YtlpgkkaeojnndaaDoor
