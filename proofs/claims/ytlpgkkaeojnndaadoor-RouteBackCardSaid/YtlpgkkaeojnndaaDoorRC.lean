/-
  The document's Compare and Within, for every text of moderate length.
-/
import Derived.Test.YtlpgkkaeojnndaaDoorR
import Derived.Test.YtlpgkkaeojnndaaDoorC
import Derived.Deep.LoopGhost
namespace Go.Proofs.YtlpgkkaeojnndaaDoor
open Go.RowKit Go.Proofs.YtlpgkkaeojnndaaDoorW.PrintWords Go.Proofs.YtlpgkkaeojnndaaDoorW.PrintLast Go.Proofs.YtlpgkkaeojnndaaDoorW.PrintMore Go.Proofs.YtlpgkkaeojnndaaDoor.PRouteTells

theorem Strs.drewN {w : World} {b o : Nat} {l : List ByteArray} (h : Strs w b o l) (m : Nat) : Strs (w.drewN m) b o l := fun j x hx => by
  have := h j x hx
  simpa using this
theorem own_strs {w : World} {base g cap : Nat} {l : List ByteArray} (h : Kd.R Kd.string 9 w base (fun _ => True) (.slice (some ⟨g, 0, none⟩) l.length cap) l) : Strs w g 0 l := fun j x hx => by
  have hj : j < l.length := (List.getElem?_eq_some_iff.1 hx).1
  have := (Kd.R_cell (enc := Value.string) (h1 := fun _ => rfl) ByteArray.empty h (j : Int) (by omega) (by omega)).1
  rw [rd_at hx, Int.toNat_natCast] at this
  simpa using this

/-- A result that is a slice of texts. -/
def Row (w : World) (v : Value) (l : List ByteArray) : Prop := ∃ A c, v = .slice A l.length c ∧ l.length ≤ c ∧ (1 ≤ l.length → ∃ g, A = some ⟨g, 0, none⟩ ∧ Strs w g 0 l)

theorem row_of {w : World} {base : Nat} {v : Value} {l : List ByteArray} (h : Kd.R Kd.string 9 w base (fun _ => True) v l) : Row w v l := by
  by_cases h0 : 1 ≤ l.length
  · obtain ⟨g, cap, rfl, _⟩ := Kd.R_form h (by omega)
    exact ⟨_, cap, rfl, (Kd.R_reads' h).2.1, fun _ => ⟨g, rfl, own_strs h⟩⟩
  · obtain ⟨A, c, rfl⟩ := own_slice h.2.choose_spec.1
    exact ⟨A, c, rfl, (Kd.R_reads' h).2.1, fun h1 => absurd h1 h0⟩

theorem rpieces_any (s : ByteArray) (hs : s.size ≤ 1048576) (w : World) : Calls Tryd.prog 26 #[.string s] w fun e w' => ∃ g c, e = .returned (.slice (some ⟨g, 0, none⟩) (piecesB s).length c) ∧ Strs w' g 0 (piecesB s) ∧ Below w.heap.size w w' :=
  (hamperref17_Pieces.calls (s.size + 2) s (piecesB s) w (rpieces_is s hs _ (by omega))).mono fun e w' ⟨v, he, hr, hb⟩ => by
    obtain ⟨A, c, hv, _, hg⟩ := row_of hr
    obtain ⟨g, hA, hS⟩ := hg (by have := pieces_len _ s rfl; omega)
    exact ⟨g, c, by rw [he, hv, hA], hS, hb⟩

theorem rnames_f (s : ByteArray) : hamperref17_Names.f 5000 s = some (namesB s) := by
  unfold hamperref17_Names.f
  rw [rvalid_is s 5000 (by omega), Option.bind_some]
  cases h : validB s with
  | false => rw [if_neg (by simp), namesB_not h]
  | true => rw [if_pos rfl, rpieces_is s (by have := valid_size h; omega) 5000 (by have := valid_size h; omega), Option.bind_some, namesB_yes h]

theorem rnames_any (s : ByteArray) (w : World) : Calls Tryd.prog 14 #[.string s] w fun e w' => ∃ v, e = .returned v ∧ Row w' v (namesB s) ∧ Below w.heap.size w w' :=
  (hamperref17_Names.calls 5000 s (namesB s) w (rnames_f s)).mono fun _ _ ⟨v, he, hr, hb⟩ => ⟨v, he, row_of hr, hb⟩

set_option maxHeartbeats 4000000 in
/-- The document's Compare. -/
theorem rcompare_any (a b : ByteArray) (ha : a.size ≤ 1048576) (hb : b.size ≤ 1048576) (w : World) :
    Calls Tryd.prog 9 #[.string a, .string b] w fun e w' => e = .returned (.int .i64 (cmpB a b)) ∧ Below w.heap.size w w' := by
  have hA := fun W => rpieces_any a ha W
  have hB := fun W => rpieces_any b hb W
  have la := pieces_bd a (by omega)
  have lb := pieces_bd b (by omega)
  have hR : cmpL (datas (piecesB a)) (datas (piecesB b)) = cmpB a b := by unfold cmpB datas; rw [piecesB_datas, piecesB_datas]
  obtain ⟨l, hl⟩ : ∃ l, piecesB a = l := ⟨_, rfl⟩
  obtain ⟨m, hm⟩ : ∃ m, piecesB b = m := ⟨_, rfl⟩
  obtain ⟨R, hr⟩ : ∃ R, cmpB a b = R := ⟨_, rfl⟩
  rw [hl] at hA la hR
  rw [hm] at hB lb hR
  rw [hr] at hR ⊢
  obtain ⟨p, hp⟩ : ∃ p, l.length = p := ⟨_, rfl⟩
  obtain ⟨q, hq⟩ : ∃ q, m.length = q := ⟨_, rfl⟩
  rw [hp] at hA la
  rw [hq] at hB lb
  have hR' := Lib.hid hR
  have hp' := Lib.hid hp
  have hq' := Lib.hid hq
  clear hR hl hm hr hp hq ha hb
  go_enter Tryd.func9, Tryd.ntmps9
  go_wp2_with (first
    | (go_at_call_of 26 (a); refine (hA _).mono ?_; clear hA; rintro e w1 ⟨g, c, rfl, hs, hb⟩; have hb1 := Lib.hid hb; have hs1 := Lib.hid hs; clear hb hs)
    | (go_at_call_of 26 (b); refine (hB _).mono ?_; clear hB; rintro e w2 ⟨g', c', rfl, hs, hb⟩; have hb2 := Lib.hid hb; have hs2 := Lib.hid hs; clear hb hs))
  have hs1' : Strs w2 g 0 l := hs1.out.below hb2.out
  have hs2' : Strs w2 g' 0 m := hs2.out
  have hB : Below w.heap.size w w2 := hb1.out.trans (hb2.out.mono hb1.out.size)
  replace hs1' := Lib.hid hs1'
  replace hs2' := Lib.hid hs2'
  replace hB := Lib.hid hB
  clear hb1 hb2 hs1 hs2
  go_loopw [7] (fun s7 wr => ∃ k n : Nat, k ≤ p ∧ k ≤ q ∧ s7 = .int .i64 k ∧ wr = w2.drewN n ∧ Hid (cmpL (datas (l.drop k)) (datas (m.drop k)) = R)) (fun s7 _ => p - (intOf s7).toNat)
  case atStart => exact ⟨0, 0, Nat.zero_le _, Nat.zero_le _, rfl, rfl, hR'.out⟩
  case round =>
    obtain ⟨k, n, hk1, hk2, rfl, rfl, hI⟩ := hrel
    by_cases h1 : k < p
    · obtain ⟨x, hx⟩ : ∃ x, l[k]? = some x := ⟨l[k]'(by have := hp'.out; omega), List.getElem?_eq_getElem _⟩
      have hcx := hs1'.out k x hx
      rw [Nat.zero_add] at hcx
      have hx' := Lib.hid hx
      clear hx
      by_cases h2 : k < q
      · obtain ⟨y, hy⟩ : ∃ y, m[k]? = some y := ⟨m[k]'(by have := hq'.out; omega), List.getElem?_eq_getElem _⟩
        have hcy := hs2'.out k y hy
        rw [Nat.zero_add] at hcy
        have hy' := Lib.hid hy
        clear hy
        have hI2 : Hid ((if cmpS x.data.toList y.data.toList = 0 then cmpL (datas (l.drop (k + 1))) (datas (m.drop (k + 1))) else cmpS x.data.toList y.data.toList) = R) := by
          have := hI.out
          rw [datas_drop l k x hx'.out, datas_drop m k y hy'.out, cmpL] at this
          exact this
        clear hI
        have i0 : (0 : Int) ≤ k := by omega
        have i1 : (k : Int) < p := by omega
        have i2 : (k : Int) < q := by omega
        rcases cmpS_cases x.data.toList y.data.toList with ⟨h, e1, e2⟩ | ⟨h, e1, e2⟩ | ⟨h, e1⟩
        · have hI3 : Hid (-1 = R) := by
            have := hI2.out
            rw [h, if_neg (by decide)] at this
            exact this
          rw [← ByteArray.toList_eq, ← ByteArray.toList_eq] at e1
          clear hI2 h e2
          go_wp2_with fail
          go_quiet (fail)
          go_wp2
          go_ret
          exact ⟨ret_i64 hI3.out, by repeat (first | exact hB.out | apply pw_below_drewN)⟩
        · have hI3 : Hid (1 = R) := by
            have := hI2.out
            rw [h, if_neg (by decide)] at this
            exact this
          rw [← ByteArray.toList_eq, ← ByteArray.toList_eq] at e1
          have e3 : (x.toList == y.toList) = false := beq_eq_false_iff_ne.2 fun e => by
            rw [ByteArray.toList_eq, ByteArray.toList_eq] at e
            rw [e, less_irr] at e2
            cases e2
          clear hI2 h e2
          go_wp2_with fail
          go_quiet (fail)
          go_wp2_with fail
          go_quiet (fail)
          go_wp2
          go_ret
          exact ⟨ret_i64 hI3.out, by repeat (first | exact hB.out | apply pw_below_drewN)⟩
        · have hI3 : Hid (cmpL (datas (l.drop (k + 1))) (datas (m.drop (k + 1))) = R) := by
            have := hI2.out
            rw [if_pos h] at this
            exact this
          have e3 : (x.toList == y.toList) = true := by rw [ByteArray.toList_eq, ByteArray.toList_eq, e1]; simp
          have e4 : Op.bytesLess x.toList y.toList = false := by rw [ByteArray.toList_eq, ByteArray.toList_eq, e1]; exact less_irr _
          clear hI2 h e1
          go_wp2_with fail
          go_quiet (fail)
          go_wp2_with fail
          go_quiet (fail)
          go_wp2
          go_roundw
          case rel => exact ⟨k + 1, _, by omega, by omega, by go_num, by first | rfl | trivial, hI3⟩
          case measure => simp [intOf]; omega
      · have hI3 : Hid (1 = R) := by
          have := hI.out
          rw [datas_drop l k x hx'.out, show m.drop k = [] from List.drop_eq_nil_of_le (by have := hq'.out; omega)] at this
          exact this
        have h4 : q < p := by omega
        clear hI
        go_wp2
        go_ret
        exact ⟨ret_i64 hI3.out, by repeat (first | exact hB.out | apply pw_below_drewN)⟩
    · by_cases h2 : k < q
      · have hI3 : Hid (-1 = R) := by
          have := hI.out
          obtain ⟨y, hy⟩ : ∃ y, m[k]? = some y := ⟨m[k]'(by have := hq'.out; omega), List.getElem?_eq_getElem _⟩
          rw [datas_drop m k y hy, show l.drop k = [] from List.drop_eq_nil_of_le (by have := hp'.out; omega)] at this
          exact this
        have h4 : p < q := by omega
        clear hI
        go_wp2
        go_ret
        exact ⟨ret_i64 hI3.out, by repeat (first | exact hB.out | apply pw_below_drewN)⟩
      · have hI3 : Hid (0 = R) := by
          have := hI.out
          rw [show m.drop k = [] from List.drop_eq_nil_of_le (by have := hq'.out; omega), show l.drop k = [] from List.drop_eq_nil_of_le (by have := hp'.out; omega)] at this
          exact this
        have h4 : ¬ p < q := by omega
        have h5 : ¬ q < p := by omega
        clear hI
        go_wp2
        go_ret
        exact ⟨ret_i64 hI3.out, by repeat (first | exact hB.out | apply pw_below_drewN)⟩

theorem take_all {l m : List ByteArray} {k : Nat} (h : l.take k = m.take k) {x : ByteArray} (hx : l[k]? = some x) (hy : m[k]? = some x) : l.take (k + 1) = m.take (k + 1) := by
  rw [take_snoc_at l k x hx, take_snoc_at m k x hy, h]

theorem in_of_take {s f : ByteArray} (h1 : validB s = true) (h2 : validB f = true) (hl : (piecesB f).length < (piecesB s).length) (h : (piecesB s).take (piecesB f).length = piecesB f) : withinB s f = true := by
  refine within_yes ⟨of_decide_eq_true h1, of_decide_eq_true h2, (pieces s.data.toList).drop (pieces f.data.toList).length, ?_, ?_⟩
  · intro e
    have := congrArg List.length e
    unfold piecesB at hl
    rw [List.length_map, List.length_map] at hl
    rw [List.length_drop, List.length_nil] at this
    omega
  · have e := congrArg (List.map fun x : ByteArray => x.data.toList) h
    rw [List.map_take, piecesB_datas, piecesB_datas] at e
    have hf : (piecesB f).length = (pieces f.data.toList).length := by unfold piecesB; rw [List.length_map]
    rw [hf] at e
    conv => rhs; lhs; rw [← e]
    exact (List.take_append_drop _ _).symm

theorem in_len {s f : ByteArray} (h : withinB s f = true) : validB s = true ∧ validB f = true ∧ (piecesB f).length < (piecesB s).length ∧ (piecesB s).take (piecesB f).length = piecesB f := by
  have hi : inP s.data.toList f.data.toList := by
    by_cases hi : inP s.data.toList f.data.toList
    · exact hi
    · rw [within_not hi] at h; cases h
  obtain ⟨v1, v2, q, hq, e⟩ := hi
  have hq' : 1 ≤ q.length := by cases q with | nil => exact absurd rfl hq | cons => simp
  refine ⟨valid_yes v1, valid_yes v2, ?_, ?_⟩
  · unfold piecesB
    rw [List.length_map, List.length_map, e, List.length_append]
    omega
  · unfold piecesB
    rw [e, List.length_map, List.map_append, List.take_left' (by rw [List.length_map])]

set_option maxHeartbeats 4000000 in
/-- The document's Within. -/
theorem rwithin_any (s f : ByteArray) (w : World) :
    Calls Tryd.prog 11 #[.string s, .string f] w fun e w' => e = .returned (.bool (withinB s f)) ∧ Below w.heap.size w w' := by
  have hA := fun W => rnames_any s W
  have hB := fun W => rnames_any f W
  have la : (namesB s).length ≤ 4294967296 := by
    unfold namesB
    split
    · rename_i h; exact pieces_bd s (by have := valid_size h; omega)
    · simp
  have lb : (namesB f).length ≤ 4294967296 := by
    unfold namesB
    split
    · rename_i h; exact pieces_bd f (by have := valid_size h; omega)
    · simp
  by_cases hs : (namesB f).length = 0 ∨ (namesB s).length ≤ (namesB f).length
  · have hR : withinB s f = false := by
      cases h : withinB s f with
      | false => rfl
      | true =>
        obtain ⟨h1, h2, h3, _⟩ := in_len h
        rw [namesB_yes h1, namesB_yes h2] at hs
        have := pieces_len _ f rfl
        omega
    obtain ⟨l, hl⟩ : ∃ l, namesB s = l := ⟨_, rfl⟩
    obtain ⟨m, hm⟩ : ∃ m, namesB f = m := ⟨_, rfl⟩
    rw [hR]
    rw [hl] at hA la hs
    rw [hm] at hB lb hs
    obtain ⟨p, hp⟩ : ∃ p, l.length = p := ⟨_, rfl⟩
    obtain ⟨q, hq⟩ : ∃ q, m.length = q := ⟨_, rfl⟩
    rw [hp] at la hs
    rw [hq] at lb hs
    have hp' := Lib.hid hp
    have hq' := Lib.hid hq
    clear hR hl hm hp hq
    by_cases h0 : q = 0
    · have d0 : ((q : Int) == 0) = true := beq_iff_eq.2 (by omega)
      clear hs h0
      go_enter Tryd.func11, Tryd.ntmps11
      go_wp2_with (first
        | (go_at_call_of 14 (s); refine (hA _).mono ?_; clear hA; rintro e w1 ⟨v1, rfl, ⟨A1, c1, rfl, _, _⟩, hb⟩; have hb1 := Lib.hid hb; clear hb; rw [hp'.out])
        | (go_at_call_of 14 (f); refine (hB _).mono ?_; clear hB; rintro e w2 ⟨v2, rfl, ⟨A2, c2, rfl, _, _⟩, hb⟩; have hb2 := Lib.hid hb; clear hb; rw [hq'.out]))
      go_ret
      exact ⟨rfl, hb1.out.trans (hb2.out.mono hb1.out.size)⟩
    · have d0 : ((q : Int) == 0) = false := beq_eq_false_iff_ne.2 (by omega)
      have d2 : p ≤ q := by omega
      clear hs h0
      go_enter Tryd.func11, Tryd.ntmps11
      go_wp2_with (first
        | (go_at_call_of 14 (s); refine (hA _).mono ?_; clear hA; rintro e w1 ⟨v1, rfl, ⟨A1, c1, rfl, _, _⟩, hb⟩; have hb1 := Lib.hid hb; clear hb; rw [hp'.out])
        | (go_at_call_of 14 (f); refine (hB _).mono ?_; clear hB; rintro e w2 ⟨v2, rfl, ⟨A2, c2, rfl, _, _⟩, hb⟩; have hb2 := Lib.hid hb; clear hb; rw [hq'.out]))
      go_ret
      exact ⟨rfl, hb1.out.trans (hb2.out.mono hb1.out.size)⟩
  · have hv : validB s = true ∧ validB f = true := by
      constructor
      · cases h : validB s with
        | true => rfl
        | false => exact absurd (by rw [namesB_not h]; exact .inr (Nat.zero_le _)) hs
      · cases h : validB f with
        | true => rfl
        | false => exact absurd (by rw [namesB_not h]; exact .inl rfl) hs
    have hW1 : ∀ h : (piecesB s).take (piecesB f).length = piecesB f, withinB s f = true := fun h => in_of_take hv.1 hv.2 (by rw [namesB_yes hv.1, namesB_yes hv.2] at hs; omega) h
    have hW2 : ¬ (piecesB s).take (piecesB f).length = piecesB f → withinB s f = false := fun h => by
      cases hw : withinB s f with
      | false => rfl
      | true => exact absurd (in_len hw).2.2.2 h
    rw [namesB_yes hv.1] at la hs
    rw [namesB_yes hv.2] at lb hs
    simp only [namesB_yes hv.1] at hA
    simp only [namesB_yes hv.2] at hB
    obtain ⟨l, hl⟩ : ∃ l, piecesB s = l := ⟨_, rfl⟩
    obtain ⟨m, hm⟩ : ∃ m, piecesB f = m := ⟨_, rfl⟩
    obtain ⟨R, hr⟩ : ∃ R, withinB s f = R := ⟨_, rfl⟩
    rw [hr] at hW1 hW2 ⊢
    rw [hl] at hA la hs hW1 hW2
    rw [hm] at hB lb hs hW1 hW2
    obtain ⟨p, hp⟩ : ∃ p, l.length = p := ⟨_, rfl⟩
    obtain ⟨q, hq⟩ : ∃ q, m.length = q := ⟨_, rfl⟩
    rw [hp] at la hs
    rw [hq] at lb hs hW1 hW2
    have hp' := Lib.hid hp
    have hq' := Lib.hid hq
    have hW1' := Lib.hid hW1
    have hW2' := Lib.hid hW2
    have q0 : 1 ≤ q := by omega
    have qp : q < p := by omega
    have d0 : ((q : Int) == 0) = false := beq_eq_false_iff_ne.2 (by omega)
    have d2 : ¬ p ≤ q := by omega
    clear hl hm hp hq hr hs hv hW1 hW2
    go_enter Tryd.func11, Tryd.ntmps11
    go_wp2_with (first
      | (go_at_call_of 14 (s); refine (hA _).mono ?_; clear hA; rintro e w1 ⟨v1, rfl, ⟨A1, c1, rfl, _, hg⟩, hb⟩; obtain ⟨g, rfl, hs⟩ := hg (by rw [hp'.out]; omega); have hb1 := Lib.hid hb; have hs1 := Lib.hid hs; clear hb hs; rw [hp'.out])
      | (go_at_call_of 14 (f); refine (hB _).mono ?_; clear hB; rintro e w2 ⟨v2, rfl, ⟨A2, c2, rfl, _, hg⟩, hb⟩; obtain ⟨g', rfl, hs⟩ := hg (by rw [hq'.out]; omega); have hb2 := Lib.hid hb; have hs2 := Lib.hid hs; clear hb hs; rw [hq'.out]))
    have hs1' : Strs w2 g 0 l := hs1.out.below hb2.out
    have hs2' : Strs w2 g' 0 m := hs2.out
    have hBB : Below w.heap.size w w2 := hb1.out.trans (hb2.out.mono hb1.out.size)
    replace hs1' := Lib.hid hs1'
    replace hs2' := Lib.hid hs2'
    replace hBB := Lib.hid hBB
    clear hb1 hb2 hs1 hs2
    go_loopw [7] (fun s7 wr => ∃ k n : Nat, k ≤ q ∧ s7 = .int .i64 k ∧ wr = w2.drewN n ∧ Hid (l.take k = m.take k)) (fun s7 _ => q - (intOf s7).toNat)
    case atStart => exact ⟨0, 0, Nat.zero_le _, rfl, rfl, (rfl : l.take 0 = m.take 0)⟩
    case round =>
      obtain ⟨k, n, hk, rfl, rfl, hI⟩ := hrel
      by_cases h1 : k < q
      · obtain ⟨x, hx⟩ : ∃ x, l[k]? = some x := ⟨l[k]'(by have := hp'.out; omega), List.getElem?_eq_getElem _⟩
        obtain ⟨y, hy⟩ : ∃ y, m[k]? = some y := ⟨m[k]'(by have := hq'.out; omega), List.getElem?_eq_getElem _⟩
        have hcx := hs1'.out k x hx
        have hcy := hs2'.out k y hy
        rw [Nat.zero_add] at hcx hcy
        have hx' := Lib.hid hx
        have hy' := Lib.hid hy
        have i0 : (0 : Int) ≤ k := by omega
        have i1 : (k : Int) < p := by omega
        have i2 : (k : Int) < q := by omega
        clear hx hy
        by_cases he : x = y
        · have e3 : (x.toList == y.toList) = true := by rw [he]; simp
          have hI2 : Hid (l.take (k + 1) = m.take (k + 1)) := take_all hI.out hx'.out (by rw [hy'.out, he])
          clear he hI
          go_wp2_with fail
          go_quiet (fail)
          go_wp2
          go_roundw
          case rel => exact ⟨k + 1, _, by omega, by go_num, by first | rfl | trivial, hI2⟩
          case measure => simp [intOf]; omega
        · have e3 : (x.toList == y.toList) = false := beq_eq_false_iff_ne.2 fun e => he (by
            rw [ByteArray.toList_eq, ByteArray.toList_eq] at e
            rw [← data_bs x, ← data_bs y, e])
          have hR : Hid (R = false) := hW2'.out fun h => he (by
            have e1 : (l.take q)[k]? = some x := by rw [List.getElem?_take_of_lt h1]; exact hx'.out
            rw [h, hy'.out] at e1
            exact (Option.some.inj e1).symm)
          clear he hI
          go_wp2_with fail
          go_quiet (fail)
          go_wp2
          go_ret
          exact ⟨by rw [hR.out]; rfl, by repeat (first | exact hBB.out | apply pw_below_drewN)⟩
      · have hkq : k = q := by omega
        have hR : Hid (R = true) := hW1'.out (by rw [← hkq, hI.out, hkq, List.take_of_length_le (by rw [hq'.out]; exact Nat.le_refl _)])
        clear hI
        go_wp2
        go_ret
        exact ⟨by rw [hR.out]; rfl, by repeat (first | exact hBB.out | apply pw_below_drewN)⟩

end Go.Proofs.YtlpgkkaeojnndaaDoor
