/-
  strings.Split at a slash makes a text's pieces; route.Names.
-/
import Derived.Test.YtlpgkkaeojnndaaDoorVN
import Derived.Lib.SplitLaws
import Derived.Shelf.Strings.SplitCore
import Derived.Shelf.Strings.Split
namespace Go.Proofs.YtlpgkkaeojnndaaDoor
open Go.RowKit

theorem count_cut (r : ByteArray) (k : Nat) (h : Lib.indexByte r.data.toList 47 = k) : r.data.toList.count 47 = (r.extract (k + 1) r.size).data.toList.count 47 + 1 := by
  obtain ⟨h1, h2⟩ := Lib.indexByte_some h
  have e : r.data.toList = r.data.toList.take k ++ 47 :: r.data.toList.drop (k + 1) := by
    rw [← take_cons _ k 47 h1, List.take_append_drop]
  rw [Lib.extract_to_end]
  conv => lhs; rw [e]
  rw [List.count_append, List.count_cons_self, List.count_eq_zero.2 ?_]
  · omega
  · intro hc
    obtain ⟨i, hi⟩ := List.getElem?_of_mem hc
    have hik : i < k := by
      have := (List.getElem?_eq_some_iff.1 hi).1
      rw [List.length_take] at this
      omega
    rw [List.getElem?_take_of_lt hik] at hi
    exact h2 i hik hi

theorem countB_slash (s : ByteArray) : Lib.countB s ⟨#[47]⟩ = s.data.toList.count 47 := Lib.count_one 47 _

theorem split_pieces (n : Nat) : ∀ s : ByteArray, s.data.toList.count 47 = n → Lib.splitB ⟨#[47]⟩ 0 n s = piecesB s := by
  induction n with
  | zero =>
    intro s h
    have hm : Lib.indexByte s.data.toList 47 = -1 := by
      by_cases hm : Lib.indexByte s.data.toList 47 = -1
      · exact hm
      · obtain ⟨k, hk⟩ : ∃ k : Nat, Lib.indexByte s.data.toList 47 = k := ⟨(Lib.indexByte s.data.toList 47).toNat, by have := Lib.indexByte_ge s.data.toList 47; omega⟩
        have := count_cut s k hk
        omega
    rw [Lib.splitB_zero, piecesB_miss s hm]
  | succ n ih =>
    intro s h
    have hm : Lib.indexByte s.data.toList 47 ≠ -1 := fun hm => by
      have : s.data.toList.count 47 = 0 := List.count_eq_zero.2 fun hc => by
        obtain ⟨i, hi⟩ := List.getElem?_of_mem hc
        exact Lib.indexByte_none hm i hi
      omega
    obtain ⟨k, hk⟩ : ∃ k : Nat, Lib.indexByte s.data.toList 47 = k := ⟨(Lib.indexByte s.data.toList 47).toNat, by have := Lib.indexByte_ge s.data.toList 47; omega⟩
    have hc := count_cut s k hk
    have hi : Lib.indexB s ⟨#[47]⟩ = k := (Lib.index_one s.data.toList 47).trans hk
    rw [Lib.splitB_hit _ _ _ _ k hi, (piecesB_hit s k hk).2, Nat.add_zero]
    congr 1
    exact ih _ (by show (s.extract (k + 1) s.size).data.toList.count 47 = n; omega)

theorem pieces_len (n : Nat) : ∀ s : ByteArray, s.data.toList.count 47 = n → (piecesB s).length = n + 1 := by
  induction n with
  | zero =>
    intro s h
    rw [← split_pieces 0 s h, Lib.splitB_zero]
    rfl
  | succ n ih =>
    intro s h
    have hm : Lib.indexByte s.data.toList 47 ≠ -1 := fun hm => by
      have : s.data.toList.count 47 = 0 := List.count_eq_zero.2 fun hc => by
        obtain ⟨i, hi⟩ := List.getElem?_of_mem hc
        exact Lib.indexByte_none hm i hi
      omega
    obtain ⟨k, hk⟩ : ∃ k : Nat, Lib.indexByte s.data.toList 47 = k := ⟨(Lib.indexByte s.data.toList 47).toNat, by have := Lib.indexByte_ge s.data.toList 47; omega⟩
    have hc := count_cut s k hk
    rw [(piecesB_hit s k hk).2, List.length_cons, ih _ (by omega)]

theorem split_any (s : ByteArray) (hs : s.size < 4294967281) (w : World) :
    Calls Tryd.prog 25 #[.string s, .string ⟨#[47]⟩] w fun e w' => e = .returned (.slice (some ⟨w.heap.size, 0, none⟩) (piecesB s).length (piecesB s).length) ∧ w' = w.alloc (.cells ((piecesB s).map Value.string).toArray 9) := by
  obtain ⟨n, hn⟩ : ∃ n, s.data.toList.count 47 = n := ⟨_, rfl⟩
  have hcn : Lib.countB s ⟨#[47]⟩ = n := (countB_slash s).trans hn
  have hle : n ≤ s.size := by rw [← hn, ← size_data]; exact List.count_le_length
  have hsp := split_pieces n s hn
  have hpl := pieces_len n s hn
  have c := Any.strings_genSplit_core Tryd.lays221 (by kernel_rfl) s ⟨#[47]⟩ 0 (-1) (n + 1) w hs (by decide) (by decide)
    (fun x c _ => (Tryd.strings_Index_one x 47 _).mono fun e w' ⟨he, hw⟩ => ⟨by rw [he]; show _ = Ending.returned (.int .i64 (Lib.index x.data.toList [47])); rw [Lib.index_one], hw⟩)
    ((Tryd.strings_Count_one s 47 w).mono fun e w' ⟨he, hw⟩ => ⟨by rw [he, hcn, ← hn]; rfl, hw⟩) (by decide) (by decide) (by rw [if_pos (by decide), hcn]; omega)
  rw [Nat.add_sub_cancel, hsp, hpl] at c
  have e2 : Lib.cellsOf (piecesB s) (n + 1) = ((piecesB s).map Value.string).toArray := by rw [← hpl]; exact Lib.cellsOf_full _
  rw [e2] at c
  have c' : Calls Tryd.prog 37 #[.string s, .string ⟨#[47]⟩, .int .i64 0, .int .i64 (-1)] w fun e w' => e = .returned (.slice (some ⟨w.heap.size, 0, none⟩) (n + 1) (n + 1)) ∧ w' = w.alloc (.cells ((piecesB s).map Value.string).toArray 9) := c
  rw [hpl]
  clear c e2 hsp hpl hcn hn
  go_enter Tryd.func25, Tryd.ntmps25
  go_wp2_with (go_at_call 37; refine c'.mono ?_; rintro e w' ⟨rfl, hw⟩; rw [hw])
  go_ret
  exact ⟨rfl, rfl⟩

theorem values_any (v : Value) (w : World) (hv : ∃ a n c, v = .slice a n c) :
    Calls Tryd.prog 31 #[v] w fun e w' => e = .returned (.func (.func 40) #[] #[.pointer (some ⟨w.heap.size, 0, none⟩)]) ∧ w' = w.alloc (.cells #[v] 27) := by
  obtain ⟨a, n, c, rfl⟩ := hv
  go_enter Tryd.func31, Tryd.ntmps31
  go_wp2
  go_ret
  exact ⟨rfl, rfl⟩

theorem names_shape (L : List ByteArray) (hL : L.length ≤ 9223372036854775807) (w w1 : World) (hb : Below w.heap.size w w1) :
    Gives 40 #[.pointer (some ⟨w1.heap.size + 1, 0, none⟩)] w.heap.size L ((w1.alloc (.cells (L.map Value.string).toArray 9)).alloc (.cells #[.slice (some ⟨w1.heap.size, 0, none⟩) L.length L.length] 27)) := by
  have hs := hb.size
  refine values_gives L hL w.heap.size (w1.heap.size + 1) w1.heap.size L.length _ hs (by simp) (by simp; omega) ?_ ?_
  · go_simp
  · intro j x hx
    have h1 : ((w1.alloc (.cells (L.map Value.string).toArray 9)).alloc (.cells #[.slice (some ⟨w1.heap.size, 0, none⟩) L.length L.length] 27)).cell? ⟨w1.heap.size, j, none⟩ = (w1.alloc (.cells (L.map Value.string).toArray 9)).cell? ⟨w1.heap.size, j, none⟩ :=
      World.cell?_alloc_lt _ _ _ (by simp)
    rw [h1, cell_of_row _ _ j _ _ _ (World.alloc_heap_new w1 _)]
    rw [List.getElem?_toArray, List.getElem?_map, hx]
    rfl

/-- route.Names. -/
theorem names_of (s : ByteArray) (hs : s.size ≤ 9223372036854775807) (w : World) :
    Calls Tryd.prog 15 #[.string s] w fun e w' => ∃ gf lb, e = .returned (.func (.func gf) #[] lb) ∧ Below w.heap.size w w' ∧ Gives gf lb w.heap.size (namesB s) w' := by
  cases hv : validB s with
  | false =>
    have hV := fun W => (valid_any s hs W).mono fun e w' (h : _ ∧ _) => (⟨by rw [h.1, hv], h.2⟩ : e = .returned (.bool false) ∧ Below W.heap.size W w')
    rw [namesB_not hv]
    clear hv
    go_enter Tryd.func15, Tryd.ntmps15
    go_wp2_with (go_at_call 13; refine (hV _).mono ?_; clear hV; rintro e w' ⟨rfl, hb⟩; have hbb := Lib.hid hb; clear hb)
    go_ret
    exact ⟨30, #[], rfl, hbb.out, none_gives _ _⟩
  | true =>
    have hV := fun W => (valid_any s hs W).mono fun e w' (h : _ ∧ _) => (⟨by rw [h.1, hv], h.2⟩ : e = .returned (.bool true) ∧ Below W.heap.size W w')
    have hsz : s.size ≤ 1024 := by
      have := (of_decide_eq_true hv : validL s.data.toList).1
      rwa [size_data] at this
    have hS := fun W => split_any s (by omega) W
    have hlen : (piecesB s).length ≤ 1025 := by
      have := pieces_len _ s rfl
      have h2 : s.data.toList.count 47 ≤ s.data.toList.length := List.count_le_length
      rw [size_data] at h2
      omega
    rw [namesB_yes hv]
    obtain ⟨L, hL⟩ : ∃ L, piecesB s = L := ⟨_, rfl⟩
    rw [hL] at hS hlen ⊢
    clear hv hL
    go_enter Tryd.func15, Tryd.ntmps15
    go_wp2_with (first
      | (go_at_call 13; refine (hV _).mono ?_; clear hV; rintro e w1 ⟨rfl, hb⟩; have hbb := Lib.hid hb; clear hb)
      | (go_at_call 25; refine (hS _).mono ?_; clear hS; rintro e w' ⟨rfl, hw⟩; rw [hw]; clear hw)
      | (go_at_call 31; refine (values_any _ _ ⟨_, _, _, rfl⟩).mono ?_; rintro e w' ⟨rfl, hw⟩; rw [hw]; clear hw))
    go_ret
    exact ⟨40, _, rfl, (hbb.out.alloc hbb.out.size _).alloc (by simp; have := hbb.out.size; omega) _, names_shape L (by omega) w _ hbb.out⟩

end Go.Proofs.YtlpgkkaeojnndaaDoor
