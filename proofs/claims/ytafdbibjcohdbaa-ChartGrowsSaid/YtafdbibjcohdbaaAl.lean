/-
  along: the letters of a picture along the spiral.
-/
import Derived.Test.YtafdbibjcohdbaaJ
import Derived.Test.YtafdbibjcohdbaaCo
import Derived.Test.YtafdbibjcohdbaaRh
import Derived.LoopIn
import Derived.BigRegionIn
import Derived.Laws.OwnMore
namespace Go.Proofs.Ytafdbibjcohdbaa
open Go.RowKit

attribute [local go_sem] Oper.semAt_some

/-- What the picture's first row says. -/
theorem first_row (L : List UInt8) (n : Nat) (hn : L.length = n) (h10 : ∀ u ∈ L, u ≠ 10) (S : ByteArray) (hS : (⟨(drawB L).toArray⟩ : ByteArray) = S) :
    ∃ d : Nat, d ≤ S.size ∧ (∀ j (h : j < S.size), j < d → ((S[j]'h).toNat : Int) ≠ 10) ∧ (∀ h : d < S.size, ((S[d]'h).toNat : Int) = 10) ∧ (1 ≤ n → d = wid n + 1) := by
  by_cases h0 : n = 0
  · have hL : L = [] := List.eq_nil_of_length_eq_zero (by omega)
    subst hL
    subst hS
    exact ⟨0, Nat.zero_le _, fun j h hj => absurd hj (Nat.not_lt_zero _), fun h => absurd h (Nat.not_lt_zero _), fun h => by omega⟩
  · have hne : L ≠ [] := fun e => by rw [e] at hn; exact h0 hn.symm
    have hd : drawB L = layB L n n := by rw [drawB, if_neg hne, hn]
    have hsz : S.size = (hei n + 1) * (wid n + 2) := by
      rw [← hS]
      show (drawB L).toArray.size = _
      rw [List.size_toArray, hd, layB_length]
    have hle : wid n + 2 ≤ (hei n + 1) * (wid n + 2) := Nat.le_mul_of_pos_left _ (by omega)
    refine ⟨wid n + 1, by omega, fun j h hj => ?_, fun h => ?_, fun _ => rfl⟩
    · rw [str_at hS h, hd]
      have := pic_cell L (n := n) (r := 0) (c := j) (Nat.zero_le _) (by omega) _ _ rfl rfl
      rw [Nat.zero_mul, Nat.zero_add] at this
      rw [List.getD_eq_getElem?_getD, this, Option.getD_some]
      have ne10 : ∀ u : UInt8, u ≠ 10 → (u.toNat : Int) ≠ 10 := fun u hu e => hu (UInt8.toNat_inj.1 (by show u.toNat = 10; omega))
      refine ne10 _ ?_
      split
      · rename_i hlt
        have h0 := numF_nonneg ((low2 (places n)).1 + (j : Int)) ((high2 (places n)).2 - ((0 : Nat) : Int))
        rw [List.getD_eq_getElem?_getD, List.getElem?_eq_getElem (by omega)]
        exact h10 _ (List.getElem_mem _)
      · decide
    · rw [str_at hS h, hd]
      have := pic_nl L (n := n) (r := 0) (Nat.zero_le _)
      rw [Nat.zero_mul, Nat.zero_add] at this
      rw [List.getD_eq_getElem?_getD, this]
      rfl

theorem cell_one_l (W : World) (v : Value) (t : TypeId) : ∀ (j : Nat) (u : Value), [v][j]? = some u → (W.alloc (.cells #[v] t)).cell? ((⟨W.heap.size, 0, none⟩ : Addr).add j) = some u := by
  intro j u h
  cases j with
  | succ j => simp at h
  | zero =>
    simp at h
    subst h
    exact (Blk.new W t #[v]).cell 0 rfl

/-- string(b) of a row of the call's own. -/
theorem conv_own {w : World} {base n : Nat} {v : Value} {l : List UInt8} (hl : l.length = n) (h : w.ownsRow base 5 1 v n (Lib.byteCells l)) : (convert 55 9 v).run Try.prog w = .ok (.string ⟨l.toArray⟩) w := by
  rcases h.2 with ⟨rfl, h0⟩ | ⟨g, cap, cur, rfl, hg, hcur, rest⟩
  · have : l = [] := List.eq_nil_of_length_eq_zero (by omega)
    subst this
    exact run_convert_bytes_nil w 55 5 bu55 bu5 0 0 9 bu9
  · subst hl
    refine run_convert_bytes_back w 55 9 5 ⟨g, 0, none⟩ cap l bu55 bu5 bu9 fun j hj => ?_
    exact h.cells (g := g) rfl j (.int .u8 (l[j].toNat : Int)) (by simp [Lib.byteCells, List.getElem?_eq_getElem hj])

theorem grown_drew {W w1 : World} {row : Option Nat} (h : W.drew.grownBy w1 row) : W.grownBy w1 row := ⟨h.os, h.tape, h.output, h.size, h.block⟩

/-- What a walk owes behind an append to a boxed slice. -/
theorem appended_l {W w1 : World} {n0 B : Nat} {t e : TypeId} {size : Nat} {v v' : Value} {k m : Nat} {xs ys : List Value} {tmp : Obj}
    (hv : Boxed W B t v) (hte : t ≠ e) (hrow : W.ownsRow n0 e size v k xs) (hn0 : n0 ≤ W.heap.size) (hB : B < n0)
    (hown' : w1.ownsRow n0 e size v' m ys) (hgrow : (W.alloc tmp).grownBy w1 v.ownBlock) :
    Boxed w1 B t v ∧ Boxed (w1.setCell ⟨B, 0, none⟩ v') B t v' ∧ (w1.setCell ⟨B, 0, none⟩ v').ownsRow n0 e size v' m ys ∧ KeepsOthers W (w1.setCell ⟨B, 0, none⟩ v') ∧ (∀ b, b < n0 → b ≠ B → (w1.setCell ⟨B, 0, none⟩ v').heap[b]? = W.heap[b]?) ∧ Below B W (w1.setCell ⟨B, 0, none⟩ v') ∧ W.heap.size ≤ (w1.setCell ⟨B, 0, none⟩ v').heap.size := by
  have down : ∀ {X : World} {u : Value} {q : Nat} {zs : List Value}, X.ownsRow n0 e size u q zs → X.ownsRow B e size u q zs := fun h => by
    refine ⟨h.1, h.2.imp id ?_⟩
    rintro ⟨g, cap, cur, h1, h2, h3⟩
    exact ⟨g, cap, cur, h1, Nat.le_trans (Nat.le_of_lt hB) h2, h3⟩
  obtain ⟨h1, h2, _, h4, h5⟩ := Boxed.appended hv hte (down hrow) (by omega) (Nat.le_refl _) (down hown') hgrow
  refine ⟨h1, h2, hown'.kept (grownBy_setCell' w1 B v') (.inr (h1.not_row hte hown').symm), h4, fun b hb hne => ?_, h5, h5.size⟩
  have hbw : b < W.heap.size := by omega
  refine (Below.heap_setCell w1 ⟨B, 0, none⟩ v' b hne).trans ((hgrow.block b (by simp; omega) fun e => ?_).trans (Below.heap_alloc W tmp b hbw))
  have := (hrow.lt b e.symm).1
  omega

set_option maxRecDepth 100000 in
set_option maxHeartbeats 4000000 in
theorem along_in (L : List UInt8) (n : Nat) (hn : L.length = n) (hn4 : n ≤ 4096) (h10 : ∀ u ∈ L, u ≠ 10) (w : World) :
    CallsIn Fence.wide 10 Try.prog 16 #[.string ⟨(drawB L).toArray⟩, .int .i64 n] w fun e w' => e = .returned (.string ⟨L.toArray⟩) ∧ Below w.heap.size w w' := by
  obtain ⟨S, hS⟩ : ∃ S : ByteArray, (⟨(drawB L).toArray⟩ : ByteArray) = S := ⟨_, rfl⟩
  obtain ⟨d, hd1, hd2, hd3, hd4⟩ := first_row L n hn h10 S hS
  have hSb : S.size ≤ 1073741824 := by
    rw [← hS]
    show (drawB L).toArray.size ≤ _
    rw [List.size_toArray]
    unfold drawB
    split
    · simp
    · rw [layB_length]
      exact pic_bd (by omega)
  rw [hS]
  replace hS := Lib.hid hS
  replace hn := Lib.hid hn
  replace hd2 := Lib.hid hd2
  replace hd3 := Lib.hid hd3
  replace hd4 := Lib.hid hd4
  clear h10
  obtain ⟨i0, hi, hz0, hz1, hz2⟩ := info_parts ib5
  refine callsIn_of_wp_marks Try.func16 rfl trivial ?_ rfl
  simp only [Try.ntmps16, List.size_toArray, List.length_cons, List.length_nil, Nat.reduceAdd, Nat.reduceSub, Array.replicate_succ, Array.replicate_zero, List.push_toArray, List.append_toArray, List.nil_append, List.cons_append]
  gi_wp2_with (first
    | (gi_at_call 9; refine callsIn_wide.2 ((walk_any _ _).mono ?_); rintro e w' ⟨rfl, rfl⟩)
    | (rw [show ∀ (a : Array Value) W, (binOp BinOp.eql 23 (Value.func (Fn.func 20) #[] a) Value.nilFunc).run Try.prog W = .ok (.bool false) W from fun a W => by kernel_rfl]))
  obtain ⟨H, hH⟩ : ∃ H, w.heap.size = H := ⟨_, rfl⟩
  obtain ⟨W0, hW0⟩ : ∃ W0, ((((((w.alloc (Obj.cells #[Value.string S] 9)).alloc (Obj.cells #[Value.string ⟨#[]⟩] 9)).alloc (Obj.cells #[Value.int .i64 (n : Int)] 3)).alloc (Obj.cells #[Value.int .i64 0] 3)).alloc (Obj.cells #[Value.int .i64 0] 3)).alloc (Obj.cells #[Value.int .i64 0] 3)).alloc (Obj.cells #[Value.int .i64 (n : Int)] 3) = W0 := ⟨_, rfl⟩
  have c1 : Blk W0 H 9 #[.string S] := by rw [← hW0, ← hH]; exact ((((((Blk.new _ _ _).alloc _).alloc _).alloc _).alloc _).alloc _).alloc _
  have c2 : Blk W0 (H + 1) 9 #[.string ⟨#[]⟩] := by
    have := (((((Blk.new (w.alloc (Obj.cells #[Value.string S] 9)) 9 #[.string ⟨#[]⟩]).alloc (Obj.cells #[Value.int .i64 (n : Int)] 3)).alloc (Obj.cells #[Value.int .i64 0] 3)).alloc (Obj.cells #[Value.int .i64 0] 3)).alloc (Obj.cells #[Value.int .i64 0] 3)).alloc (Obj.cells #[Value.int .i64 (n : Int)] 3)
    rw [hW0, World.size_alloc, hH] at this
    exact this
  have c3 : Blk W0 (H + 1 + 1 + 1) 3 #[.int .i64 0] := by
    have := (((Blk.new (((w.alloc (Obj.cells #[Value.string S] 9)).alloc (Obj.cells #[Value.string ⟨#[]⟩] 9)).alloc (Obj.cells #[Value.int .i64 (n : Int)] 3)) 3 #[.int .i64 0]).alloc (Obj.cells #[Value.int .i64 0] 3)).alloc (Obj.cells #[Value.int .i64 0] 3)).alloc (Obj.cells #[Value.int .i64 (n : Int)] 3)
    rw [hW0, World.size_alloc, World.size_alloc, World.size_alloc, hH] at this
    exact this
  have c4 : Blk W0 (H + 1 + 1 + 1 + 1) 3 #[.int .i64 0] := by
    have := ((Blk.new ((((w.alloc (Obj.cells #[Value.string S] 9)).alloc (Obj.cells #[Value.string ⟨#[]⟩] 9)).alloc (Obj.cells #[Value.int .i64 (n : Int)] 3)).alloc (Obj.cells #[Value.int .i64 0] 3)) 3 #[.int .i64 0]).alloc (Obj.cells #[Value.int .i64 0] 3)).alloc (Obj.cells #[Value.int .i64 (n : Int)] 3)
    rw [hW0, World.size_alloc, World.size_alloc, World.size_alloc, World.size_alloc, hH] at this
    exact this
  have c5 : Blk W0 (H + 1 + 1 + 1 + 1 + 1) 3 #[.int .i64 0] := by
    have := (Blk.new (((((w.alloc (Obj.cells #[Value.string S] 9)).alloc (Obj.cells #[Value.string ⟨#[]⟩] 9)).alloc (Obj.cells #[Value.int .i64 (n : Int)] 3)).alloc (Obj.cells #[Value.int .i64 0] 3)).alloc (Obj.cells #[Value.int .i64 0] 3)) 3 #[.int .i64 0]).alloc (Obj.cells #[Value.int .i64 (n : Int)] 3)
    rw [hW0, World.size_alloc, World.size_alloc, World.size_alloc, World.size_alloc, World.size_alloc, hH] at this
    exact this
  have c6 : Blk W0 (H + 1 + 1 + 1 + 1 + 1 + 1) 3 #[.int .i64 (n : Int)] := by
    have := Blk.new ((((((w.alloc (Obj.cells #[Value.string S] 9)).alloc (Obj.cells #[Value.string ⟨#[]⟩] 9)).alloc (Obj.cells #[Value.int .i64 (n : Int)] 3)).alloc (Obj.cells #[Value.int .i64 0] 3)).alloc (Obj.cells #[Value.int .i64 0] 3)).alloc (Obj.cells #[Value.int .i64 0] 3)) 3 #[.int .i64 (n : Int)]
    rw [hW0, World.size_alloc, World.size_alloc, World.size_alloc, World.size_alloc, World.size_alloc, World.size_alloc, hH] at this
    exact this
  have z0 : W0.heap.size = H + 1 + 1 + 1 + 1 + 1 + 1 + 1 := by rw [← hW0]; simp [hH]
  have b0 : Below H w W0 := by
    rw [← hW0, ← hH]
    exact (((((((Below.refl _ w).alloc (Nat.le_refl _) _).alloc (by simp) _).alloc (by simp; omega) _).alloc (by simp; omega) _).alloc (by simp; omega) _).alloc (by simp; omega) _).alloc (by simp; omega) _
  rw [hW0, hH]
  replace hW0 := Lib.hid hW0
  replace hH := Lib.hid hH
  clear hW0
  refine wpIn_rangeFunc_ownF rfl (by omega) (gf := 20) (lb := #[.pointer (some ⟨H + 1 + 1 + 1 + 1 + 1 + 1, 0, none⟩)]) rfl trivial (enters_of Try.func20 (by kernel_rfl) rfl) ((seqStopsA_iff ..).1 (walk_stops n (H + 1 + 1 + 1 + 1 + 1 + 1) 9 W0 (by omega) (c6.cell 0 rfl))) walksK_t walksK_b (Below.refl _ _) (fun _ => rfl)
    (fun pre W => (Blk W H 9 #[.string S] ∧ Blk W (H + 1) 9 #[.string ⟨#[]⟩] ∧ Blk W (H + 1 + 1 + 1) 3 #[.int .i64 (low2 pre).1] ∧ Blk W (H + 1 + 1 + 1 + 1) 3 #[.int .i64 (high2 pre).2] ∧ Blk W (H + 1 + 1 + 1 + 1 + 1) 3 #[.int .i64 0]) ∧ Below H w W)
    (fun _ _ _ => False)
    ?hI ?hIx ?h0 ?a1 ?assign ?body ?done ?stop
  case assign =>
    intro l x W K hK
    gi_wp2
    exact hK
  case h0 => exact ⟨⟨c1, c2, c3, c4, c5⟩, b0⟩
  case hI =>
    refine OwnFrom.and (OwnFrom.and ((Blk.own _ _ _).from _) (OwnFrom.and ((Blk.own _ _ _).from _) (OwnFrom.and ((Blk.own _ _ _).from _) (OwnFrom.and ((Blk.own _ _ _).from _) ((Blk.own _ _ _).from _))))) ?_
    have := ownFrom_below (β := List (Int × Int)) (n₀ := H) (B := W0.heap.size) (w₀ := w) (by rw [hH.out]; exact Nat.le_refl _) (by omega)
    exact this
  case hIx => exact fun _ _ _ _ _ hs _ _ => hs
  case stop =>
    rintro D c pre W _ _ h _
    exact h.elim
  case body =>
    rintro l pre x W ⟨⟨h1, h2, h3, h4, h5⟩, hbel⟩ hlen
    clear c1 c2 c3 c4 c5 c6 b0
    obtain ⟨lx, hlx⟩ : ∃ a, (low2 pre).1 = a := ⟨_, rfl⟩
    obtain ⟨hy, hhy⟩ : ∃ a, (high2 pre).2 = a := ⟨_, rfl⟩
    obtain ⟨x, y⟩ := x
    rw [hlx] at h3
    rw [hhy] at h4
    have d3 := h3.cell 0 rfl
    have d4 := h4.cell 0 rfl
    have f3 := h3.free 0
    have f4 := h4.free 0
    have hst : Hid (Blk W H 9 #[.string S] ∧ Blk W (H + 1) 9 #[.string ⟨#[]⟩] ∧ Blk W (H + 1 + 1 + 1) 3 #[.int .i64 lx] ∧ Blk W (H + 1 + 1 + 1 + 1) 3 #[.int .i64 hy] ∧ Blk W (H + 1 + 1 + 1 + 1 + 1) 3 #[.int .i64 0] ∧ Below H w W) := Lib.hid ⟨h1, h2, h3, h4, h5, hbel⟩
    replace hlx := Lib.hid hlx
    replace hhy := Lib.hid hhy
    clear h1 h2 h3 h4 h5 hbel hlen z0
    gi_wp2
    refine wpIn_via (wpIn_anyG (fun W' => W'.cell? ⟨H + 1 + 1 + 1 + 1, 0, none⟩ = some (.int .i64 hy)) 7 (by kernel_rfl) (by kernel_rfl) ?_)
    have hS0 : W.drew.cell? ⟨H + 1 + 1 + 1 + 1, 0, none⟩ = some (.int .i64 hy) := d4
    refine wpAnyG_take (i := 3) (v := .int .i64 hy) rfl (by kernel_rfl) (by kernel_rfl) (by kernel_rfl) (by kernel_rfl) (by kernel_rfl) (fun _ _ _ h => h.elim) (.inl ⟨by rfl, fun W' hW' => ?_⟩) hS0 ?_
    · go_simp
    simp only [Act.put, List.getElem_toArray, List.getElem_cons_zero, List.getElem_cons_succ, List.setIfInBounds_toArray, List.set_cons_zero, List.set_cons_succ]
    refine wpAnyG_take (i := 4) (v := .int .i64 y) rfl (by kernel_rfl) (by kernel_rfl) (by kernel_rfl) (by kernel_rfl) (by kernel_rfl) (fun _ _ _ h => h.elim) (.inl ⟨by rfl, fun W' hW' => ?_⟩) hS0 ?_
    · go_simp
    simp only [Act.put, List.getElem_toArray, List.getElem_cons_zero, List.getElem_cons_succ, List.setIfInBounds_toArray, List.set_cons_zero, List.set_cons_succ]
    refine wpAnyG_take (i := 5) (v := .int .i64 (max hy y)) rfl (by kernel_rfl) (by kernel_rfl) (by kernel_rfl) (by kernel_rfl) (by kernel_rfl) (fun _ _ _ h => h.elim) (.inl ⟨by rfl, fun W' hW' => ?_⟩) hS0 ?_
    · go_simp
    simp only [Act.put, List.getElem_toArray, List.getElem_cons_zero, List.getElem_cons_succ, List.setIfInBounds_toArray, List.set_cons_zero, List.set_cons_succ]
    refine wpAnyG_take (i := 1) (v := .int .i64 x) rfl (by kernel_rfl) (by kernel_rfl) (by kernel_rfl) (by kernel_rfl) (by kernel_rfl) (fun _ _ _ h => h.elim) (.inl ⟨by rfl, fun W' hW' => ?_⟩) hS0 ?_
    · go_simp
    simp only [Act.put, List.getElem_toArray, List.getElem_cons_zero, List.getElem_cons_succ, List.setIfInBounds_toArray, List.set_cons_zero, List.set_cons_succ]
    refine wpAnyG_one (i := 0) rfl (by kernel_rfl) (by rfl) ?_
    go_simp
    refine wpAnyG_one (i := 2) rfl (by kernel_rfl) (by rfl) ?_
    go_simp
    refine wpAnyG_one (i := 6) rfl (by kernel_rfl) (by rfl) ?_
    go_simp
    refine wpAnyG_tail 7 (Nat.le_refl _) rfl (by kernel_rfl) ?_
    simp only [List.drop_succ_cons, List.drop_zero]
    go_wp2
    refine onlyN_i ?_
    gi_wp2
    obtain ⟨q1, q2, q3, q4, q5, q6⟩ := hst.out
    clear d3 d4 f3 f4 hS0
    refine ⟨((KeepsOthers.setCell _ _ _).trans (KeepsOthers.setCell _ _ _)).trans (KeepsOthers.drew _), (((KeepsOthers.setCell _ _ _).trans (KeepsOthers.setCell _ _ _)).trans (KeepsOthers.drew _)).walks, ⟨?_, ?_, ?_, ?_, ?_⟩, ?_⟩
    · exact (q1.other (b' := H + 1 + 1 + 1) (j := 0) _ (by omega)).other (b' := H + 1 + 1 + 1 + 1) (j := 0) _ (by omega)
    · exact (q2.other (b' := H + 1 + 1 + 1) (j := 0) _ (by omega)).other (b' := H + 1 + 1 + 1 + 1) (j := 0) _ (by omega)
    · rw [low2_snoc, hlx.out]
      exact (q3.set (j := 0) (.int .i64 (min lx x))).other (b' := H + 1 + 1 + 1 + 1) (j := 0) (.int .i64 (max hy y)) (by omega)
    · rw [high2_snoc, hhy.out]
      exact (q4.other (b' := H + 1 + 1 + 1) (j := 0) (.int .i64 (min lx x)) (by omega)).set (j := 0) (.int .i64 (max hy y))
    · exact (q5.other (b' := H + 1 + 1 + 1) (j := 0) _ (by omega)).other (b' := H + 1 + 1 + 1 + 1) (j := 0) _ (by omega)
    · exact ((q6.setCell (p := ⟨H + 1 + 1 + 1, 0, none⟩) (by show H ≤ H + 1 + 1 + 1; omega) _).setCell (p := ⟨H + 1 + 1 + 1 + 1, 0, none⟩) (by show H ≤ H + 1 + 1 + 1 + 1; omega) _).drew
  case done =>
    rintro D xs W hD hxs ⟨⟨h1, h2, h3, h4, h5⟩, hbel⟩ hK
    have hcnt : cnt (n : Int) = n := by unfold cnt; omega
    rw [hcnt] at hxs
    obtain rfl : xs = places n := hxs
    have hD1 : H + 1 + 1 + 1 + 1 + 1 + 1 + 1 ≤ D := by omega
    have hD2 : D < W.heap.size := (Array.getElem?_eq_some_iff.1 hK).1
    obtain ⟨lx, hlx⟩ : ∃ a, (low2 (places n)).1 = a := ⟨_, rfl⟩
    obtain ⟨hy, hhy⟩ : ∃ a, (high2 (places n)).2 = a := ⟨_, rfl⟩
    rw [hlx] at h3
    rw [hhy] at h4
    have hst : Hid (Blk W H 9 #[.string S] ∧ Blk W (H + 1) 9 #[.string ⟨#[]⟩] ∧ Blk W (H + 1 + 1 + 1) 3 #[.int .i64 lx] ∧ Blk W (H + 1 + 1 + 1 + 1) 3 #[.int .i64 hy] ∧ Below H w W ∧ W.heap[D]? = some (.deferred (some []))) := Lib.hid ⟨h1, h2, h3, h4, hbel, hK⟩
    replace hlx := Lib.hid hlx
    replace hhy := Lib.hid hhy
    replace h5 := Lib.hid h5
    clear h1 h2 h3 h4 hbel hK hcnt z0 c1 c2 c3 c4 c5 c6 b0 hD
    gi_wp2
    gi_loopw [] (fun wr => ∃ k : Nat, k ≤ d ∧ Hid (Blk wr H 9 #[.string S] ∧ Blk wr (H + 1) 9 #[.string ⟨#[]⟩] ∧ Blk wr (H + 1 + 1 + 1) 3 #[.int .i64 lx] ∧ Blk wr (H + 1 + 1 + 1 + 1) 3 #[.int .i64 hy] ∧ Below H w wr ∧ wr.heap[D]? = some (.deferred (some [])) ∧ W.heap.size ≤ wr.heap.size) ∧ Blk wr (H + 1 + 1 + 1 + 1 + 1) 3 #[.int .i64 k])
      (fun wr => d - (intOf ((wr.cell? ⟨H + 1 + 1 + 1 + 1 + 1, 0, none⟩).getD undef)).toNat)
    case atStart => exact ⟨0, Nat.zero_le _, ⟨hst.out.1, hst.out.2.1, hst.out.2.2.1, hst.out.2.2.2.1, hst.out.2.2.2.2.1, hst.out.2.2.2.2.2, Nat.le_refl _⟩, h5.out⟩
    case round =>
      clear h5
      obtain ⟨k, hk, hI, h5⟩ := hrel
      have d1 := hI.out.1.cell 0 rfl
      have d5 := h5.cell 0 rfl
      have f5 := h5.free 0
      have j6 : (0 : Int) ≤ (k : Int) := by omega
      by_cases hlt : k < d
      · have j4 : k < S.size := by omega
        have j5 : (k : Int) < (S.size : Int) := by omega
        have hne : (S[k]'j4).toNat ≠ 10 := fun e => hd2.out k j4 hlt (by omega)
        replace h5 := Lib.hid h5
        gi_wp2
        go_roundw
        case rel =>
          obtain ⟨q1, q2, q3, q4, q5, q6, q7⟩ := hI.out
          refine ⟨k + 1, by omega, ⟨q1.other (b' := H + 1 + 1 + 1 + 1 + 1) (j := 0) _ (by omega), q2.other (b' := H + 1 + 1 + 1 + 1 + 1) (j := 0) _ (by omega), q3.other (b' := H + 1 + 1 + 1 + 1 + 1) (j := 0) _ (by omega), q4.other (b' := H + 1 + 1 + 1 + 1 + 1) (j := 0) _ (by omega),
            q5.setCell (p := ⟨H + 1 + 1 + 1 + 1 + 1, 0, none⟩) (by show H ≤ H + 1 + 1 + 1 + 1 + 1; omega) _, (KeepsOthers.setCell _ _ _).same D _ q6 rfl, Nat.le_trans q7 (KeepsOthers.setCell _ _ _).size⟩, ?_⟩
          exact h5.out.set (j := 0) (.int .i64 ((k : Int) + 1))
        case measure =>
          rw [World.cell?_setCell_same' _ _ _ (by rw [d5]; rfl), d5]
          simp [intOf]
          omega
      · have e : k = d := by omega
        subst e
        by_cases hs : k < S.size
        all_goals
          try have hten : (S[k]'hs).toNat = 10 := by have := hd3.out hs; omega
          gi_wp2_with (gi_at_call 9; refine callsIn_wide.2 ((walk_any _ _).mono ?_); rintro e w' ⟨rfl, rfl⟩)
          obtain ⟨q1, q2, q3, q4, q5, q6, q7⟩ := hI.out
          obtain ⟨B, hB⟩ : ∃ B, wr.heap.size = B := ⟨_, rfl⟩
          obtain ⟨W1, hW1⟩ : ∃ W1, (wr.alloc (Obj.cells #[Value.slice none 0 0] 55)).alloc (Obj.cells #[Value.int .i64 (n : Int)] 3) = W1 := ⟨_, rfl⟩
          have k1 : Below B wr W1 := by
            rw [← hW1, ← hB]
            exact ((Below.refl _ wr).alloc (Nat.le_refl _) _).alloc (by simp) _
          rw [← hB] at k1
          have e1 := q1.below k1
          have e2 := q2.below k1
          have e3 := q3.below k1
          have e4 := q4.below k1
          have e5 := h5.below k1
          have e6 := (k1.block D (Array.getElem?_eq_some_iff.1 q6).1).trans q6
          have hHB : H + 1 + 1 + 1 + 1 + 1 + 1 + 1 ≤ B ∧ D < B := by omega
          have e7 : Below H w W1 := q5.trans (k1.mono (by omega))
          rw [hB] at k1
          have r1 : Boxed W1 B 55 (.slice none 0 0) := by rw [← hW1, ← hB]; exact (Boxed.new _ _ _).alloc _
          have r2 : Blk W1 (B + 1) 3 #[.int .i64 (n : Int)] := by
            have := Blk.new (wr.alloc (Obj.cells #[Value.slice none 0 0] 55)) 3 #[.int .i64 (n : Int)]
            rw [hW1, World.size_alloc, hB] at this
            exact this
          have z1 : W1.heap.size = B + 1 + 1 := by rw [← hW1]; simp [hB]
          rw [hW1, hB]
          replace hW1 := Lib.hid hW1
          replace hB := Lib.hid hB
          clear q1 q2 q3 q4 q5 q6 q7 d1 d5 f5 k1 hst hI h5
          refine wpIn_rangeFunc_ownF rfl (by omega) (gf := 20) (lb := #[.pointer (some ⟨B + 1, 0, none⟩)]) rfl trivial (enters_of Try.func20 (by kernel_rfl) rfl)
            ((seqStopsA_iff ..).1 (walk_stops_g (fun k : Nat => k) (fun x => pairE (spot (x % n))) n n (fun j hj => by show pairE (spot (j % n)) = _; rw [Nat.mod_eq_of_lt hj]) (by omega) (B + 1) 9 W1 (by omega) (r2.cell 0 rfl))) walksK_t walksK_b (Below.refl _ _) (fun _ => rfl)
            (fun pre V => (((Blk V H 9 #[.string S] ∧ Blk V (H + 1) 9 #[.string ⟨#[]⟩] ∧ Blk V (H + 1 + 1 + 1) 3 #[.int .i64 lx] ∧ Blk V (H + 1 + 1 + 1 + 1) 3 #[.int .i64 hy] ∧ Blk V (H + 1 + 1 + 1 + 1 + 1) 3 #[.int .i64 (k : Int)]) ∧
              (∃ v, Boxed V B 55 v ∧ V.ownsRow (B + 1 + 1) 5 1 v pre.length (Lib.byteCells (pre.map fun x => L.getD (x % n) 0)) ∧ True)) ∧ V.heap[D]? = some (.deferred (some []))) ∧ Below H w V ∧ B + 1 + 1 ≤ V.heap.size)
            (fun _ _ _ => False)
            ?_ ?_ ?_ ?_ ?_ ?_ ?_ ?_
          · refine OwnFrom.and (OwnFrom.and (OwnFrom.and (OwnFrom.and ((Blk.own _ _ _).from _) (OwnFrom.and ((Blk.own _ _ _).from _) (OwnFrom.and ((Blk.own _ _ _).from _) (OwnFrom.and ((Blk.own _ _ _).from _) ((Blk.own _ _ _).from _))))) (Own.from (holdsRow_own (B + 1 + 1) B 55 5 1 (fun pre : List Nat => pre.length) (fun pre => Lib.byteCells (pre.map fun x => L.getD (x % n) 0)) (fun _ _ => True)) _)) (ownFrom_obj (by omega) _)) (OwnFrom.and ?_ (fun _ _ _ _ hs hg _ => Nat.le_trans hs hg.size))
            have := ownFrom_below (β := List Nat) (n₀ := H) (B := W1.heap.size) (w₀ := w) (by rw [hH.out]; exact Nat.le_refl _) (by omega)
            exact this
          · exact fun _ _ _ _ _ hs _ _ => hs
          · exact ⟨⟨⟨⟨e1, e2, e3, e4, e5⟩, _, r1, World.ownsRow_nil _ _ _ _, trivial⟩, e6⟩, e7, by omega⟩
          rotate_left 1
          · intro l x W K hK
            gi_wp2
            exact hK
          · rintro l pre x V ⟨⟨⟨⟨h1, h2, h3, h4, h5⟩, v, hv, hrow, _⟩, hdf⟩, hbel, hBV⟩ hlen
            obtain ⟨m, hm0⟩ : ∃ m, x % n = m := ⟨_, rfl⟩
            have hm : m < n := by rw [← hm0]; exact Nat.mod_lt _ (by omega)
            have hk1 : k = wid n + 1 := hd4.out (by omega)
            obtain ⟨X, hX⟩ : ∃ X, (spot m).1 = X := ⟨_, rfl⟩
            obtain ⟨Y, hY⟩ : ∃ Y, (spot m).2 = Y := ⟨_, rfl⟩
            obtain ⟨R, hR⟩ : ∃ R, rowOf n m = R := ⟨_, rfl⟩
            obtain ⟨W2, hW2⟩ : ∃ W2, wid n + 2 = W2 := ⟨_, rfl⟩
            obtain ⟨q, hq⟩ : ∃ q, R * W2 = q := ⟨_, rfl⟩
            obtain ⟨j, hj⟩ : ∃ j, idx n m = j := ⟨_, rfl⟩
            have t1 := rowOf_eq hm
            have t2 := colOf_eq hm
            have t3 := idx_lt hm
            have t4 : idx n m = rowOf n m * (wid n + 2) + colOf n m := rfl
            have hsz : S.size = (hei n + 1) * (wid n + 2) ∧ drawB L = layB L n n := by
              have hne : L ≠ [] := fun e => by
                have := hn.out
                rw [e] at this
                have : (0 : Nat) = n := this
                omega
              have hd : drawB L = layB L n n := by rw [drawB, if_neg hne, hn.out]
              refine ⟨?_, hd⟩
              rw [← hS.out]
              show (drawB L).toArray.size = _
              rw [List.size_toArray, hd, layB_length]
            rw [hhy.out, hY, hR] at t1
            rw [hlx.out, hX] at t2
            rw [← hsz.1, hj] at t3
            rw [hR, hW2, hq, hj] at t4
            have t6 := spot_bd m
            rw [hX, hY] at t6
            have hSj : ∀ h : j < S.size, S[j]'h = L.getD m 0 := fun h => by
              have := lay_at L hm n (Nat.le_refl _) hm
              rw [hj] at this
              rw [str_at hS.out h, hsz.2, List.getD_eq_getElem?_getD, this]
              rfl
            have t7 := low2_bd n
            have t8 := low2_le n
            have t9 := high2_ge n
            have t10 := high2_bd n
            rw [hlx.out] at t7 t8
            rw [hhy.out] at t9 t10
            obtain ⟨p1, p2, p3, p4, p5, p6, p7⟩ : -(4096 : Int) ≤ lx ∧ lx ≤ 0 ∧ 0 ≤ hy ∧ hy ≤ 4096 ∧ (-4096 : Int) ≤ X ∧ X ≤ 4096 ∧ (-4096 ≤ Y ∧ Y ≤ 4096) := by omega
            have o1 : hy - Y = (R : Int) := by omega
            have o2 : (k : Int) + 1 = (W2 : Int) := by omega
            have o3 : (R : Int) * (W2 : Int) = (q : Int) := by rw [← hq, Int.natCast_mul]
            have o5 : (q : Int) + X - lx = (j : Int) := by omega
            have j1 : j < S.size := t3
            have j2 : (j : Int) < (S.size : Int) := by omega
            have j3 : (0 : Int) ≤ (j : Int) := by omega
            have j4 : (q : Int) ≤ 1073741824 := by omega
            have j5 : (R : Int) ≤ 16384 := by omega
            have j6 : (W2 : Int) ≤ 16384 := by have := wid_le n; omega
            have d1 := h1.cell 0 rfl
            have d3 := h3.cell 0 rfl
            have d4 := h4.cell 0 rfl
            have d5 := h5.cell 0 rfl
            have d6 := hv.cell
            have f6 := hv.frozen
            replace hsz := Lib.hid hsz
            replace hSj := Lib.hid hSj
            have hst : Hid ((Blk V H 9 #[.string S] ∧ Blk V (H + 1) 9 #[.string ⟨#[]⟩] ∧ Blk V (H + 1 + 1 + 1) 3 #[.int .i64 lx] ∧ Blk V (H + 1 + 1 + 1 + 1) 3 #[.int .i64 hy] ∧ Blk V (H + 1 + 1 + 1 + 1 + 1) 3 #[.int .i64 (k : Int)]) ∧
              (Boxed V B 55 v ∧ V.ownsRow (B + 1 + 1) 5 1 v pre.length (Lib.byteCells (pre.map fun x => L.getD (x % n) 0))) ∧ V.heap[D]? = some (.deferred (some [])) ∧ Below H w V ∧ B + 1 + 1 ≤ V.heap.size) := Lib.hid ⟨⟨h1, h2, h3, h4, h5⟩, ⟨hv, hrow⟩, hdf, hbel, hBV⟩
            replace hX := Lib.hid hX
            replace hY := Lib.hid hY
            replace hm0 := Lib.hid hm0
            replace hk1 := Lib.hid hk1
            clear hR hW2 hq hj t1 t2 t3 t4 t6 t7 t8 t9 t10 h1 h2 h3 h4 h5 hv hrow hdf hbel hBV e1 e2 e3 e4 e5 e6 e7 r1 r2 z1
            have g1 : (spot (x % n)).1 = X := by rw [hm0.out, ← hX.out]
            have g2 : (spot (x % n)).2 = Y := by rw [hm0.out, ← hY.out]
            rw [g1, g2]
            clear g1 g2
            gi_wp2
            refine wpIn_via (wpIn_anyG (fun V' => V'.cell? ⟨B, 0, none⟩ = some v ∧ V'.cell? ⟨H, 0, none⟩ = some (.string S)) 5 (by kernel_rfl) (by kernel_rfl) ?_)
            have hS0 : V.drew.cell? ⟨B, 0, none⟩ = some v ∧ V.drew.cell? ⟨H, 0, none⟩ = some (.string S) := ⟨d6, d1⟩
            refine wpAnyG_take (i := 0) (v := v) rfl (by kernel_rfl) (by kernel_rfl) (by kernel_rfl) (by kernel_rfl) (by kernel_rfl) (fun _ _ _ h => h.elim) (.inl ⟨by rfl, fun W' hW' => ?_⟩) hS0 ?_
            · have u1 := hW'.1
              go_simp
            simp only [Act.put, List.getElem_toArray, List.getElem_cons_zero, List.setIfInBounds_toArray, List.set_cons_zero, List.set_cons_succ]
            refine wpAnyG_take (i := 1) (v := .string S) rfl (by kernel_rfl) (by kernel_rfl) (by kernel_rfl) (by kernel_rfl) (by kernel_rfl) (fun _ _ _ h => h.elim) (.inl ⟨by rfl, fun W' hW' => ?_⟩) hS0 ?_
            · have u1 := hW'.2
              go_simp
            simp only [Act.put, List.getElem_toArray, List.getElem_cons_zero, List.getElem_cons_succ, List.setIfInBounds_toArray, List.set_cons_zero, List.set_cons_succ]
            refine wpAnyG_take (i := 2) (v := .int .i64 (j : Int)) rfl (by kernel_rfl) (by kernel_rfl) (by kernel_rfl) (by kernel_rfl) (by kernel_rfl) (fun _ _ _ h => h.elim) (.inl ⟨by rfl, fun W' hW' => ?_⟩) hS0 ?_
            · go_simp
            simp only [Act.put, List.getElem_toArray, List.getElem_cons_zero, List.getElem_cons_succ, List.setIfInBounds_toArray, List.set_cons_zero, List.set_cons_succ]
            refine wpAnyG_take (i := 3) (v := .int .u8 ((S[j]'j1).toNat : Int)) rfl (by kernel_rfl) (by kernel_rfl) (by kernel_rfl) (by kernel_rfl) (by kernel_rfl) (fun _ _ _ h => h.elim) (.inl ⟨by rfl, fun W' hW' => ?_⟩) hS0 ?_
            · go_simp
            simp only [Act.put, List.getElem_toArray, List.getElem_cons_zero, List.getElem_cons_succ, List.setIfInBounds_toArray, List.set_cons_zero, List.set_cons_succ]
            refine wpAnyG_one (i := 4) rfl (by kernel_rfl) (by rfl) ?_
            go_simp
            have n1 : B ≠ V.heap.size := by have := (hst.out.2.1.1).lt; omega
            have n2 : H ≠ V.heap.size := by have := (hst.out.2.1.1).lt; omega
            refine ⟨⟨(World.cell?_alloc_lt V _ _ (World.block_lt_of_cell? V _ d6)).trans d6, (World.cell?_alloc_lt V _ _ (World.block_lt_of_cell? V _ d1)).trans d1⟩, ?_⟩
            refine wpAnyG_tail 5 (Nat.le_refl _) rfl (by kernel_rfl) ?_
            simp only [List.drop_succ_cons, List.drop_zero]
            obtain ⟨⟨h1, h2, h3, h4, h5⟩, ⟨hv, hrow⟩, hdf, hbel, hBV⟩ := hst.out
            have hpl : pre.length ≤ 4096 := by omega
            have hc := hv.cell
            clear d1 d3 d4 d5 d6 f6 o1 o2 o3 o5 hS0
            go_wp2_with (at_builtin; refine wpList_append_own _ rfl _ _ 55 rfl (B + 1 + 1) 5 i0 (.int .u8 0) 1 1 bu55 hi hz0 hz1 hz2 rfl (by decide) v _ _ rfl (hrow.alloc _) ⟨V.heap.size, 0, none⟩ 1 1 [.int .u8 ((S[j]'j1).toNat : Int)] rfl rfl (cell_one_l _ _ _) (by simp [Value.oneCell']) (by unfold maxLen; omega) (by omega) (by simp; omega) ?_; intro v' w3 hown' hgrow _; obtain ⟨g', cap', rfl⟩ := ownsRow_succ hown'; obtain ⟨hv1, hv2, hr2, hk2, hp2⟩ := appended_l (tmp := .cells #[.int .u8 ((S[j]'j1).toNat : Int)] 5) hv (by decide) hrow hBV (by omega) hown' (grown_drew hgrow); have hc1 := hv1.cell; have hf1 := hv1.frozen)
            refine onlyN_i ?_
            gi_wp2
            have hSv := hSj.out j1
            clear hc1 hf1 hc
            refine ⟨hk2, hk2.walks, ⟨⟨⟨⟨(hp2.1 H (by omega) (by omega)).trans h1, (hp2.1 (H + 1) (by omega) (by omega)).trans h2, (hp2.1 (H + 1 + 1 + 1) (by omega) (by omega)).trans h3, (hp2.1 (H + 1 + 1 + 1 + 1) (by omega) (by omega)).trans h4, (hp2.1 (H + 1 + 1 + 1 + 1 + 1) (by omega) (by omega)).trans h5⟩, _, hv2, ?_, trivial⟩, (hp2.1 D (by omega) (by omega)).trans hdf⟩, hbel.trans (hp2.2.1.mono (by omega)), Nat.le_trans hBV hp2.2.2⟩⟩
            rw [List.length_append, List.length_singleton, List.map_append, List.map_singleton, hm0.out, ← hSv, Lib.byteCells_append]
            exact hr2
          · rintro D2 xs V hE hxs ⟨⟨⟨⟨h1, h2, h3, h4, h5⟩, v, hv, hrow, _⟩, hdf⟩, hbel, hBV⟩ hK2
            have hxr : xs = List.range n := by rw [show xs = seqF (fun k : Nat => k) n from hxs, seqF]; simp
            have hmap : xs.map (fun x => L.getD (x % n) 0) = L := by
              rw [hxr]
              apply List.ext_getElem?
              intro i
              rw [List.getElem?_map]
              by_cases hin : i < n
              · rw [List.getElem?_range hin, Option.map_some, Nat.mod_eq_of_lt hin, List.getD_eq_getElem?_getD, List.getElem?_eq_getElem (by rw [hn.out]; exact hin)]
                rfl
              · rw [List.getElem?_eq_none (by simp; omega), List.getElem?_eq_none (by rw [hn.out]; omega)]
                rfl
            rw [hmap, show xs.length = n by rw [hxr, List.length_range]] at hrow
            have d6 := hv.cell
            have d2 := h2.cell 0 rfl
            have f2 := h2.free 0
            have hst : Hid (V.heap[D]? = some (.deferred (some [])) ∧ V.heap[D2]? = some (.deferred (some [])) ∧ Below H w V ∧ Blk V (H + 1) 9 #[.string ⟨#[]⟩]) := Lib.hid ⟨hdf, hK2, hbel, h2⟩
            clear h1 h2 h3 h4 h5 hdf hbel hK2 hxs hxr hmap e1 e2 e3 e4 e5 e6 e7 r1 r2 hv
            have hconv := conv_own hn.out hrow
            obtain ⟨A5, c5, rfl⟩ : ∃ A c, v = .slice A n c := by
              rcases hrow.2 with ⟨h, h'⟩ | ⟨g, cap, _, h, _⟩
              · exact ⟨_, _, by rw [h, h']⟩
              · exact ⟨_, _, h⟩
            clear hrow
            gi_wp2
            obtain ⟨q1, q2, q3, q4⟩ := hst.out
            have hne : D ≠ D2 := by omega
            have x1 := (KeepsOthers.setCell V ⟨H + 1, 0, none⟩ (.string ⟨L.toArray⟩)).same D _ q1 rfl
            have x2 := (KeepsOthers.setCell V ⟨H + 1, 0, none⟩ (.string ⟨L.toArray⟩)).same D2 _ q2 rfl
            have y1 : ((V.setCell ⟨H + 1, 0, none⟩ (.string ⟨L.toArray⟩)).putObj D2 (.deferred none)).heap[D]? = some (.deferred (some [])) :=
              ((grownBy_putObj' _ D2 (.deferred none)).block D (Array.getElem?_eq_some_iff.1 x1).1 (fun e => by cases e; exact hne rfl)).trans x1
            have u1 := World.cell?_setCell_same' V ⟨H + 1, 0, none⟩ (.string ⟨L.toArray⟩) (by rw [d2]; rfl)
            have u2 := cell_kept u1 (grownBy_putObj' _ D2 (.deferred none)) (fun r e => by cases e; exact ⟨_, x2, rfl⟩)
            have u3 := cell_kept u2 (grownBy_putObj' _ D (.deferred none)) (fun r e => by cases e; exact ⟨_, y1, rfl⟩)
            refine ⟨by simp, .inl ⟨_, _, rfl, run_takeDeferred x2, ?_⟩⟩
            refine ⟨by simp, .inl ⟨_, _, rfl, run_takeDeferred y1, ?_⟩⟩
            refine ⟨.string ⟨L.toArray⟩, ?_, rfl, ?_⟩
            · simp [results, Try.f16, go_sem, u3]
            · have zz := hH.out
              rw [hH.out]
              exact ((q3.setCell (p := ⟨H + 1, 0, none⟩) (by show H ≤ H + 1; omega) _).trans (belowK_b (w := w) (by omega) _ D2 _ _ (by omega) x2 rfl rfl)).trans (belowK_b (w := w) (by omega) _ D _ _ (by omega) y1 rfl rfl)
          · rintro D c pre W _ _ h _
            exact h.elim

end Go.Proofs.Ytafdbibjcohdbaa
