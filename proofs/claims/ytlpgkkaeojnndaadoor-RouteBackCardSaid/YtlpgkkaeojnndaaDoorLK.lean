/-
  RouteBack: the law's body.
-/
import Derived.Test.YtlpgkkaeojnndaaDoorLT
import Derived.RangeFuncBox
import Derived.RangeFuncLeaves
import Derived.WalkKit
import Derived.OwnWalkIn
import Derived.TacticsInMore
import Derived.Maps.AppendAt
import Derived.Deep.RegionWith
namespace Go.Proofs.YtlpgkkaeojnndaaDoor
open Go.RowKit

attribute [local go_sem] Oper.semAt_some strE

theorem Tryd.underlying27 : Tryd.prog.underlying 27 = some (.slice 9) := by kernel_rfl
theorem Tryd.info9s : (Tryd.prog.info? 9).map (fun i => (i.zero, i.size, i.bytes)) = some (some (.string ⟨#[]⟩), 1, 16) := by kernel_rfl

theorem ownsRow_down {W : World} {base base' : Nat} {e : TypeId} {size : Nat} {v : Value} {k : Nat} {xs : List Value} (h : W.ownsRow base e size v k xs) (hb : base' ≤ base) : W.ownsRow base' e size v k xs := by
  refine ⟨h.1, h.2.imp id ?_⟩
  rintro ⟨g, cap, cur, h1, h2, h3⟩
  exact ⟨g, cap, cur, h1, Nat.le_trans hb h2, h3⟩

/-- A box below the rows: what lies between is left alone by an append. -/
theorem appended_kept {W w1 : World} {n₀ B lo up : Nat} {t e : TypeId} {size : Nat} {v v' : Value} {k m : Nat} {xs ys : List Value} {tmp : Obj}
    (hv : Boxed W B t v) (hte : t ≠ e) (hrow : W.ownsRow n₀ e size v k xs) (hn₀ : n₀ ≤ W.heap.size) (hB : B < lo) (hBn : B < n₀) (hup : up ≤ n₀)
    (hown' : w1.ownsRow n₀ e size v' m ys) (hgrow : (W.alloc tmp).grownBy w1 v.ownBlock) :
    Boxed w1 B t v ∧ Boxed (w1.setCell ⟨B, 0, none⟩ v') B t v' ∧ (w1.setCell ⟨B, 0, none⟩ v').ownsRow n₀ e size v' m ys ∧ KeepsOthers W (w1.setCell ⟨B, 0, none⟩ v') ∧ KpR lo up W (w1.setCell ⟨B, 0, none⟩ v') ∧ Below B W (w1.setCell ⟨B, 0, none⟩ v') := by
  obtain ⟨h1, h2, _, h4, h5⟩ := Boxed.appended hv hte (ownsRow_down hrow (by omega : B ≤ n₀)) (by omega) (Nat.le_refl _) (ownsRow_down hown' (by omega : B ≤ n₀)) hgrow
  refine ⟨h1, h2, hown'.kept (grownBy_setCell' w1 B v') (.inr (h1.not_row hte hown').symm), h4, fun b hb1 hb2 => ?_, h5⟩
  have hb : b < W.heap.size := by omega
  refine (Below.heap_setCell w1 ⟨B, 0, none⟩ v' b (by show b ≠ B; omega)).trans ((hgrow.block b (by simp; omega) fun e => ?_).trans (Below.heap_alloc W tmp b hb))
  have := (hrow.lt b e.symm).1
  omega

theorem joinAB : joinR [⟨#[97]⟩, ⟨#[98]⟩] = (⟨#[97, 47, 98]⟩, 0) := by
  rw [joinR_yes (by
    refine ⟨?_, by decide, by decide, by decide⟩
    intro x hx
    simp only [List.mem_cons, List.not_mem_nil, or_false] at hx
    rcases hx with rfl | rfl <;> decide)]
  rfl

theorem box_go {w W W' : World} {H D : Nat} {v : Value} (h : Hid (Boxed W H 27 v ∧ Below H w W ∧ W.heap[D]? = some (.deferred (some [])) ∧ H < W.heap.size)) (hb : Below W.heap.size W W') :
    Hid (Boxed W' H 27 v ∧ Below H w W' ∧ W'.heap[D]? = some (.deferred (some [])) ∧ H < W'.heap.size) := by
  obtain ⟨h1, h2, h3, h4⟩ := h.out
  have hz := hb.size
  exact Lib.hid ⟨(hb.block H h4).trans h1, h2.trans (hb.mono (by omega)), (hb.block D (Array.getElem?_eq_some_iff.1 h3).1).trans h3, by omega⟩

theorem box_go2 {w W W' : World} {H D g q : Nat} {v u : Value} (h : Hid ((Boxed W H 27 v ∧ Below H w W ∧ W.heap[D]? = some (.deferred (some [])) ∧ H < W.heap.size) ∧ W.cell? ⟨g, q, none⟩ = some u)) (hb : Below W.heap.size W W') :
    Hid ((Boxed W' H 27 v ∧ Below H w W' ∧ W'.heap[D]? = some (.deferred (some [])) ∧ H < W'.heap.size) ∧ W'.cell? ⟨g, q, none⟩ = some u) :=
  Lib.hid ⟨(box_go (Lib.hid h.out.1) hb).out, (hb.cell (p := ⟨g, q, none⟩) (World.block_lt_of_cell? W _ h.out.2)).trans h.out.2⟩

theorem hid_drew {w W : World} {H D g q : Nat} {v u : Value} (h : Hid ((Boxed W H 27 v ∧ Below H w W ∧ W.heap[D]? = some (.deferred (some [])) ∧ H < W.heap.size) ∧ W.cell? ⟨g, q, none⟩ = some u)) :
    Hid ((Boxed W.drew H 27 v ∧ Below H w W.drew ∧ W.drew.heap[D]? = some (.deferred (some [])) ∧ H < W.drew.heap.size) ∧ W.drew.cell? ⟨g, q, none⟩ = some u) :=
  Lib.hid ⟨⟨h.out.1.1, h.out.1.2.1.trans (by constructor <;> first | rfl | exact Nat.le_refl _ | (intro b _; rfl)), h.out.1.2.2⟩, h.out.2⟩
/-- The statement ends as statements do, and in no other way. -/
def onlyN (K : Act → World → Prop) : Exit → Act → World → Prop
  | .normal, a, w => K a w
  | _, _, _ => False
theorem onlyN_i {K : Act → World → Prop} {a : Act} {w : World} (h : K a w) : onlyN K .normal a w := h
theorem wp_via {P : Program} {c : Code} {Q : Exit → Act → World → Prop} {a : Act} {w : World} (h : c.wp P (onlyN (Q .normal)) a w) : c.wp P Q a w :=
  Code.wp_mono (fun e a w hq => by cases e <;> first | exact hq | exact False.elim hq) h
theorem wrap_small_i {q : Nat} (h : q ≤ 4294967296) : IntKind.i64.wrap (q : Int) = (q : Int) := IntWalk.i64_in (q : Int) (by omega)
theorem wrap_small {q : Nat} (h : q ≤ 4294967296) : wrap64 (q : Int) = (q : Int) := by unfold wrap64; omega
theorem piecesB_pos (s : ByteArray) : 1 ≤ (piecesB s).length := by
  obtain ⟨p, ps, e⟩ := pieces_cons s.data.toList
  unfold piecesB
  rw [List.length_map, e, List.length_cons]
  omega
theorem lastB_at {L : List ByteArray} {q : Nat} (h : L.length = q + 1) : L[q]? = some (lastB L) := by
  unfold lastB
  rw [List.getLast?_eq_getElem?, show L.length - 1 = q by omega, List.getElem?_eq_getElem (by omega)]
  rfl
theorem join_back {s : ByteArray} (h : validB s = true) : joinR (piecesB s) = (s, 0) := by
  have hs := valid_size h
  obtain ⟨h1, h2⟩ := (valid_iff s hs).2 (of_decide_eq_true h)
  have hd : datas (piecesB s) = pieces s.data.toList := piecesB_datas s
  have h0 := piecesB_pos s
  have hl := join_length (piecesB s) (fun e => by rw [e] at h0; exact absurd h0 (by decide))
  rw [hd, join_pieces, size_data] at hl
  rw [joinR_yes ⟨h1, by omega, h0, h2⟩, hd, join_pieces]
theorem piecesB_le (s : ByteArray) (hs : s.size ≤ 9223372036854775807) (x : ByteArray) (hx : x ∈ piecesB s) : x.size ≤ 9223372036854775807 := Nat.le_trans (pieces_size s x hx) hs

theorem strs2 (W : World) (a b : ByteArray) : Strs (W.alloc (.cells #[.string a, .string b] 9)) W.heap.size 0 [a, b] := by
  have e := World.alloc_heap_new W (.cells #[.string a, .string b] 9)
  rintro (_ | _ | j) x hx
  · cases hx
    unfold World.cell?
    rw [e]
    rfl
  · cases hx
    unfold World.cell?
    rw [e]
    rfl
  · simp at hx

set_option maxRecDepth 100000 in
set_option maxHeartbeats 4000000 in
theorem back_in (s : ByteArray) (hs : s.size ≤ 140737488355328) (w : World) :
    CallsIn Fence.wide 10 Tryd.prog 7 #[.string s] w fun e w' => e = .returned (.bool true) ∧ Below w.heap.size w w' := by
  have hN := fun W => names_of s (by omega) W
  obtain ⟨L, hL⟩ : ∃ L, namesB s = L := ⟨_, rfl⟩
  rw [hL] at hN
  have hJ := fun (W : World) => join_some [⟨#[97]⟩, ⟨#[98]⟩] W.heap.size 0 2 (W.alloc (.cells #[.string ⟨#[97]⟩, .string ⟨#[98]⟩] 9)) (by decide) (by
    intro x hx
    simp only [List.mem_cons, List.not_mem_nil, or_false] at hx
    rcases hx with rfl | rfl <;> decide) (by decide) (strs2 W _ _) (by decide)
  rw [joinAB] at hJ
  have hL2 : L.length ≤ 4294967296 := by
    rw [← hL]
    unfold namesB
    split
    · rename_i h; exact pieces_bd s (by have := valid_size h; omega)
    · simp
  have hM1 : Hid (L.length ≤ maxLen) := Lib.hid (Nat.le_trans hL2 (by decide))
  have hM2 : Hid (L.length * 16 ≤ 140737488355328) := Lib.hid (Nat.le_trans (Nat.mul_le_mul_right 16 hL2) (by decide))
  replace hL2 := Lib.hid hL2
  obtain ⟨i0, hi, hz0, hz1, hz2⟩ := info_parts Tryd.info9s
  refine callsIn_of_wp_marks Tryd.func7 rfl trivial ?_ rfl
  simp only [Tryd.ntmps7, List.size_toArray, List.length_cons, List.length_nil, Nat.reduceAdd, Nat.reduceSub, Array.replicate_succ, Array.replicate_zero, List.push_toArray, List.append_toArray, List.nil_append, List.cons_append]
  gi_wp2_with (first
    | (gi_at_call 15; refine callsIn_wide.2 ((hN _).mono ?_); clear hN; rintro e w1 ⟨gf, lb, rfl, hb1, hgv⟩; replace hgv := Lib.hid hgv; replace hb1 := Lib.hid hb1)
    | (gi_at_call 23; refine callsIn_wide.2 ((hJ _).mono ?_); clear hJ; rintro e w2 ⟨rfl, hb2⟩; replace hb2 := Lib.hid hb2)
    | (rw [show ∀ g (a : Array Value) W, (binOp BinOp.eql 30 (Value.func (Fn.func g) #[] a) Value.nilFunc).run Tryd.prog W = .ok (.bool false) W from fun g a W => by kernel_rfl]))
  obtain ⟨H, hH⟩ : ∃ H, w.heap.size = H := ⟨_, rfl⟩
  obtain ⟨up, hup⟩ : ∃ up, w1.heap.size = up := ⟨_, rfl⟩
  obtain ⟨m, hm⟩ : ∃ m, w2.heap.size = m := ⟨_, rfl⟩
  have z1 := hb1.out.size
  have z2 := hb2.out.size
  rw [World.size_alloc, hH, hup] at z1
  rw [World.size_alloc, hup, hm] at z2
  have bO := Boxed.new w 27 (.slice none 0 0)
  rw [hH] at bO
  have b1 : Boxed w1 H 27 (.slice none 0 0) := (hb1.out.block H (by simp; omega)).trans bO
  have b2 : Boxed w2 H 27 (.slice none 0 0) := (hb2.out.block H (by simp; omega)).trans (b1.alloc _)
  have hB : Below H w w2 := ((((Below.refl _ w).alloc (by omega) _).trans (hb1.out.mono (by simp; omega))).alloc (by omega) _).trans (hb2.out.mono (by simp; omega))
  have hg2 := hgv.out
  rw [World.size_alloc, hH] at hg2
  have hb12 : Below w1.heap.size w1 w2 := ((Below.refl _ w1).alloc (by omega) _).trans (hb2.out.mono (by simp))
  rw [hH]
  refine wpIn_rangeFunc_ownF rfl (by omega) (gf := gf) (lb := lb) rfl trivial hg2.1 (hg2.2 9) KpR.t (KpR.b (lo := H + 1) (up := w1.heap.size) (by omega)) hb12 (fun _ => rfl)
    (fun pre W => (∃ v, Boxed W H 27 v ∧ W.ownsRow m 9 1 v pre.length (pre.map Value.string) ∧ True) ∧ Below H w W ∧ m ≤ W.heap.size)
    (fun _ _ _ => False)
    (OwnFrom.and (Own.from (holdsRow_own m H 27 9 1 (fun pre : List ByteArray => pre.length) (fun pre => pre.map Value.string) (fun _ _ => True)) _) (OwnFrom.and (ownFrom_below (by omega) (by omega)) (fun _ _ _ _ hs hg _ => Nat.le_trans hs hg.size)))
    (fun _ _ _ _ _ hs _ _ => hs)
    ⟨⟨_, b2, World.ownsRow_nil _ _ _ _, trivial⟩, hB, by omega⟩ ?a1 ?assign ?body ?done ?stop
  case assign =>
    intro l x W K hK
    gi_wp2
    exact hK
  case stop =>
    rintro D c pre W _ _ h _
    exact h.elim
  case body =>
    rintro l pre x W ⟨⟨v, hv, hrow, _⟩, hbl, hmW⟩ hlt
    have hM1' := hM1.out
    have hM2' := hM2.out
    have hc := hv.cell
    clear b1 b2 bO
    gi_wp2_with (gi_at_builtin; refine wpListIn_append_own _ rfl _ _ 27 rfl m 9 i0 (.string ⟨#[]⟩) 1 16 Tryd.underlying27 hi hz0 hz1 hz2 rfl (by decide) _ _ _ rfl (hrow.alloc _) ⟨W.heap.size, 0, none⟩ 1 1 [.string x] rfl rfl (cell_one_new _ _ _) (by simp [Value.oneCell']) (by omega) (by omega) (by simp; omega) ?_; intro v' w3 hown' hgrow _; obtain ⟨g', cap', rfl⟩ := ownsRow_succ hown'; obtain ⟨hv1, hv2, hr2, hk2, hp2, hbb⟩ := appended_kept (lo := H + 1) (up := w1.heap.size) hv (by decide) hrow hmW (by omega) (by omega) (by omega) hown' hgrow; have hc1 := hv1.cell; have hf1 := hv1.frozen)
    exact ⟨hk2, hp2, ⟨_, hv2, by simpa using hr2, trivial⟩, hbl.trans hbb, Nat.le_trans hmW hk2.size⟩
  case done =>
    rintro D xs W hD hxs ⟨⟨v, hv, hrow, _⟩, hbl, hmW⟩ hK
    rw [show xs = L from hxs] at hrow
    clear hxs b1 b2 bO hB hb12 hg2
    have hc := hv.cell
    have hDlt : D < W.heap.size := (Array.getElem?_eq_some_iff.1 hK).1
    cases hvb : validB s with
    | false =>
      have hV := fun W => valid_is (by omega) hvb W
      rw [← hL, namesB_not hvb] at hrow
      obtain ⟨A, c, rfl⟩ : ∃ A c, v = .slice A 0 c := by
        rcases hrow.2 with ⟨h, _⟩ | ⟨g, cap, _, h, _⟩
        · exact ⟨_, _, h⟩
        · exact ⟨_, _, h⟩
      have hJn := fun W => join_nil c A W
      have hZ : Hid (Boxed W H 27 (.slice A 0 c) ∧ Below H w W ∧ W.heap[D]? = some (.deferred (some [])) ∧ H < W.heap.size) := Lib.hid ⟨hv, hbl, hK, by omega⟩
      clear hv hbl hK hrow
      gi_wp2_with (first
        | (gi_at_call 23; refine callsIn_wide.2 ((hJn _).mono ?_); clear hJn; rintro e w4 ⟨rfl, hb⟩; replace hZ := box_go hZ hb; clear hb; have hc4 := hZ.out.1.cell)
        | (gi_at_call 13; refine callsIn_wide.2 ((hV _).mono ?_); clear hV; rintro e w5 ⟨rfl, hb⟩; replace hZ := box_go hZ hb; clear hb; have hc5 := hZ.out.1.cell))
      obtain ⟨_, x2, x3, _⟩ := hZ.out
      refine ⟨by simp, .inl ⟨_, _, rfl, run_takeDeferred x3, ?_⟩⟩
      exact ⟨_, results_tmp rfl _ _ _, rfl, by rw [hH]; exact x2.trans (belowK_b (w := w) (by omega) _ D _ _ (by omega) x3 rfl rfl)⟩
    | true =>
      have hV := fun W => valid_is (by omega) hvb W
      have hLp : L = piecesB s := by rw [← hL, namesB_yes hvb]
      have h21 := fun W => base_any s (by omega) W
      rw [hL] at h21
      obtain ⟨q, hq⟩ : ∃ q, L.length = q + 1 := ⟨L.length - 1, by
        have : 1 ≤ L.length := by rw [hLp]; exact piecesB_pos s
        omega⟩
      obtain ⟨bb, hbb⟩ : ∃ bb, lastB L = bb := ⟨_, rfl⟩
      have hLq : L[q]? = some bb := by rw [← hbb]; exact lastB_at hq
      obtain ⟨g, cap, rfl⟩ : ∃ g cap, v = .slice (some ⟨g, 0, none⟩) (q + 1) cap := by
        rw [hq] at hrow
        exact ownsRow_succ hrow
      have hst : Strs W g 0 L := fun j x hx => by
        have e := hrow.cells (g := g) rfl j (.string x) (by rw [List.getElem?_map, hx]; rfl)
        rw [Nat.zero_add]
        by_cases hj : j = 0
        · subst hj; simpa [Addr.add] using e
        · simpa [Addr.add, hj] using e
      have hcap : q + 1 ≤ cap := by
        rcases hrow.2 with ⟨h, _⟩ | ⟨g', cap', _, h, _, _, h3, _⟩
        · cases h
        · injection h with _ _ e3; omega
      have hgc : W.cell? ⟨g, q, none⟩ = some (.string bb) := by have e := hst q bb hLq; rwa [Nat.zero_add] at e
      have hJn : ∀ W, Strs W g 0 L → Calls Tryd.prog 23 #[.slice (some ⟨g, 0, none⟩) (q + 1) cap] W fun e w' => e = .returned (.tuple #[.string s, .int .i64 0]) ∧ Below W.heap.size W w' := fun W hst => by
        have e := join_some L g 0 cap W (Nat.le_trans hL2.out (by decide)) (fun x hx => by rw [hLp] at hx; exact piecesB_le s (by omega) x hx) (by omega) hst (by omega)
        rw [hLp, join_back hvb, ← hLp, hq] at e
        exact e
      have hJ0 := hJn W hst
      have wr64 : wrap64 (q : Int) = (q : Int) := by have := hL2.out; exact wrap_small (by omega)
      have wi64 : IntKind.i64.wrap (q : Int) = (q : Int) := by clear wr64; have := hL2.out; exact wrap_small_i (by omega)
      rw [hbb] at h21
      have hZ : Hid ((Boxed W H 27 (.slice (some ⟨g, 0, none⟩) (q + 1) cap) ∧ Below H w W ∧ W.heap[D]? = some (.deferred (some [])) ∧ H < W.heap.size) ∧ W.cell? ⟨g, q, none⟩ = some (.string bb)) := Lib.hid ⟨⟨hv, hbl, hK, by omega⟩, hgc⟩
      clear hv hbl hK hrow hst hgc hJn hLq hbb hq hLp hcap
      gi_wp2_with (first
        | (gi_at_call 23; refine callsIn_wide.2 (hJ0.mono ?_); clear hJ0; rintro e w4 ⟨rfl, hb⟩; replace hZ := box_go2 hZ hb; clear hb; have hc4 := hZ.out.1.1.cell)
        | (gi_at_call 13; refine callsIn_wide.2 ((hV _).mono ?_); clear hV; rintro e w5 ⟨rfl, hb⟩; replace hZ := box_go2 hZ hb; clear hb; have hc5 := hZ.out.1.1.cell; have hc6 := hZ.out.2))
      have i1 : (q : Int) < (q : Int) + 1 := by clear wr64 wi64; omega
      have i2 : (0 : Int) ≤ (q : Int) := Int.natCast_nonneg q
      have i5 : (0 : Int) < (q : Int) + 1 := by clear wr64 wi64; omega
      refine wpIn_wide.2 (wp_via ?_)
      go_region_with (go_at_call 21; refine (h21 _).mono ?_; rintro e w6 ⟨rfl, hb⟩; have hZ' := box_go2 (hid_drew hZ) hb; have hc7 := hZ'.out.1.1.cell; have hc8 := hZ'.out.2)
      all_goals
        refine onlyN_i ?_
        gi_wp2
        obtain ⟨⟨_, x2, x3, _⟩, _⟩ := hZ'.out
        refine ⟨by simp, .inl ⟨_, _, rfl, run_takeDeferred x3, ?_⟩⟩
        exact ⟨_, results_tmp rfl _ _ _, rfl, by rw [hH]; exact x2.trans (belowK_b (w := w) (by omega) _ D _ _ (by omega) x3 rfl rfl)⟩

theorem law_back (s : ByteArray) (hs : s.size ≤ 140737488351232) (w : World) :
    Calls Tryd.prog 7 #[.string s] w fun e w' => e = .returned (.bool true) ∧ Below w.heap.size w w' :=
  callsIn_wide.1 (back_in s (by omega) w)

end Go.Proofs.YtlpgkkaeojnndaaDoor
