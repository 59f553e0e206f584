/-
  route.Valid tells whether a text is a path.
-/
import Derived.Test.YtlpgkkaeojnndaaDoorV
import Derived.OwnWalk
import Derived.RangeFuncFrom
namespace Go.Proofs.YtlpgkkaeojnndaaDoor
open Go.RowKit

attribute [local go_sem] Oper.semAt_some

/-- What the loop has seen: so many names. -/
def seen (pre : List ByteArray) : Prop := pre.length ≤ 64 ∧ ∀ x ∈ pre, nameL x.data.toList

theorem seen_snoc {pre : List ByteArray} {x : ByteArray} (h : seen pre) (h1 : pre.length < 64) (hx : nameL x.data.toList) : seen (pre ++ [x]) :=
  ⟨by rw [List.length_append, List.length_singleton]; omega, fun y hy => by
    rcases List.mem_append.1 hy with hy | hy
    · exact h.2 y hy
    · rw [List.mem_singleton] at hy; subst hy; exact hx⟩

theorem seen_part {pre rest : List ByteArray} (h : seen (pre ++ rest)) : seen pre :=
  ⟨by have := h.1; rw [List.length_append] at this; omega, fun x hx => h.2 x (List.mem_append_left _ hx)⟩

theorem seen_valid (s : ByteArray) : validL s.data.toList ↔ s.size ≤ 1024 ∧ seen (piecesB s) := by
  unfold validL seen piecesB
  rw [size_data, List.length_map]
  constructor
  · rintro ⟨h, h1, h2⟩
    refine ⟨h, h2, fun x hx => ?_⟩
    obtain ⟨p, hp, rfl⟩ := List.mem_map.1 hx
    exact h1 p hp
  · rintro ⟨h, h2, h1⟩
    exact ⟨h, fun p hp => h1 (bs p) (List.mem_map_of_mem hp), h2⟩

theorem leave_one {w V : World} {B D : Nat} {r : Bool} {tmps : Array Value} (hDw : w.heap.size ≤ D) (hV : Below w.heap.size w V) (hD : V.heap[D]? = some (.deferred (some [])))
    (hc : V.cell? ⟨B, 0, none⟩ = some (.bool r)) (ht : tmps[2]? = some (.pointer (some ⟨B, 0, none⟩)) := by rfl) :
    bodyPostM Fence.wide 10 Tryd.prog Tryd.f13 (fun e w' => e = .returned (.bool r) ∧ Below w.heap.size w w') .ret
      { tmps := tmps, defers := [{ target := .collected D, args := #[] }] } V := by
  have c3 := cell_kept hc (grownBy_putObj' _ D (.deferred none)) (fun r e => by cases e; exact ⟨_, hD, rfl⟩)
  refine ⟨by simp, .inl ⟨_, _, rfl, run_takeDeferred hD, ?_⟩⟩
  refine ⟨.bool r, ?_, rfl, ?_⟩
  · simp [results, Tryd.f13, go_sem, ht, c3]
  · exact hV.trans (belowK_b (w := w) (Nat.le_refl _) _ D _ _ hDw hD rfl rfl)

theorem keeps_of_below {W W' : World} (h : Below W.heap.size W W') : KeepsOthers W W' := ⟨h.size, fun k _ hk _ => (h.block k (Array.getElem?_eq_some_iff.1 hk).1).trans hk⟩
theorem size_set (W : World) (p : Addr) (v : Value) : (W.setCell p v).heap.size = W.heap.size := by simp [World.setCell]

theorem five_cells (s : ByteArray) (w w5 : World) (h : w5 = ((((w.alloc (Obj.cells #[Value.bool false] 4)).alloc (Obj.cells #[Value.int IntKind.i64 0] 3)).alloc (Obj.cells #[Value.string s] 9)).alloc (Obj.cells #[Value.string ⟨#[47]⟩] 9)).alloc (Obj.cells #[Value.int IntKind.i64 0] 3)) :
    (w5.cell? ⟨w.heap.size, 0, none⟩ = some (.bool false) ∧ w5.frozen? ⟨w.heap.size, 0, none⟩ = false) ∧ (w5.cell? ⟨w.heap.size + 1, 0, none⟩ = some (.int .i64 0) ∧ w5.frozen? ⟨w.heap.size + 1, 0, none⟩ = false) ∧
    (w5.cell? ⟨w.heap.size + 1 + 1, 0, none⟩ = some (.string s) ∧ w5.frozen? ⟨w.heap.size + 1 + 1, 0, none⟩ = false) ∧ w5.cell? ⟨w.heap.size + 1 + 1 + 1, 0, none⟩ = some (.string ⟨#[47]⟩) ∧ w5.cell? ⟨w.heap.size + 1 + 1 + 1 + 1, 0, none⟩ = some (.int .i64 0) := by
  subst h
  refine ⟨⟨?_, ?_⟩, ⟨?_, ?_⟩, ⟨?_, ?_⟩, ?_, ?_⟩ <;> go_simp

set_option maxRecDepth 100000 in
set_option maxHeartbeats 4000000 in
theorem valid_in (s : ByteArray) (hs : s.size ≤ 9223372036854775807) (w : World) :
    CallsIn Fence.wide 10 Tryd.prog 13 #[.string s] w fun e w' => e = .returned (.bool (validB s)) ∧ Below w.heap.size w w' := by
  refine callsIn_of_wp_marks Tryd.func13 rfl trivial ?_ rfl
  simp only [Tryd.ntmps13, List.size_toArray, List.length_cons, List.length_nil, Nat.reduceAdd, Nat.reduceSub, Array.replicate_succ, Array.replicate_zero, List.push_toArray, List.append_toArray, List.nil_append, List.cons_append]
  gi_wp2_with (first | (gi_at_call 28; refine callsIn_wide.2 ((splitseq_any s _).mono ?_); rintro e w' ⟨rfl, rfl⟩))
  obtain ⟨H, hH⟩ : ∃ H, w.heap.size = H := ⟨_, rfl⟩
  obtain ⟨w5, hw5⟩ : ∃ w5, ((((w.alloc (Obj.cells #[Value.bool false] 4)).alloc (Obj.cells #[Value.int IntKind.i64 0] 3)).alloc (Obj.cells #[Value.string s] 9)).alloc (Obj.cells #[Value.string ⟨#[47]⟩] 9)).alloc (Obj.cells #[Value.int IntKind.i64 0] 3) = w5 := ⟨_, rfl⟩
  have hsz : w5.heap.size = H + 1 + 1 + 1 + 1 + 1 := by rw [← hw5]; simp [hH]
  have hbl : Below w.heap.size w w5 := by
    rw [← hw5]
    exact (((((Below.refl _ w).alloc (Nat.le_refl _) _).alloc (by simp) _).alloc (by simp; omega) _).alloc (by simp; omega) _).alloc (by simp; omega) _
  obtain ⟨k0, k1, k2, k3, k4⟩ := five_cells s w w5 hw5.symm
  rw [hH] at k0 k1 k2 k3 k4
  rw [hw5, hH]
  rw [hH] at hbl
  clear hw5
  refine wpIn_range_box rfl (by omega) (gf := 50) (lb := #[.pointer (some ⟨H + 1 + 1 + 1, 0, none⟩), .pointer (some ⟨H + 1 + 1, 0, none⟩), .pointer (some ⟨H + 1 + 1 + 1 + 1, 0, none⟩)]) rfl trivial (enters_of Tryd.func50 (by kernel_rfl) rfl)
    (split_stops s hs (H + 1 + 1) 9 w5 (by omega) k2.1 k2.2 k3 k4) (by omega) (by omega) (fun _ => rfl)
    (fun pre W => (seen pre ∧ W.cell? ⟨H + 1, 0, none⟩ = some (.int .i64 (pre.length : Int)) ∧ W.frozen? ⟨H + 1, 0, none⟩ = false ∧ W.cell? ⟨H, 0, none⟩ = some (.bool false) ∧ W.frozen? ⟨H, 0, none⟩ = false) ∧ Below H w W ∧ w5.heap.size ≤ W.heap.size)
    (fun c pre W => (c = .ret ∧ ¬ seen pre ∧ W.cell? ⟨H, 0, none⟩ = some (.bool false)) ∧ Below H w W)
    (fun pre W W' h hk => ⟨⟨h.1.1, cell_blk (hk.block (H + 1) (by omega) (by omega)) h.1.2.1, frozen_blk (hk.block (H + 1) (by omega) (by omega)) h.1.2.2.1, cell_blk (hk.block H (by omega) (by omega)) h.1.2.2.2.1, frozen_blk (hk.block H (by omega) (by omega)) h.1.2.2.2.2⟩, hk.below h.2.1 (by omega) (by omega), Nat.le_trans h.2.2 hk.size⟩)
    (fun c pre W W' h hk => ⟨⟨h.1.1, h.1.2.1, cell_blk (hk.block H (by omega) (by omega)) h.1.2.2⟩, hk.below h.2 (by omega) (by omega)⟩)
    ⟨⟨⟨by simp, fun x hx => by simp at hx⟩, k1.1, k1.2, k0.1, k0.2⟩, hbl, Nat.le_refl _⟩ ?a1 ?assign ?body ?done ?stop
  case assign =>
    intro l x W K hK
    gi_wp2
    exact hK
  case body =>
    rintro l pre x W ⟨⟨hse, c1, f1, c0, f0⟩, hB, hz⟩ _
    have hl64 := hse.1
    obtain ⟨m, hm⟩ : ∃ m, pre.length = m := ⟨_, rfl⟩
    rw [hm] at c1 hl64
    have hm' : Hid (pre.length = m) := hm
    have hse' := Lib.hid hse
    clear hse hm k0 k1 k2 k3 k4 hbl
    have w1 : wrap64 ((m : Int) + 1) = (m : Int) + 1 := by unfold wrap64; omega
    by_cases h64 : m < 64
    · have d1 : decide (64 < (m : Int) + 1) = false := decide_eq_false (by omega)
      by_cases hx : nameL x.data.toList
      · have hr : ∀ W, Calls Tryd.prog 29 #[.string x] W fun e w' => e = .returned (.bool true) ∧ Below W.heap.size W w' := fun W => (name_any x W).mono fun e w' ⟨he, hw⟩ => ⟨by rw [he, name_yes hx], hw⟩
        have hx' := Lib.hid hx
        clear hx
        gi_wp2_with (gi_at_call 29; refine (callsIn_round (hr _)).mono ?_; clear hr; rintro e w' ⟨rfl, hb⟩; have hbb := Lib.hid hb; clear hb)
        refine ⟨(KeepsOthers.setCell W _ _).trans (keeps_of_below hbb.out), fun b h1 h2 => (hbb.out.block b (by rw [size_set]; omega)).trans (Below.heap_setCell _ _ _ b (by simp; omega)),
          ⟨seen_snoc hse'.out (by have := hm'.out; omega) hx'.out, ?_, ?_, ?_, ?_⟩, ((hB.setCell (p := ⟨H + 1, 0, none⟩) (by simp) _).trans (hbb.out.mono (by rw [size_set]; omega))), Nat.le_trans hz (by have := hbb.out.size; rw [size_set] at this; exact this)⟩
        · rw [List.length_append, hm'.out, List.length_singleton]
          exact (hbb.out.cell (p := ⟨H + 1, 0, none⟩) (by rw [size_set]; simp; omega)).trans (World.cell?_setCell_same' _ _ _ (by rw [c1]; rfl))
        · exact (hbb.out.frozen (p := ⟨H + 1, 0, none⟩) (by rw [size_set]; simp; omega)).trans (by rw [World.frozen?_setCell]; exact f1)
        · exact (hbb.out.cell (p := ⟨H, 0, none⟩) (by rw [size_set]; simp; omega)).trans (cell_set_l c0 (by omega))
        · exact (hbb.out.frozen (p := ⟨H, 0, none⟩) (by rw [size_set]; simp; omega)).trans (by rw [World.frozen?_setCell]; exact f0)
      · have hr : ∀ W, Calls Tryd.prog 29 #[.string x] W fun e w' => e = .returned (.bool false) ∧ Below W.heap.size W w' := fun W => (name_any x W).mono fun e w' ⟨he, hw⟩ => ⟨by rw [he, name_not hx], hw⟩
        have hx' := Lib.hid hx
        clear hx
        gi_wp2_with (gi_at_call 29; refine (callsIn_round (hr _)).mono ?_; clear hr; rintro e w' ⟨rfl, hb⟩; have n0 := (hb.cell (p := ⟨H, 0, none⟩) (by rw [size_set]; simp; omega)).trans (cell_set_l c0 (by omega)); have n1 := (hb.frozen (p := ⟨H, 0, none⟩) (by rw [size_set]; simp; omega)).trans ((World.frozen?_setCell ..).trans f0); have hbb := Lib.hid hb; clear hb)
        refine ⟨((KeepsOthers.setCell W _ _).trans (keeps_of_below hbb.out)).trans (KeepsOthers.setCell _ _ _), ⟨rfl, fun h => hx'.out (h.2 x (by simp)), World.cell?_setCell_same' _ _ _ (by rw [n0]; rfl)⟩,
          ((hB.setCell (p := ⟨H + 1, 0, none⟩) (by simp) _).trans (hbb.out.mono (by rw [size_set]; omega))).setCell (p := ⟨H, 0, none⟩) (Nat.le_refl _) _⟩
    · have d1 : decide (64 < (m : Int) + 1) = true := decide_eq_true (by omega)
      gi_wp2
      refine ⟨(KeepsOthers.setCell W _ _).trans (KeepsOthers.setCell _ _ _), ⟨rfl, fun h => ?_, World.cell?_setCell_same' _ _ _ (by rw [cell_set_l c0 (by omega)]; rfl)⟩, (hB.setCell (p := ⟨H + 1, 0, none⟩) (by simp) _).setCell (p := ⟨H, 0, none⟩) (Nat.le_refl _) _⟩
      have := h.1
      rw [List.length_append, hm'.out, List.length_singleton] at this
      omega
  case done =>
    rintro D xs W hD rfl ⟨⟨hse, c1, f1, c0, f0⟩, hB, hz⟩ hK
    have hse' := Lib.hid hse
    have hK' := Lib.hid hK
    clear hse hK k0 k1 k2 k3 k4 hbl
    by_cases h : s.size ≤ 1024
    · have d1 : decide ((s.size : Int) ≤ 1024) = true := decide_eq_true (by omega)
      have hv : Hid (validB s = true) := valid_yes ((seen_valid s).2 ⟨h, hse'.out⟩)
      gi_wp2
      rw [hv.out]
      exact leave_one (by omega) (by rw [hH]; exact hB.setCell (p := ⟨H, 0, none⟩) (Nat.le_refl _) _) ((KeepsOthers.setCell W _ _).same D _ hK'.out rfl) (World.cell?_setCell_same' _ _ _ (by rw [c0]; rfl))
    · have d1 : decide ((s.size : Int) ≤ 1024) = false := decide_eq_false (by omega)
      have hv : Hid (validB s = false) := valid_not fun hh => h ((seen_valid s).1 hh).1
      gi_wp2
      rw [hv.out]
      exact leave_one (by omega) (by rw [hH]; exact hB.setCell (p := ⟨H, 0, none⟩) (Nat.le_refl _) _) ((KeepsOthers.setCell W _ _).same D _ hK'.out rfl) (World.cell?_setCell_same' _ _ _ (by rw [c0]; rfl))
  case stop =>
    rintro D c pre W hD ⟨rest, hp⟩ ⟨⟨rfl, hn, c0⟩, hB⟩ hK
    have hv : Hid (validB s = false) := valid_not fun hh => hn (by have := ((seen_valid s).1 hh).2; rw [hp] at this; exact seen_part this)
    have hK' := Lib.hid hK
    clear hK k0 k1 k2 k3 k4 hbl hn hp
    gi_wp2
    rw [hv.out]
    exact leave_one (by omega) (by rw [hH]; exact hB) hK'.out c0

/-- route.Valid. -/
theorem valid_any (s : ByteArray) (hs : s.size ≤ 9223372036854775807) (w : World) : Calls Tryd.prog 13 #[.string s] w fun e w' => e = .returned (.bool (validB s)) ∧ Below w.heap.size w w' :=
  callsIn_wide.1 (valid_in s hs w)

end Go.Proofs.YtlpgkkaeojnndaaDoor
