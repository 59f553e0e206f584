/-
  RouteTells: the law's body.
-/
import Derived.Test.YtlpgkkaeojnndaaDoorTE
import Derived.Test.YtlpgkkaeojnndaaDoorRE
import Derived.LoopNIn
import Derived.Lib.Hide
import Derived.RangeFuncFrom
import Derived.Shelf.Abstract
namespace Go.Proofs.YtlpgkkaeojnndaaDoor
open Go.RowKit

attribute [local go_sem] Oper.semAt_some strE

theorem cell_of_box_l {W : World} {B : Nat} {v : Value} {t : TypeId} (h : W.heap[B]? = some (.cells #[v] t (0, 0))) : W.cell? ⟨B, 0, none⟩ = some v ∧ W.frozen? ⟨B, 0, none⟩ = false := by
  constructor <;> simp [World.cell?, World.frozen?, h]
theorem cell_new_l (W : World) (v : Value) (t : TypeId) : (W.alloc (.cells #[v] t)).cell? ⟨W.heap.size, 0, none⟩ = some v ∧ (W.alloc (.cells #[v] t)).frozen? ⟨W.heap.size, 0, none⟩ = false :=
  cell_of_box_l (World.alloc_heap_new W _)
theorem cell_alloc_l {W : World} {a : Addr} {v : Value} (o : Obj) (h : W.cell? a = some v) : (W.alloc o).cell? a = some v := cell_kept h (World.grownBy_alloc W o none) (fun r e => by cases e)
theorem frozen_alloc_l {W : World} {a : Addr} {v : Value} (o : Obj) (h : W.cell? a = some v) (hf : W.frozen? a = false) : (W.alloc o).frozen? a = false := (frozen_kept h (World.grownBy_alloc W o none) (fun r e => by cases e)).trans hf
theorem cell_set_o {W : World} {b b' : Nat} {o : Nat} {v u : Value} (h : W.cell? ⟨b, o, none⟩ = some v) (hne : b' ≠ b) : (W.setCell ⟨b', 0, none⟩ u).cell? ⟨b, o, none⟩ = some v :=
  (World.cell?_of_block (a := ⟨b, o, none⟩) (Below.heap_setCell W ⟨b', 0, none⟩ u b hne.symm)).trans h
theorem ownFrom_obj {β : Type} {B D : Nat} (hD : D < B) (o : Obj) : OwnFrom B (fun (_ : β) W => W.heap[D]? = some o) := fun _ _ _ _ hs hg hr =>
  (hg.block D (Array.getElem?_eq_some_iff.1 hs).1 (fun e => by have := (hr D e.symm).1; omega)).trans hs

/-- What the law has laid down before its rounds. -/
structure St (m H Q : Nat) (T : Int) (A : Option Addr) (c : Nat) (L : List ByteArray) (W : World) : Prop where
  h1 : H + 1 < m
  h2 : Q < m
  s : W.cell? ⟨H, 0, none⟩ = some (.int .i64 T)
  r : W.cell? ⟨H + 1, 0, none⟩ = some (.bool false)
  f : W.frozen? ⟨H + 1, 0, none⟩ = false
  v : W.cell? ⟨Q, 0, none⟩ = some (.slice A L.length c)
  x : ∀ g j x, A = some ⟨g, 0, none⟩ → L[j]? = some x → g < m ∧ W.cell? ⟨g, j, none⟩ = some (.string x)

theorem St.grown {m H Q : Nat} {T : Int} {A : Option Addr} {c : Nat} {L : List ByteArray} {W W' : World} {row : Option Nat} (h : St m H Q T A c L W) (hg : W.grownBy W' row) (hr : ∀ r, row = some r → ∃ o : Obj, W.heap[r]? = some o ∧ o.isCells = false) : St m H Q T A c L W' :=
  ⟨h.h1, h.h2, cell_kept h.s hg hr, cell_kept h.r hg hr, (frozen_kept h.r hg hr).trans h.f, cell_kept h.v hg hr, fun g j x e k => ⟨(h.x g j x e k).1, cell_kept (h.x g j x e k).2 hg hr⟩⟩
theorem St.alloc {m H Q : Nat} {T : Int} {A : Option Addr} {c : Nat} {L : List ByteArray} {W : World} (h : St m H Q T A c L W) (o : Obj) : St m H Q T A c L (W.alloc o) := h.grown (World.grownBy_alloc W o none) (fun r e => by cases e)
theorem St.set {m H Q : Nat} {T : Int} {A : Option Addr} {c : Nat} {L : List ByteArray} {W : World} (h : St m H Q T A c L W) {b : Nat} (hb : m ≤ b) (u : Value) : St m H Q T A c L (W.setCell ⟨b, 0, none⟩ u) :=
  ⟨h.h1, h.h2, cell_set_o h.s (by have := h.h1; omega), cell_set_o h.r (by have := h.h1; omega), (World.frozen?_setCell ..).trans h.f, cell_set_o h.v (by have := h.h2; omega), fun g j x e k => ⟨(h.x g j x e k).1, cell_set_o (h.x g j x e k).2 (by have := (h.x g j x e k).1; omega)⟩⟩
theorem St.below {m k H Q : Nat} {T : Int} {A : Option Addr} {c : Nat} {L : List ByteArray} {W W' : World} (h : St m H Q T A c L W) (hb : Below k W W') (hk : m ≤ k) : St m H Q T A c L W' :=
  have h1 := h.h1
  have h2 := h.h2
  ⟨h.h1, h.h2, (hb.cell (p := ⟨H, 0, none⟩) (by show H < k; omega)).trans h.s, (hb.cell (p := ⟨H + 1, 0, none⟩) (by show H + 1 < k; omega)).trans h.r, (hb.frozen (p := ⟨H + 1, 0, none⟩) (by show H + 1 < k; omega)).trans h.f,
    (hb.cell (p := ⟨Q, 0, none⟩) (by show Q < k; omega)).trans h.v, fun g j x e i => ⟨(h.x g j x e i).1, (hb.cell (p := ⟨g, j, none⟩) (by have := (h.x g j x e i).1; show g < k; omega)).trans (h.x g j x e i).2⟩⟩

theorem leave_t {w V : World} {B D E : Nat} {tmps : Array Value} (hB : w.heap.size ≤ B) (hDw : w.heap.size ≤ D) (hEw : w.heap.size ≤ E) (hV : Below w.heap.size w V) (hDE : D ≠ E) (hE : V.heap[E]? = some (.deferred (some []))) (hD : V.heap[D]? = some (.deferred (some [])))
    (hc : V.cell? ⟨B, 0, none⟩ = some (.bool false)) (ht : tmps[4]? = some (.pointer (some ⟨B, 0, none⟩)) := by rfl) :
    bodyPostM Fence.wide 10 Tryd.prog Tryd.f5 (fun e w' => e = .returned (.bool true) ∧ Below w.heap.size w w') .ret
      { tmps := tmps, defers := [{ target := .collected E, args := #[] }, { target := .collected D, args := #[] }] } (V.setCell ⟨B, 0, none⟩ (.bool true)) := by
  have hE' := (KeepsOthers.setCell V ⟨B, 0, none⟩ (.bool true)).same E _ hE rfl
  have hD' := (KeepsOthers.setCell V ⟨B, 0, none⟩ (.bool true)).same D _ hD rfl
  have hD2 : ((V.setCell ⟨B, 0, none⟩ (.bool true)).putObj E (.deferred none)).heap[D]? = some (.deferred (some [])) :=
    ((grownBy_putObj' _ E (.deferred none)).block D (Array.getElem?_eq_some_iff.1 hD').1 (fun e => by cases e; exact hDE rfl)).trans hD'
  have c1 := World.cell?_setCell_same' V ⟨B, 0, none⟩ (.bool true) (by rw [hc]; rfl)
  have c2 := cell_kept c1 (grownBy_putObj' _ E (.deferred none)) (fun r e => by cases e; exact ⟨_, hE', rfl⟩)
  have c3 := cell_kept c2 (grownBy_putObj' _ D (.deferred none)) (fun r e => by cases e; exact ⟨_, hD2, rfl⟩)
  refine ⟨by simp, .inl ⟨_, _, rfl, run_takeDeferred hE', ?_⟩⟩
  refine ⟨by simp, .inl ⟨_, _, rfl, run_takeDeferred hD2, ?_⟩⟩
  refine ⟨.bool true, ?_, rfl, ?_⟩
  · simp [results, Tryd.f5, go_sem, ht, c3]
  · exact ((hV.setCell (p := ⟨B, 0, none⟩) hB _).trans (belowK_b (w := w) (Nat.le_refl _) _ E _ _ hEw hE' rfl rfl)).trans (belowK_b (w := w) (Nat.le_refl _) _ D _ _ hDw hD2 rfl rfl)

theorem ne_list {x y : ByteArray} (h : ¬ x = y) : (x.toList == y.toList) = false := by
  rw [beq_eq_false_iff_ne]
  intro e
  rw [Lib.toList_data, Lib.toList_data] at e
  exact h (by cases x; cases y; congr 1; exact Array.toList_inj.1 e)
theorem take_step {L : List ByteArray} {k : Nat} {y : ByteArray} (h : L[k]? = some y) : L.take k ++ [y] = L.take (k + 1) := by
  obtain ⟨hk, rfl⟩ := List.getElem?_eq_some_iff.1 h
  exact (List.take_succ_eq_append_getElem hk).symm

/-- A round's state: so many names have been told. -/
def RI (m H Q : Nat) (T : Int) (A : Option Addr) (c : Nat) (L : List ByteArray) (rb nb : Nat) (r : Int) (pre : List ByteArray) (W : World) : Prop :=
  (pre = L.take pre.length ∧ pre.length ≤ L.length) ∧ W.cell? ⟨nb, 0, none⟩ = some (.int .i64 pre.length) ∧ W.frozen? ⟨nb, 0, none⟩ = false ∧ W.cell? ⟨rb, 0, none⟩ = some (.int .i64 r) ∧ St m H Q T A c L W
def RX (m H Q : Nat) (T : Int) (A : Option Addr) (c : Nat) (L : List ByteArray) (rb nb : Nat) (r : Int) (d : Code) (pre : List ByteArray) (W : World) : Prop :=
  (d = .ret ∧ ¬ ∃ rest, L = pre ++ rest) ∨ (d = .exit 2 ∧ r = 0 ∧ (pre.length : Int) = T ∧ W.cell? ⟨nb, 0, none⟩ = some (.int .i64 T) ∧ W.cell? ⟨rb, 0, none⟩ = some (.int .i64 r) ∧ St m H Q T A c L W)
theorem RI.own {m H Q : Nat} {T : Int} {A : Option Addr} {c : Nat} {L : List ByteArray} {rb nb : Nat} {r : Int} : Own (RI m H Q T A c L rb nb r) := by
  rintro s X Y row ⟨h0, h1, h2, h3, h4⟩ hg hr
  exact ⟨h0, cell_kept h1 hg hr, (frozen_kept h1 hg hr).trans h2, cell_kept h3 hg hr, h4.grown hg hr⟩
theorem RX.own {m H Q : Nat} {T : Int} {A : Option Addr} {c : Nat} {L : List ByteArray} {rb nb : Nat} {r : Int} {d : Code} : Own (RX m H Q T A c L rb nb r d) := by
  rintro s X Y row (h | ⟨h0, h00, h1, h2, h3, h4⟩) hg hr
  · exact .inl h
  · exact .inr ⟨h0, h00, h1, cell_kept h2 hg hr, cell_kept h3 hg hr, h4.grown hg hr⟩

theorem ownFrom_or {β : Type} {B : Nat} {I : β → World → Prop} {p : Prop} (h : OwnFrom B I) : OwnFrom B (fun s W => p ∨ I s W) := fun s W W' row hs hg hr => hs.imp id fun k => h s W W' row k hg hr

/-- What is so behind the rounds: all is as it was laid down, the two marks stand. -/
def Zt (w : World) (m H Q : Nat) (T : Int) (A : Option Addr) (c : Nat) (L : List ByteArray) (D E : Nat) (V : World) : Prop :=
  St m H Q T A c L V ∧ Below H w V ∧ V.heap[D]? = some (.deferred (some [])) ∧ V.heap[E]? = some (.deferred (some [])) ∧ m ≤ V.heap.size ∧ H ≤ V.heap.size
theorem Zt.go {w : World} {m H Q : Nat} {T : Int} {A : Option Addr} {c : Nat} {L : List ByteArray} {D E : Nat} {V V' : World} (h : Hid (Zt w m H Q T A c L D E V)) (hb : Below V.heap.size V V') : Hid (Zt w m H Q T A c L D E V') := by
  obtain ⟨h1, h2, h3, h4, h5, h6⟩ := h.out
  have hz := hb.size
  exact Lib.hid ⟨h1.below hb h5, h2.trans (hb.mono h6), (hb.block D (Array.getElem?_eq_some_iff.1 h3).1).trans h3, (hb.block E (Array.getElem?_eq_some_iff.1 h4).1).trans h4, by omega, by omega⟩

set_option maxRecDepth 100000 in
set_option maxHeartbeats 4000000 in
theorem tells_in (s : ByteArray) (hs : s.size ≤ 140737488355328) (T : Int) (w : World) :
    CallsIn Fence.wide 10 Tryd.prog 5 #[.string s, .int .i64 T] w fun e w' => e = .returned (.bool true) ∧ Below w.heap.size w w' := by
  have h17 := fun W => parent_any s hs W
  have h18 := fun W => rparent_any s W
  have h19 := fun W => read_any s hs W
  have h20 := fun W => rread_any s hs W
  have h21 := fun W => base_any s (by omega) W
  have h22 := fun W => rbase_any s W
  obtain ⟨⟨p1, p2⟩, hpp⟩ : ∃ pp, parentB s = pp := ⟨_, rfl⟩
  obtain ⟨⟨q1, q2, q3⟩, hqq⟩ : ∃ qq, readB s = qq := ⟨_, rfl⟩
  obtain ⟨bb, hbb⟩ : ∃ bb, lastB (namesB s) = bb := ⟨_, rfl⟩
  simp only [hpp] at h17 h18
  simp only [hqq] at h19 h20
  simp only [hbb] at h21 h22
  clear hpp hqq hbb
  have hR := fun W => rnames_any s W
  have hN := fun W => names_of s (by omega) W
  obtain ⟨vb, hvb⟩ : ∃ vb, validB s = vb := ⟨_, rfl⟩
  have hV := fun W => valid_is (by omega) hvb W
  have hU := fun W => rvalid_r hvb W
  obtain ⟨L, hL⟩ : ∃ L, namesB s = L := ⟨_, rfl⟩
  rw [hL] at hR hN
  refine callsIn_of_wp_marks Tryd.func5 rfl trivial ?_ rfl
  simp only [Tryd.ntmps5, List.size_toArray, List.length_cons, List.length_nil, Nat.reduceAdd, Nat.reduceSub, Array.replicate_succ, Array.replicate_zero, List.push_toArray, List.append_toArray, List.nil_append, List.cons_append]
  gi_wp2_with (first
    | (gi_at_call 14; refine callsIn_wide.2 ((hR _).mono ?_); clear hR; rintro e w1 ⟨v1, rfl, ⟨A1, c1, rfl, hcap, hrow⟩, hb1⟩; replace hrow := Lib.hid hrow; replace hb1 := Lib.hid hb1)
    | (gi_at_call 15; refine callsIn_wide.2 ((hN _).mono ?_); clear hN; rintro e w2 ⟨gf, lb, rfl, hb2, hgv⟩; replace hgv := Lib.hid hgv; replace hb2 := Lib.hid hb2)
    | (gi_at_call 13; refine callsIn_wide.2 ((hV _).mono ?_); clear hV; rintro e w3 ⟨rfl, hb3⟩; replace hb3 := Lib.hid hb3)
    | (gi_at_call 16; refine callsIn_wide.2 ((hU _).mono ?_); clear hU; rintro e w4 ⟨rfl, hb4⟩; replace hb4 := Lib.hid hb4)
    | (gi_at_call 12; refine callsIn_wide.2 ((names_any _).mono ?_); rintro e w5 ⟨rfl, rfl⟩)
    | (rw [show ∀ g (a : Array Value) W, (binOp BinOp.eql 30 (Value.func (Fn.func g) #[] a) Value.nilFunc).run Tryd.prog W = .ok (.bool false) W from fun g a W => by kernel_rfl]))
  obtain ⟨H, hH⟩ : ∃ H, w.heap.size = H := ⟨_, rfl⟩
  obtain ⟨Q, hQ⟩ : ∃ Q, w1.heap.size = Q := ⟨_, rfl⟩
  have z1 := hb1.out.size
  have z2 := hb2.out.size
  have z3 := hb3.out.size
  have z4 := hb4.out.size
  rw [World.size_alloc, World.size_alloc, hH, hQ] at z1
  rw [World.size_alloc, hQ] at z2
  have st0 : St (Q + 1) H Q T A1 c1 L (w1.alloc (.cells #[.slice A1 L.length c1] 27)) := by
    have s0 : ((w.alloc (.cells #[.int .i64 T] 3)).alloc (.cells #[.bool false] 4)).cell? ⟨H, 0, none⟩ = some (.int .i64 T) := by rw [← hH]; exact cell_alloc_l _ (cell_new_l _ _ _).1
    have r0 := cell_new_l (w.alloc (.cells #[.int .i64 T] 3)) (.bool false) 4
    rw [World.size_alloc, hH] at r0
    have s1 := (hb1.out.cell (p := ⟨H, 0, none⟩) (by rw [World.size_alloc, World.size_alloc, hH]; show H < _; omega)).trans s0
    have r1 := (hb1.out.cell (p := ⟨H + 1, 0, none⟩) (by rw [World.size_alloc, World.size_alloc, hH]; show H + 1 < _; omega)).trans r0.1
    have f1 := (hb1.out.frozen (p := ⟨H + 1, 0, none⟩) (by rw [World.size_alloc, World.size_alloc, hH]; show H + 1 < _; omega)).trans r0.2
    refine ⟨by omega, by omega, cell_alloc_l _ s1, cell_alloc_l _ r1, frozen_alloc_l _ r1 f1, by rw [← hQ]; exact (cell_new_l _ _ _).1, fun g j x e k => ?_⟩
    obtain ⟨g', e', hst⟩ := hrow.out (by have := (List.getElem?_eq_some_iff.1 k).1; omega)
    rw [e] at e'
    cases e'
    have hc := hst j x k
    rw [Nat.zero_add] at hc
    exact ⟨by have := World.block_lt_of_cell? w1 _ hc; simp at this; omega, cell_alloc_l _ hc⟩
  have st2 := st0.below hb2.out (by simp [hQ])
  have st4 := (st2.below hb3.out (by omega)).below hb4.out (by omega)
  have hA : Hid (1 ≤ L.length → ∃ g, A1 = some ⟨g, 0, none⟩) := Lib.hid fun h => by obtain ⟨g, e, _⟩ := hrow.out h; exact ⟨g, e⟩
  have hB : Hid (Below H w w4) := by
    refine Lib.hid ?_
    have b0 : Below H w ((w.alloc (.cells #[.int .i64 T] 3)).alloc (.cells #[.bool false] 4)) := ((Below.refl _ w).alloc (by omega) _).alloc (by simp; omega) _
    have b1 := b0.trans (hb1.out.mono (by simp; omega))
    have b2 := (b1.alloc (by omega) (.cells #[.slice A1 L.length c1] 27)).trans (hb2.out.mono (by simp; omega))
    exact (b2.trans (hb3.out.mono (by omega))).trans (hb4.out.mono (by omega))
  have hb24 : Hid (Below w2.heap.size w2 w4) := Lib.hid (hb3.out.trans (hb4.out.mono z3))
  have hg2 := hgv.out
  rw [World.size_alloc, hQ] at hg2
  replace hg2 := Lib.hid hg2
  clear hgv hb1 hb2 hb3 hb4 hrow st0 st2
  rw [hH]
  have c1' := st4.s
  have c2' := st4.r
  have c3' := st4.f
  have c4' := st4.v
  have hL2 : L.length ≤ 4294967296 := by
    rw [← hL]
    unfold namesB
    split
    · rename_i h; exact pieces_bd s (by have := valid_size h; omega)
    · simp
  replace hL2 := Lib.hid hL2
  obtain ⟨m, hm⟩ : ∃ m, w4.heap.size = m := ⟨_, rfl⟩
  refine wpIn_loop_rounds 3 ?_
  rw [roundsIn_succ]
  gi_wp2
  rw [hm]
  have y1 : (((w4.alloc (.cells #[.int .i64 0] 3)).alloc (.cells #[.int .i64 0] 3)).cell? ⟨m, 0, none⟩ = some (.int .i64 0)) := by rw [← hm]; exact cell_alloc_l _ (cell_new_l _ _ _).1
  have y2 := cell_new_l (w4.alloc (.cells #[.int .i64 0] 3)) (.int .i64 0) 3
  rw [World.size_alloc, hm] at y2
  refine wpIn_rangeFunc_ownF rfl (by omega) (gf := gf) (lb := lb) rfl trivial hg2.out.1 (hg2.out.2 9) KpR.t (KpR.b (lo := Q + 1) (up := w2.heap.size) (by simp; omega)) ((hb24.out.alloc (by omega) _).alloc (by simp; omega) _) (fun _ => rfl)
    (fun pre W => (RI (Q + 1) H Q T A1 c1 L m (m + 1) 0 pre W ∧ Below w2.heap.size w2 W) ∧ Below H w W)
    (fun d pre W => (RX (Q + 1) H Q T A1 c1 L m (m + 1) 0 d pre W ∧ (d = .ret ∨ Below w2.heap.size w2 W)) ∧ Below H w W)
    (OwnFrom.and (OwnFrom.and (Own.from RI.own _) (ownFrom_below (Nat.le_refl _) (by simp; omega))) (ownFrom_below (by omega) (by simp; omega)))
    (fun d => OwnFrom.and (OwnFrom.and (Own.from RX.own _) (ownFrom_or (ownFrom_below (Nat.le_refl _) (by simp; omega)))) (ownFrom_below (by omega) (by simp; omega)))
    ⟨⟨⟨⟨rfl, Nat.zero_le _⟩, y2.1, y2.2, y1, (st4.alloc _).alloc _⟩, (hb24.out.alloc (by omega) _).alloc (by simp; omega) _⟩, (hB.out.alloc (by omega) _).alloc (by simp; omega) _⟩ ?a1 ?assign ?body ?done ?stop
  case assign =>
    intro l x W K hK
    gi_wp2
    exact hK
  case body =>
    rintro l pre x W ⟨⟨⟨⟨e1, l1⟩, n1, n2, r1, st⟩, hw2⟩, hbl⟩ hlen
    obtain ⟨k, hk⟩ : ∃ k, k = pre.length := ⟨_, rfl⟩
    rw [← hk] at e1 l1 n1 hlen
    obtain ⟨y, hy⟩ : ∃ y, L[k]? = some y := ⟨L[k]'hlen, List.getElem?_eq_getElem _⟩
    obtain ⟨g, hAg⟩ := hA.out (by omega)
    have cX := (st.x g k y hAg hy).2
    have s1 := st.s
    have s2 := st.r
    have s3 := st.f
    have s4 := st.v
    rw [hAg] at s4
    replace st := Lib.hid st
    have hkn : ¬ L.length ≤ k := Nat.not_le.2 hlen
    replace e1 := Lib.hid e1
    replace hk := Lib.hid hk
    replace hy := Lib.hid hy
    clear y1 y2 c1' c2' c3' c4' st4 hB hb24
    have hw := wrap_succ hlen (Nat.le_trans hL2.out (by decide))
    by_cases hxy : x = y
    · subst hxy
      by_cases hT : T = (k : Int) + 1
      · rw [hT] at s1
        replace hT := Lib.hid hT
        gi_wp2
        clear hw
        refine ⟨KeepsOthers.setCell _ _ _, ⟨.inr ⟨rfl, rfl, ?_, ?_, ?_, st.out.set (by omega) _⟩, .inr (hw2.setCell (p := ⟨m + 1, 0, none⟩) (by show w2.heap.size ≤ m + 1; omega) _)⟩, hbl.setCell (p := ⟨m + 1, 0, none⟩) (by show H ≤ m + 1; omega) _⟩
        · rw [List.length_append, ← hk.out, List.length_singleton]; exact hT.out.symm
        · rw [hT.out]; exact World.cell?_setCell_same' _ _ _ (by rw [n1]; rfl)
        · exact cell_set_o r1 (by omega)
      · obtain ⟨u, hu⟩ : ∃ u : Int, ((k + 1 : Nat) : Int) = u := ⟨_, rfl⟩
        have d1 : (u == T) = false := beq_eq_false_iff_ne.2 fun e => hT (by rw [← e, ← hu]; rfl)
        have d2 : decide (u = T) = false := decide_eq_false fun e => hT (by rw [← e, ← hu]; rfl)
        rw [hu] at hw
        replace hu := Lib.hid hu
        clear hT
        gi_wp2
        clear hw
        refine ⟨KeepsOthers.setCell _ _ _, fun b _ h2 => Below.heap_setCell _ _ _ b (by show b ≠ m + 1; omega), ⟨⟨⟨?_, ?_⟩, ?_, ?_, ?_, st.out.set (by omega) _⟩, hw2.setCell (p := ⟨m + 1, 0, none⟩) (by show w2.heap.size ≤ m + 1; omega) _⟩, hbl.setCell (p := ⟨m + 1, 0, none⟩) (by show H ≤ m + 1; omega) _⟩
        · rw [List.length_append, ← hk.out, List.length_singleton, ← take_step hy.out, ← e1.out]
        · rw [List.length_append, ← hk.out, List.length_singleton]; omega
        · rw [List.length_append, ← hk.out, List.length_singleton, hu.out]
          exact World.cell?_setCell_same' _ _ _ (by rw [n1]; rfl)
        · rw [World.frozen?_setCell]; exact n2
        · exact cell_set_o r1 (by omega)
    · have hne := ne_list hxy
      gi_wp2
      clear hw
      refine ⟨KeepsOthers.setCell _ _ _, ⟨.inl ⟨rfl, ?_⟩, .inl rfl⟩, hbl.setCell (p := ⟨H + 1, 0, none⟩) (by show H ≤ H + 1; omega) _⟩
      rintro ⟨rest, hr⟩
      have hy' := hy.out
      rw [hr, List.append_assoc, hk.out, List.getElem?_append_right (Nat.le_refl _), Nat.sub_self] at hy'
      exact hxy (Option.some.inj hy')
  case' done =>
    rintro D xs W hD hxs ⟨⟨⟨_, n1, _, r1, st⟩, hw2⟩, hbl⟩ hK
    have s1 := st.s
    have s2 := st.r
    have s3 := st.f
    have s4 := st.v
    replace st := Lib.hid st
    replace hK := Lib.hid hK
    rw [show xs = L from hxs] at n1
    clear hxs y1 y2 c1' c2' c3' c4' st4 hB hb24
    gi_wp2
    clear n1 r1
  case' stop =>
    rintro D d pre W hD ⟨rest, hrest⟩ ⟨⟨hix, hw2⟩, hbl⟩ hK
    rcases hix with ⟨_, hno⟩ | ⟨rfl, _, hT, n1, r1, st⟩
    · exact absurd ⟨rest, hrest⟩ hno
    replace hw2 : Below w2.heap.size w2 W := hw2.resolve_left (by simp)
    have s1 := st.s
    have s2 := st.r
    have s3 := st.f
    have s4 := st.v
    replace st := Lib.hid st
    replace hK := Lib.hid hK
    clear hrest rest y1 y2 c1' c2' c3' c4' st4 hB hb24
    replace hT := Lib.hid hT
    by_cases hTL : T = (L.length : Int)
    case' pos => rw [hTL] at n1
    case' neg => obtain ⟨d1, d2, d3⟩ : (T == (L.length : Int)) = false ∧ (T != (L.length : Int)) = true ∧ decide (T = (L.length : Int)) = false := ⟨beq_eq_false_iff_ne.2 hTL, bne_iff_ne.2 hTL, decide_eq_false hTL⟩
    all_goals
      replace hTL := Lib.hid hTL
      gi_wp2
      clear n1 r1
  all_goals
    rw [roundsIn_succ]
    gi_wp2
    have hDlt : D < W.heap.size := (Array.getElem?_eq_some_iff.1 hK.out).1
    have zW := hw2.size
    obtain ⟨M, hM⟩ : ∃ M, W.heap.size = M := ⟨_, rfl⟩
    rw [hM] at hDlt zW ⊢
    have y1 : ((W.alloc (.cells #[.int .i64 1] 3)).alloc (.cells #[.int .i64 0] 3)).cell? ⟨M, 0, none⟩ = some (.int .i64 1) := by rw [← hM]; exact cell_alloc_l _ (cell_new_l _ _ _).1
    have y2 := cell_new_l (W.alloc (.cells #[.int .i64 1] 3)) (.int .i64 0) 3
    rw [World.size_alloc, hM] at y2
    have eK : ((W.alloc (.cells #[.int .i64 1] 3)).alloc (.cells #[.int .i64 0] 3)).heap[D]? = some (.deferred (some [])) := (KeepsOthers.alloc _ _).same D _ ((KeepsOthers.alloc W _).same D _ hK.out rfl) rfl
    clear s1 s2 s3 s4
    refine wpIn_rangeFunc_ownF rfl (by omega) (gf := gf) (lb := lb) rfl trivial hg2.out.1 (hg2.out.2 9) KpR.t (KpR.b (lo := Q + 1) (up := w2.heap.size) (by simp; omega)) ((hw2.alloc (by omega) _).alloc (by simp; omega) _) (fun _ => rfl)
      (fun pre V => (RI (Q + 1) H Q T A1 c1 L M (M + 1) 1 pre V ∧ V.heap[D]? = some (.deferred (some []))) ∧ Below H w V)
      (fun d pre V => (RX (Q + 1) H Q T A1 c1 L M (M + 1) 1 d pre V ∧ V.heap[D]? = some (.deferred (some []))) ∧ Below H w V)
      (OwnFrom.and (OwnFrom.and (Own.from RI.own _) (ownFrom_obj (by simp; omega) _)) (ownFrom_below (by omega) (by simp; omega)))
      (fun d => OwnFrom.and (OwnFrom.and (Own.from RX.own _) (ownFrom_obj (by simp; omega) _)) (ownFrom_below (by omega) (by simp; omega)))
      ⟨⟨⟨⟨rfl, Nat.zero_le _⟩, y2.1, y2.2, y1, (st.out.alloc _).alloc _⟩, eK⟩, (hbl.alloc (by omega) _).alloc (by simp; omega) _⟩ ?_ ?_ ?_ ?_ ?_
    rotate_left 1
    · intro l x W K hK
      gi_wp2
      exact hK
    · rintro l pre x V ⟨⟨⟨⟨e1, l1⟩, n1, n2, r1, st⟩, eV⟩, hbv⟩ hlen
      obtain ⟨k, hk⟩ : ∃ k, k = pre.length := ⟨_, rfl⟩
      rw [← hk] at e1 l1 n1 hlen
      obtain ⟨y, hy⟩ : ∃ y, L[k]? = some y := ⟨L[k]'hlen, List.getElem?_eq_getElem _⟩
      obtain ⟨g, hAg⟩ := hA.out (by omega)
      have cX := (st.x g k y hAg hy).2
      have s1 := st.s
      have s2 := st.r
      have s3 := st.f
      have s4 := st.v
      rw [hAg] at s4
      replace st := Lib.hid st
      replace eV := Lib.hid eV
      have hkn : ¬ L.length ≤ k := Nat.not_le.2 hlen
      replace e1 := Lib.hid e1
      replace hk := Lib.hid hk
      replace hy := Lib.hid hy
      clear y1 y2 eK hbl hw2
      have hw := wrap_succ hlen (Nat.le_trans hL2.out (by decide))
      by_cases hxy : x = y
      · subst hxy
        gi_wp2
        clear hw
        refine ⟨KeepsOthers.setCell _ _ _, fun b _ h2 => Below.heap_setCell _ _ _ b (by show b ≠ M + 1; omega), ⟨⟨⟨?_, ?_⟩, ?_, ?_, ?_, st.out.set (by omega) _⟩, (KeepsOthers.setCell _ _ _).same D _ eV.out rfl⟩, hbv.setCell (p := ⟨M + 1, 0, none⟩) (by show H ≤ M + 1; omega) _⟩
        · rw [List.length_append, ← hk.out, List.length_singleton, ← take_step hy.out, ← e1.out]
        · rw [List.length_append, ← hk.out, List.length_singleton]; omega
        · rw [List.length_append, ← hk.out, List.length_singleton]
          exact World.cell?_setCell_same' _ _ _ (by rw [n1]; rfl)
        · rw [World.frozen?_setCell]; exact n2
        · exact cell_set_o r1 (by omega)
      · have hne := ne_list hxy
        gi_wp2
        clear hw
        refine ⟨KeepsOthers.setCell _ _ _, ⟨.inl ⟨rfl, ?_⟩, (KeepsOthers.setCell _ _ _).same D _ eV.out rfl⟩, hbv.setCell (p := ⟨H + 1, 0, none⟩) (by show H ≤ H + 1; omega) _⟩
        rintro ⟨rest, hr⟩
        have hy' := hy.out
        rw [hr, List.append_assoc, hk.out, List.getElem?_append_right (Nat.le_refl _), Nat.sub_self] at hy'
        exact hxy (Option.some.inj hy')
    · rintro E xs V hE hxs ⟨⟨⟨_, n1, _, r1, st⟩, eV⟩, hbv⟩ hKE
      have s1 := st.s
      have s2 := st.r
      have s3 := st.f
      have s4 := st.v
      have hElt : E < V.heap.size := (Array.getElem?_eq_some_iff.1 hKE).1
      have hZ : Hid (Zt w (Q + 1) H Q T A1 c1 L D E V) := Lib.hid ⟨st, hbv, eV, hKE, by have := st.h2; simp at hE; omega, by simp at hE; omega⟩
      replace hE : M + 1 + 1 ≤ E := by simp at hE; omega
      rw [show xs = L from hxs] at n1
      clear hxs y1 y2 eK hbl hw2 st eV hbv hKE
      gi_wp2
      rw [roundsIn_succ]
      replace hZ := Zt.go hZ ((Below.refl _ V).alloc (Nat.le_refl _) (.cells #[.int .i64 2] 3))
      clear s1 s2 s3 s4 n1 r1
      gi_wp2_with (first
        | (gi_at_call 17; refine callsIn_wide.2 ((h17 _).mono ?_); clear h17; rintro e w6 ⟨rfl, hb⟩; replace hZ := Zt.go hZ hb; clear hb)
        | (gi_at_call 18; refine callsIn_wide.2 ((h18 _).mono ?_); clear h18; rintro e w7 ⟨rfl, hb⟩; replace hZ := Zt.go hZ hb; clear hb)
        | (gi_at_call 19; refine callsIn_wide.2 ((h19 _).mono ?_); clear h19; rintro e w8 ⟨rfl, hb⟩; replace hZ := Zt.go hZ hb; clear hb)
        | (gi_at_call 20; refine callsIn_wide.2 ((h20 _).mono ?_); clear h20; rintro e w9 ⟨rfl, hb⟩; replace hZ := Zt.go hZ hb; clear hb)
        | (gi_at_call 21; refine callsIn_wide.2 ((h21 _).mono ?_); clear h21; rintro e w10 ⟨rfl, hb⟩; replace hZ := Zt.go hZ hb; clear hb)
        | (gi_at_call 22; refine callsIn_wide.2 ((h22 _).mono ?_); clear h22; rintro e w11 ⟨rfl, hb⟩; replace hZ := Zt.go hZ hb; clear hb; have c2' := hZ.out.1.r; have c3' := hZ.out.1.f))
      obtain ⟨z1', z2', z3', z4', _, _⟩ := hZ.out
      refine leave_t (B := H + 1) (D := D) (E := E) (by omega) (by simp at hD; omega) (by omega) (by rw [hH]; exact z2') (by omega) z4' z3' z1'.r
    · rintro E d pre V hE ⟨rest, hrest⟩ ⟨⟨hix, _⟩, _⟩ _
      rcases hix with ⟨_, hno⟩ | ⟨_, h10, _⟩
      · exact absurd ⟨rest, hrest⟩ hno
      · cases h10

theorem law_tells (s : ByteArray) (T : Int) (hs : s.size ≤ 140737488351232) (w : World) :
    Calls Tryd.prog 5 #[.string s, .int .i64 T] w fun e w' => e = .returned (.bool true) ∧ Below w.heap.size w w' :=
  callsIn_wide.1 (tells_in s (by omega) T w)

end Go.Proofs.YtlpgkkaeojnndaaDoor
