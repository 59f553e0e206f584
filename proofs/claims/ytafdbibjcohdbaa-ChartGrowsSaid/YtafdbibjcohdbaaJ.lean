/-
  chart.Draw.
-/
import Derived.Test.YtafdbibjcohdbaaRg
import Derived.Test.YtafdbibjcohdbaaI
import Derived.Test.YtafdbibjcohdbaaP
import Derived.LoopNIn
import Derived.Lib.Hide
import Derived.RangeFuncFrom
import Derived.RangeFuncBox
import Derived.Deep.RegionHeld3
import Derived.StillTailTactics
import Derived.Lib.ConvBytes
import Derived.RangeFuncCalls
namespace Go.Proofs.Ytafdbibjcohdbaa
open Go.RowKit

theorem bu5 : Try.prog.underlying 5 = some (.int .u8) := by kernel_rfl

attribute [local go_sem] Oper.semAt_some

/-- Block b is just these cells. -/
def Blk (W : World) (b : Nat) (t : TypeId) (cs : Array Value) : Prop := W.heap[b]? = some (.cells cs t (0, 0))
theorem Blk.own {β : Type} (b : Nat) (t : TypeId) (f : β → Array Value) : Own (fun s W => Blk W b t (f s)) := fun s W W' row hs hg hr =>
  (hg.block b (Array.getElem?_eq_some_iff.1 hs).1 (fun e => by
    obtain ⟨o, ho, hc⟩ := hr b e.symm
    rw [show W.heap[b]? = _ from hs] at ho
    cases ho
    cases hc)).trans hs
theorem Blk.lt {W : World} {b : Nat} {t : TypeId} {cs : Array Value} (h : Blk W b t cs) : b < W.heap.size := (Array.getElem?_eq_some_iff.1 h).1
theorem Blk.cell {W : World} {b : Nat} {t : TypeId} {cs : Array Value} (h : Blk W b t cs) (j : Nat) {v : Value} (hv : cs[j]? = some v) : W.cell? ⟨b, j, none⟩ = some v := by
  simp [World.cell?, show W.heap[b]? = _ from h, hv]
theorem Blk.free {W : World} {b : Nat} {t : TypeId} {cs : Array Value} (h : Blk W b t cs) (j : Nat) : W.frozen? ⟨b, j, none⟩ = false := by
  simp [World.frozen?, show W.heap[b]? = _ from h]
theorem Blk.below {W W' : World} {b : Nat} {t : TypeId} {cs : Array Value} (h : Blk W b t cs) (hb : Below W.heap.size W W') : Blk W' b t cs := (hb.block b h.lt).trans h
theorem Blk.new (W : World) (t : TypeId) (cs : Array Value) : Blk (W.alloc (.cells cs t)) W.heap.size t cs := World.alloc_heap_new W _
theorem Blk.alloc {W : World} {b : Nat} {t : TypeId} {cs : Array Value} (h : Blk W b t cs) (o : Obj) : Blk (W.alloc o) b t cs := (Below.heap_alloc W o b h.lt).trans h
theorem Blk.other {W : World} {b b' j : Nat} {t : TypeId} {cs : Array Value} (h : Blk W b t cs) (u : Value) (hne : b ≠ b') : Blk (W.setCell ⟨b', j, none⟩ u) b t cs := (Below.heap_setCell W ⟨b', j, none⟩ u b hne).trans h
theorem Blk.set {W : World} {b j : Nat} {t : TypeId} {cs : Array Value} (h : Blk W b t cs) (u : Value) : Blk (W.setCell ⟨b, j, none⟩ u) b t (cs.setIfInBounds j u) := by
  have h' : W.heap[b]? = some (.cells cs t (0, 0)) := h
  simp [Blk, World.setCell, Array.getElem?_modify, h']

theorem bytes_below (w : World) (s : ByteArray) : Below w.heap.size w (Lib.bytesWorld w 5 s) := by
  refine ⟨?_, ?_, ?_, by rw [Lib.bytesWorld_size]; omega, fun k hk => Lib.bytesWorld_at_old w 5 s k hk⟩ <;> (simp only [Lib.bytesWorld, World.freeze]; split <;> rfl)

structure St (w W : World) (Z H D K g : Nat) (S : ByteArray) (lx ly hx hy : Int) (cs : Array Value) : Prop where
  s : Blk W H 9 #[.string S]
  lo : Blk W (H + 1) 54 #[.int .i64 lx, .int .i64 ly]
  hi : Blk W (H + 1 + 1) 54 #[.int .i64 hx, .int .i64 hy]
  wd : Blk W K 3 #[.int .i64 (hx - lx + 1)]
  rows : Blk W g 5 cs
  df : W.heap[D]? = some (.deferred (some []))
  bel : Below Z w W

theorem St.below {w W W' : World} {Z H D K g : Nat} {S : ByteArray} {lx ly hx hy : Int} {cs : Array Value} (h : St w W Z H D K g S lx ly hx hy cs) (hb : Below W.heap.size W W') (hZ : Z ≤ W.heap.size) : St w W' Z H D K g S lx ly hx hy cs :=
  ⟨h.s.below hb, h.lo.below hb, h.hi.below hb, h.wd.below hb, h.rows.below hb, (hb.block D (Array.getElem?_eq_some_iff.1 h.df).1).trans h.df, h.bel.trans (hb.mono hZ)⟩
theorem ownFrom_obj {β : Type} {B D : Nat} (hD : D < B) (o : Obj) : OwnFrom B (fun (_ : β) W => W.heap[D]? = some o) := fun _ _ _ _ hs hg hr =>
  (hg.block D (Array.getElem?_eq_some_iff.1 hs).1 (fun e => by have := (hr D e.symm).1; omega)).trans hs

theorem st4 {w W w2 w3 w4 : World} {Z H D : Nat} {S : ByteArray} {lx ly hx hy : Int} {cs : Array Value} (hZH : Z ≤ H) (hHD : H < W.heap.size)
    (hst : Hid (Blk W H 9 #[.string S] ∧ Blk W (H + 1) 54 #[.int .i64 lx, .int .i64 ly] ∧ Blk W (H + 1 + 1) 54 #[.int .i64 hx, .int .i64 hy] ∧ Below Z w W ∧ W.heap[D]? = some (.deferred (some []))))
    (hb2 : Hid (Below (W.alloc (.cells #[.int .i64 (hx - lx + 1)] 3)).drew.heap.size (W.alloc (.cells #[.int .i64 (hx - lx + 1)] 3)).drew w2)) (hb3 : Hid (Below w2.heap.size w2 w3)) (hz3 : Hid (w3.heap.size = w2.heap.size + 1))
    (hb4 : Hid (Blk w4 w3.heap.size 5 cs ∧ Below w3.heap.size w3 w4)) :
    St w w4 Z H D W.heap.size w3.heap.size S lx ly hx hy cs ∧ W.heap.size < w3.heap.size ∧ w3.heap.size < w4.heap.size := by
  obtain ⟨h1, h2, h3, h4, h5⟩ := hst.out
  have k0 : Below W.heap.size W (W.alloc (.cells #[.int .i64 (hx - lx + 1)] 3)).drew := ((Below.refl _ W).alloc (Nat.le_refl _) _).drew
  have s2 : (W.alloc (.cells #[.int .i64 (hx - lx + 1)] 3)).drew.heap.size ≤ w2.heap.size := hb2.out.size
  rw [show (W.alloc (.cells #[.int .i64 (hx - lx + 1)] 3)).drew.heap.size = W.heap.size + 1 by show (W.alloc _).heap.size = _; simp] at s2
  have s3 := hz3.out
  have s4 := hb4.out.1.lt
  have k1 : Below W.heap.size W w4 := ((k0.trans (hb2.out.mono (by show _ ≤ (W.alloc _).heap.size; simp))).trans (hb3.out.mono (by omega))).trans (hb4.out.2.mono (by omega))
  have kw : Blk (W.alloc (.cells #[.int .i64 (hx - lx + 1)] 3)).drew W.heap.size 3 #[.int .i64 (hx - lx + 1)] := Blk.new W 3 _
  refine ⟨⟨h1.below k1, h2.below k1, h3.below k1, ((kw.below hb2.out).below hb3.out).below hb4.out.2, hb4.out.1, ?_, h4.trans (k1.mono (by omega))⟩, by omega, s4⟩
  exact (k1.block D (Array.getElem?_eq_some_iff.1 h5).1).trans h5

/-- []byte(s) in a walk inside a fence: a new row that begins with the string's bytes. -/
theorem wpListIn_conv {F : Fence} {n : Nat} {ops : Array Oper} {rest : List Oper} {o : Oper} {A : Act} {w : World} {Q : Exit → Act → World → Prop} (X : Operand) (s : ByteArray) (ho : o.op = .convert 9 55 X) (hg : o.guard = none) (hx : A.eval X = .string s)
    (h : ∀ w' cap, Below w.heap.size w w' → w'.heap.size = w.heap.size + 1 → (∀ j b, s.data.toList[j]? = some b → w'.cell? ⟨w.heap.size, j, none⟩ = some (.int .u8 b.toNat)) → wpListIn F n Try.prog ops Q rest (A.put o.dst (.slice (some ⟨w.heap.size, 0, none⟩) s.size cap)) w') :
    wpListIn F n Try.prog ops Q (o :: rest) A w := by
  refine wpListIn_done hg (fun c e => by rw [ho] at e; cases e) (by unfold Oper.about; rw [ho]) (.slice (some ⟨w.heap.size, 0, none⟩) s.size (grownCap w s.size 0 5)) (w' := Lib.bytesWorld w 5 s) ?_ (h _ _ (bytes_below w s) (Lib.bytesWorld_size w 5 s) fun j b hb => ?_)
  · simp [execOp, ho, hx, Lib.run_convert_string_bytes w 9 55 5 s bu9 bu55 bu5, Result.andThen]
  · have hj : j < s.size := by
      have := (List.getElem?_eq_some_iff.1 hb).1
      simpa using this
    rw [Lib.bytesWorld_cell w 5 s j hj, List.getD_eq_getElem?_getD, hb]
    rfl

/-- string(b) in a walk inside a fence. -/
theorem wpListIn_back {F : Fence} {n : Nat} {ops : Array Oper} {rest : List Oper} {o : Oper} {A : Act} {w : World} {Q : Exit → Act → World → Prop} (X : Operand) (g N cap : Nat) (l : List UInt8) (ho : o.op = .convert 55 9 X) (hg : o.guard = none)
    (hx : A.eval X = .slice (some ⟨g, 0, none⟩) N cap) (hl : l.length = N) (hc : ∀ j (hj : j < l.length), w.cell? (Addr.add ⟨g, 0, none⟩ j) = some (.int .u8 (l[j].toNat : Int)))
    (h : wpListIn F n Try.prog ops Q rest (A.put o.dst (.string ⟨l.toArray⟩)) w) : wpListIn F n Try.prog ops Q (o :: rest) A w := by
  subst hl
  refine wpListIn_done hg (fun c e => by rw [ho] at e; cases e) (by unfold Oper.about; rw [ho]) (.string ⟨l.toArray⟩) (w' := w) ?_ h
  simp [execOp, ho, hx, run_convert_bytes_back w 55 9 5 ⟨g, 0, none⟩ cap l bu55 bu5 bu9 hc, Result.andThen]

theorem str_at {L : List UInt8} {S : ByteArray} (hS : (⟨L.toArray⟩ : ByteArray) = S) {k : Nat} (h : k < S.size) : S[k]'h = L.getD k 0 := by
  subst hS
  have hk : k < L.length := h
  rw [List.getD_eq_getElem?_getD, List.getElem?_eq_getElem hk]
  rfl
theorem bytes_set (b : List UInt8) (j : Nat) (u : UInt8) : (Lib.byteCells (b.set j u)).toArray = (Lib.byteCells b).toArray.setIfInBounds j (.int .u8 u.toNat) := by
  simp [Lib.byteCells]

theorem draw_none (v : Value) (l : List Int) (hl : l.length ≤ 17592186044416) (w : World) (h : Ints w v l) (hb : lettersB l = []) :
    Calls Try.prog 15 #[v] w fun e w' => e = .returned (.tuple #[.string ⟨#[]⟩, .int .i64 (lettersE l)]) ∧ Below w.heap.size w w' := by
  have hL := fun W h => letters_any v l hl W h
  rw [hb] at hL
  by_cases hE : lettersE l = 0
  · rw [hE] at hL ⊢
    go_enter Try.func15, Try.ntmps15
    go_wp2_with (go_at_call 22; refine (hL _ h).mono ?_; clear hL; rintro e w1 ⟨rfl, hb1⟩)
    go_ret2
    exact ⟨rfl, hb1.trans ((Below.refl _ _).alloc hb1.size _)⟩
  · obtain ⟨E, hEe⟩ : ∃ E, lettersE l = E := ⟨_, rfl⟩
    rw [hEe] at hL hE ⊢
    clear hEe
    go_enter Try.func15, Try.ntmps15
    go_wp2_with (go_at_call 22; refine (hL _ h).mono ?_; clear hL; rintro e w1 ⟨rfl, hb1⟩)
    go_ret2
    exact ⟨rfl, hb1.trans ((Below.refl _ _).alloc hb1.size _)⟩

set_option maxRecDepth 100000 in
set_option maxHeartbeats 4000000 in
theorem draw_in (v : Value) (l : List Int) (hl : l.length ≤ 17592186044416) (w : World) (h : Ints w v l) (L : List UInt8) (hLb : lettersB l = L) (hne : L ≠ []) (hE : lettersE l = 0) (hn : L.length ≤ 4096) :
    CallsIn Fence.wide 10 Try.prog 15 #[v] w fun e w' => e = .returned (.tuple #[.string ⟨(layB L L.length L.length).toArray⟩, .int .i64 0]) ∧ Below w.heap.size w w' := by
  have hL := letters_any v l hl w h
  rw [hLb, hE] at hL
  obtain ⟨S, hS⟩ : ∃ S : ByteArray, (⟨L.toArray⟩ : ByteArray) = S := ⟨_, rfl⟩
  obtain ⟨n, hnn⟩ : ∃ n, L.length = n := ⟨_, rfl⟩
  have hSn : S.size = n := by rw [← hS, ← hnn]; rfl
  have hn1 : 1 ≤ n := by
    rcases Nat.eq_zero_or_pos n with h0 | h0
    · rw [h0] at hnn; exact absurd (List.eq_nil_of_length_eq_zero hnn) hne
    · exact h0
  rw [hS] at hL
  rw [hnn] at hn ⊢
  have hSe : S.toList.isEmpty = false := by
    rw [ByteArray.toList_eq, ← hS]
    cases L with
    | nil => exact absurd rfl hne
    | cons a t => rfl
  replace hS := Lib.hid hS
  replace hnn := Lib.hid hnn
  replace hSn := Lib.hid hSn
  clear hE hLb h hl hne
  refine callsIn_of_wp_marks Try.func15 rfl trivial ?_ rfl
  simp only [Try.ntmps15, List.size_toArray, List.length_cons, List.length_nil, Nat.reduceAdd, Nat.reduceSub, Array.replicate_succ, Array.replicate_zero, List.push_toArray, List.append_toArray, List.nil_append, List.cons_append]
  gi_wp2_with (first
    | (gi_at_call 22; refine callsIn_wide.2 (hL.mono ?_); clear hL; rintro e w1 ⟨rfl, hb1⟩; replace hb1 := Lib.hid hb1)
    | (gi_at_call 9; refine callsIn_wide.2 ((walk_any _ _).mono ?_); rintro e w' ⟨rfl, rfl⟩))
  obtain ⟨H, hH⟩ : ∃ H, w1.heap.size = H := ⟨_, rfl⟩
  obtain ⟨Z, hZ⟩ : ∃ Z, w.heap.size = Z := ⟨_, rfl⟩
  have hZH : Z ≤ H := by have := hb1.out.size; omega
  obtain ⟨W0, hW0⟩ : ∃ W0, (((w1.alloc (Obj.cells #[Value.string S] 9)).alloc (Obj.cells #[Value.int IntKind.i64 0, Value.int IntKind.i64 0] 54)).alloc (Obj.cells #[Value.int IntKind.i64 0, Value.int IntKind.i64 0] 54)).alloc (Obj.cells #[Value.int IntKind.i64 ↑S.size] 3) = W0 := ⟨_, rfl⟩
  have c1 : Blk W0 H 9 #[.string S] := by rw [← hW0, ← hH]; exact (((Blk.new _ _ _).alloc _).alloc _).alloc _
  have c2 : Blk W0 (H + 1) 54 #[.int .i64 0, .int .i64 0] := by
    have := (((Blk.new (w1.alloc (Obj.cells #[Value.string S] 9)) 54 #[.int .i64 0, .int .i64 0]).alloc (Obj.cells #[Value.int IntKind.i64 0, Value.int IntKind.i64 0] 54)).alloc (Obj.cells #[Value.int IntKind.i64 ↑S.size] 3))
    rw [hW0, World.size_alloc, hH] at this
    exact this
  have c3 : Blk W0 (H + 1 + 1) 54 #[.int .i64 0, .int .i64 0] := by
    have := ((Blk.new ((w1.alloc (Obj.cells #[Value.string S] 9)).alloc (Obj.cells #[Value.int IntKind.i64 0, Value.int IntKind.i64 0] 54)) 54 #[.int .i64 0, .int .i64 0]).alloc (Obj.cells #[Value.int IntKind.i64 ↑S.size] 3))
    rw [hW0, World.size_alloc, World.size_alloc, hH] at this
    exact this
  have c4 : Blk W0 (H + 1 + 1 + 1) 3 #[.int .i64 n] := by
    have := Blk.new (((w1.alloc (Obj.cells #[Value.string S] 9)).alloc (Obj.cells #[Value.int IntKind.i64 0, Value.int IntKind.i64 0] 54)).alloc (Obj.cells #[Value.int IntKind.i64 0, Value.int IntKind.i64 0] 54)) 3 #[.int .i64 S.size]
    rw [hW0, World.size_alloc, World.size_alloc, World.size_alloc, hH, hSn.out] at this
    exact this
  have z0 : W0.heap.size = H + 1 + 1 + 1 + 1 := by rw [← hW0]; simp [hH]
  have b0 : Below Z w W0 := by
    rw [← hW0, ← hZ]
    have e := hb1.out.size
    exact (((hb1.out.alloc e _).alloc (by simp; omega) _).alloc (by simp; omega) _).alloc (by simp; omega) _
  rw [hW0, hH]
  replace hW0 := Lib.hid hW0
  replace hH := Lib.hid hH
  replace hZ := Lib.hid hZ
  clear hb1 hW0
  refine wpIn_rangeFunc_ownF rfl (by omega) (gf := 20) (lb := #[.pointer (some ⟨H + 1 + 1 + 1, 0, none⟩)]) rfl trivial (enters_of Try.func20 (by kernel_rfl) rfl) ((seqStopsA_iff ..).1 (walk_stops n (H + 1 + 1 + 1) 9 W0 (by omega) (c4.cell 0 rfl))) walksK_t walksK_b (Below.refl _ _) (fun _ => rfl)
    (fun pre W => (Blk W H 9 #[.string S] ∧ Blk W (H + 1) 54 #[.int .i64 (low2 pre).1, .int .i64 (low2 pre).2] ∧ Blk W (H + 1 + 1) 54 #[.int .i64 (high2 pre).1, .int .i64 (high2 pre).2]) ∧ Below Z w W)
    (fun _ _ _ => False)
    ?hI ?hIx ?h0 ?a1 ?assign ?body ?done ?stop
  case assign =>
    intro l x W K hK
    gi_wp2
    exact hK
  case h0 => exact ⟨⟨c1, c2, c3⟩, b0⟩
  case hI =>
    refine OwnFrom.and (OwnFrom.and ((Blk.own _ _ _).from _) (OwnFrom.and ((Blk.own _ _ _).from _) ((Blk.own _ _ _).from _))) ?_
    have := ownFrom_below (β := List (Int × Int)) (n₀ := Z) (B := W0.heap.size) (w₀ := w) (by rw [hZ.out]; exact Nat.le_refl _) (by omega)
    exact this
  case hIx => exact fun _ _ _ _ _ hs _ _ => hs
  case stop =>
    rintro D c pre W _ _ h _
    exact h.elim
  case body =>
    rintro l pre x W ⟨⟨h1, h2, h3⟩, hbel⟩ hlen
    clear c1 c2 c3 c4 b0
    obtain ⟨lx, hlx⟩ : ∃ a, (low2 pre).1 = a := ⟨_, rfl⟩
    obtain ⟨ly, hly⟩ : ∃ a, (low2 pre).2 = a := ⟨_, rfl⟩
    obtain ⟨hx, hhx⟩ : ∃ a, (high2 pre).1 = a := ⟨_, rfl⟩
    obtain ⟨hy, hhy⟩ : ∃ a, (high2 pre).2 = a := ⟨_, rfl⟩
    obtain ⟨x, y⟩ := x
    rw [hlx, hly] at h2
    rw [hhx, hhy] at h3
    have d1 := h2.cell 0 rfl
    have d2 := h2.cell 1 rfl
    have d3 := h3.cell 0 rfl
    have d4 := h3.cell 1 rfl
    have f1 := h2.free 0
    have f2 := h2.free 1
    have f3 := h3.free 0
    have f4 := h3.free 1
    replace h1 := Lib.hid h1
    replace h2 := Lib.hid h2
    replace h3 := Lib.hid h3
    replace hlx := Lib.hid hlx
    replace hly := Lib.hid hly
    replace hhx := Lib.hid hhx
    replace hhy := Lib.hid hhy
    clear hlen z0
    gi_wp2
    clear d1 d2 d3 d4 f1 f2 f3 f4
    refine ⟨(((KeepsOthers.setCell _ _ _).trans (KeepsOthers.setCell _ _ _)).trans (KeepsOthers.setCell _ _ _)).trans (KeepsOthers.setCell _ _ _), ((((KeepsOthers.setCell _ _ _).trans (KeepsOthers.setCell _ _ _)).trans (KeepsOthers.setCell _ _ _)).trans (KeepsOthers.setCell _ _ _)).walks, ⟨?_, ?_, ?_⟩, ?_⟩
    · exact (((h1.out.other _ (by omega)).other _ (by omega)).other _ (by omega)).other _ (by omega)
    · have := (((h2.out.set (j := 0) (.int .i64 (min lx x))).set (j := 1) (.int .i64 (min ly y))).other (b' := H + 1 + 1) (j := 0) (.int .i64 (max hx x)) (by omega)).other (b' := H + 1 + 1) (j := 1) (.int .i64 (max hy y)) (by omega)
      rw [low2_snoc, hlx.out, hly.out]
      exact this
    · have := (((h3.out.other (b' := H + 1) (j := 0) (.int .i64 (min lx x)) (by omega)).other (b' := H + 1) (j := 1) (.int .i64 (min ly y)) (by omega)).set (j := 0) (.int .i64 (max hx x))).set (j := 1) (.int .i64 (max hy y))
      rw [high2_snoc, hhx.out, hhy.out]
      exact this
    · exact (((hbel.setCell (p := ⟨H + 1, 0, none⟩) (by show Z ≤ H + 1; omega) _).setCell (p := ⟨H + 1, 1, none⟩) (by show Z ≤ H + 1; omega) _).setCell (p := ⟨H + 1 + 1, 0, none⟩) (by show Z ≤ H + 1 + 1; omega) _).setCell (p := ⟨H + 1 + 1, 1, none⟩) (by show Z ≤ H + 1 + 1; omega) _
  case done =>
    rintro D xs W hD hxs ⟨⟨h1, h2, h3⟩, hbel⟩ hK
    have hcnt : cnt (n : Int) = n := by unfold cnt; omega
    rw [hcnt] at hxs
    obtain rfl : xs = places n := hxs
    obtain ⟨lx, hlx⟩ : ∃ a, (low2 (places n)).1 = a := ⟨_, rfl⟩
    obtain ⟨ly, hly⟩ : ∃ a, (low2 (places n)).2 = a := ⟨_, rfl⟩
    obtain ⟨hx, hhx⟩ : ∃ a, (high2 (places n)).1 = a := ⟨_, rfl⟩
    obtain ⟨hy, hhy⟩ : ∃ a, (high2 (places n)).2 = a := ⟨_, rfl⟩
    have q1 := low2_bd n
    have q2 := high2_bd n
    have q3 := low2_le n
    have q4 := high2_ge n
    have q5 := wid_eq n
    have q6 := hei_eq n
    rw [hlx, hly] at h2 q1
    rw [hhx, hhy] at h3 q2
    rw [hlx, hly] at q3
    rw [hhx, hhy] at q4
    rw [hlx, hhx] at q5
    rw [hly, hhy] at q6
    obtain ⟨q1a, q1b⟩ := q1
    obtain ⟨q2a, q2b⟩ := q2
    obtain ⟨q3a, q3b, _⟩ := q3
    obtain ⟨q4a, q4b, _⟩ := q4
    have d1 := h2.cell 0 rfl
    have d2 := h2.cell 1 rfl
    have d3 := h3.cell 0 rfl
    have d4 := h3.cell 1 rfl
    have hst : Hid (Blk W H 9 #[.string S] ∧ Blk W (H + 1) 54 #[.int .i64 lx, .int .i64 ly] ∧ Blk W (H + 1 + 1) 54 #[.int .i64 hx, .int .i64 hy] ∧ Below Z w W ∧ W.heap[D]? = some (.deferred (some []))) := Lib.hid ⟨h1, h2, h3, hbel, hK⟩
    obtain ⟨hD1, hD2⟩ : H + 1 + 1 + 1 + 1 ≤ D ∧ D < W.heap.size := ⟨by omega, (Array.getElem?_eq_some_iff.1 hK).1⟩
    replace hlx := Lib.hid hlx
    replace hly := Lib.hid hly
    replace hhx := Lib.hid hhx
    replace hhy := Lib.hid hhy
    replace q5 := Lib.hid q5
    replace q6 := Lib.hid q6
    clear h1 h2 h3 hbel hK hcnt z0 c1 c2 c3 c4 b0 hD
    have i1 : IntKind.i64.wrap (hx - lx) = hx - lx := IntWalk.i64_in _ (by omega)
    have i2 : IntKind.i64.wrap (hx - lx + 1) = hx - lx + 1 := IntWalk.i64_in _ (by omega)
    have i3 : IntKind.i64.wrap (hy - ly) = hy - ly := IntWalk.i64_in _ (by omega)
    have i4 : IntKind.i64.wrap (hy - ly + 1) = hy - ly + 1 := IntWalk.i64_in _ (by omega)
    gi_wp2
    refine wpIn_wide.2 (wp_via ?_)
    go_region_held3 (fun W => W.cell? ⟨H + 1, 0, none⟩ = some (.int .i64 lx) ∧ W.cell? ⟨H + 1, 1, none⟩ = some (.int .i64 ly) ∧ W.cell? ⟨H + 1 + 1, 0, none⟩ = some (.int .i64 hx) ∧ W.cell? ⟨H + 1 + 1, 1, none⟩ = some (.int .i64 hy)) (go_keep) (fail)
    refine onlyN_i ?_
    clear d1 d2 d3 d4 i1 i2 i3 i4
    obtain ⟨S1, hS1⟩ : ∃ S1 : ByteArray, (⟨(List.replicate (wid n + 1) 46).toArray⟩ : ByteArray) = S1 := ⟨_, rfl⟩
    have hrep1 : ∀ W, Calls Try.prog 24 #[.string ⟨#[46]⟩, .int .i64 (hx - lx + 1)] W fun e w' => e = .returned (.string S1) ∧ Below W.heap.size W w' := fun W => by
      have := Try.strings_Repeat ⟨#[46]⟩ (wid n + 1) W (by have := wid_le n; omega) (by show 1 * _ ≤ _; have := wid_le n; omega)
      rw [show ((wid n + 1 : Nat) : Int) = hx - lx + 1 by rw [← q5.out]; omega] at this
      rw [← hS1]
      simpa [replicate_str] using this
    have hS1s : S1.size = wid n + 1 := by rw [← hS1]; show (List.replicate _ _).toArray.size = _; simp
    have hS1l : S1.size ≤ 16384 := by have := wid_le n; omega
    obtain ⟨N, hN⟩ : ∃ N, (hei n + 1) * (wid n + 2) = N := ⟨_, rfl⟩
    have hNb : N ≤ 1073741824 := by rw [← hN]; exact pic_bd hn
    have hlen : (line n).length = S1.size + 1 := by rw [line_length, hS1s]
    have hrep2 : ∀ W g cap, (∀ j b, (S1 ++ ⟨#[10]⟩ : ByteArray).data.toList[j]? = some b → W.cell? ⟨g, j, none⟩ = some (.int .u8 b.toNat)) → Calls Try.prog 23 #[.slice (some ⟨g, 0, none⟩) (S1.size + 1) cap, .int .i64 (hy - ly + 1)] W fun e w' => e = .returned (.slice (some ⟨W.heap.size, 0, none⟩) N N) ∧
        Hid (Blk w' W.heap.size 5 (Lib.byteCells (baseB n)).toArray ∧ Below W.heap.size W w') := fun W g cap hc => by
      have hl : (S1 ++ ⟨#[10]⟩ : ByteArray).data.toList = line n := by rw [← hS1]; simp [line]
      rw [hl] at hc
      have := srep_any g cap (hei n + 1) (line n) W hc (by rw [line_length]; omega) (by omega) (by rw [line_length]; exact pic_bd hn)
      rw [hlen, show ((hei n + 1 : Nat) : Int) = hy - ly + 1 by rw [← q6.out]; omega] at this
      rw [show (hei n + 1) * (S1.size + 1) = N by rw [hS1s]; exact hN] at this
      exact this.mono fun e w' h => ⟨h.1, h.2.1, h.2.2⟩
    replace hN := Lib.hid hN
    replace hS1 := Lib.hid hS1
    clear hlen
    replace hS1s := Lib.hid hS1s
    gi_wp2_with (first
      | (refine wpListIn_conv (.tmp 65) _ rfl rfl rfl ?_; intro w3 cap3 hb3 hz3 hc3; replace hb3 := Lib.hid hb3; replace hz3 := Lib.hid hz3; replace hc3 := Lib.hid hc3)
      | (gi_at_call 24; refine callsIn_wide.2 ((hrep1 _).mono ?_); clear hrep1; rintro e w2 ⟨rfl, hb2⟩; replace hb2 := Lib.hid hb2)
      | (gi_at_call 23; refine callsIn_wide.2 ((hrep2 _ _ _ hc3.out).mono ?_); clear hrep2; rintro e w4 ⟨rfl, hb4⟩; obtain ⟨hS4, hl1, hl2⟩ := st4 hZH (by omega) hst hb2 hb3 hz3 hb4; clear hst hb2 hb3 hz3 hb4 hc3; obtain ⟨g, hg⟩ : ∃ g, w3.heap.size = g := ⟨_, rfl⟩; obtain ⟨K, hK⟩ : ∃ K, W.heap.size = K := ⟨_, rfl⟩; rw [hg] at hS4 hl1 hl2 ⊢; rw [hK] at hS4 hl1 hD2 ⊢; have e1 := hS4.s.cell 0 rfl; replace hS4 := Lib.hid hS4; replace hg := Lib.hid hg; replace hK := Lib.hid hK; have eH : H < w4.heap.size := by omega)
      | (gi_at_call 9; refine callsIn_wide.2 ((walk_any _ _).mono ?_); rintro e w' ⟨rfl, rfl⟩))
    obtain ⟨M, hM⟩ : ∃ M, w4.heap.size = M := ⟨_, rfl⟩
    obtain ⟨cs0, hcs0⟩ : ∃ c, (Lib.byteCells (baseB n)).toArray = c := ⟨_, rfl⟩
    rw [hcs0] at hS4
    obtain ⟨W5, hW5⟩ : ∃ W5, ((w4.alloc (Obj.cells #[Value.slice (some ⟨g, 0, none⟩) N N] 55)).alloc (Obj.cells #[Value.int IntKind.i64 0] 3)).alloc (Obj.cells #[Value.int IntKind.i64 ↑S.size] 3) = W5 := ⟨_, rfl⟩
    have k5 : Below M w4 W5 := by
      rw [← hW5, ← hM]
      exact (((Below.refl _ w4).alloc (Nat.le_refl _) _).alloc (by simp) _).alloc (by simp; omega) _
    have s5 : St w W5 Z H D K g S lx ly hx hy cs0 := by
      rw [← hM] at k5
      exact hS4.out.below k5 (by omega)
    have r1 : Blk W5 M 55 #[.slice (some ⟨g, 0, none⟩) N N] := by rw [← hW5, ← hM]; exact ((Blk.new _ _ _).alloc _).alloc _
    have r2 : Blk W5 (M + 1) 3 #[.int .i64 0] := by
      have := (Blk.new (w4.alloc (Obj.cells #[Value.slice (some ⟨g, 0, none⟩) N N] 55)) 3 #[.int .i64 0]).alloc (Obj.cells #[Value.int IntKind.i64 ↑S.size] 3)
      rw [hW5, World.size_alloc, hM] at this
      exact this
    have r3 : Blk W5 (M + 1 + 1) 3 #[.int .i64 n] := by
      have := Blk.new ((w4.alloc (Obj.cells #[Value.slice (some ⟨g, 0, none⟩) N N] 55)).alloc (Obj.cells #[Value.int IntKind.i64 0] 3)) 3 #[.int .i64 S.size]
      rw [hW5, World.size_alloc, World.size_alloc, hM, hSn.out] at this
      exact this
    have z5 : W5.heap.size = M + 1 + 1 + 1 := by rw [← hW5]; simp [hM]
    rw [hW5, hM]
    rw [hM] at hl2
    replace hW5 := Lib.hid hW5
    replace hM := Lib.hid hM
    replace hcs0 := Lib.hid hcs0
    clear hS4 e1 eH k5
    refine wpIn_rangeFunc_ownF rfl (by omega) (gf := 20) (lb := #[.pointer (some ⟨M + 1 + 1, 0, none⟩)]) rfl trivial (enters_of Try.func20 (by kernel_rfl) rfl)
      ((seqStopsA_iff ..).1 (walk_stops_g (fun k => (⟨k % n, Nat.mod_lt _ hn1⟩ : Fin n)) (fun x => pairE (spot x.val)) n n (fun k hk => by show pairE (spot (k % n)) = _; rw [Nat.mod_eq_of_lt hk]) (by omega) (M + 1 + 1) 9 W5 (by omega) (r3.cell 0 rfl))) walksK_t walksK_b (Below.refl _ _) (fun _ => rfl)
      (fun pre V => ((Blk V H 9 #[.string S] ∧ Blk V (H + 1) 54 #[.int .i64 lx, .int .i64 ly] ∧ Blk V (H + 1 + 1) 54 #[.int .i64 hx, .int .i64 hy] ∧ Blk V K 3 #[.int .i64 (hx - lx + 1)] ∧
        Blk V g 5 (Lib.byteCells (layP L n (pre.map Fin.val) 0 (baseB n))).toArray ∧ Blk V M 55 #[.slice (some ⟨g, 0, none⟩) N N] ∧ Blk V (M + 1) 3 #[.int .i64 (pre.length : Int)]) ∧ V.heap[D]? = some (.deferred (some []))) ∧ Below Z w V)
      (fun _ _ _ => False)
      ?hI2 ?hIx2 ?h02 ?a12 ?assign2 ?body2 ?done2 ?stop2
    case assign2 =>
      intro l x W K hK
      gi_wp2
      exact hK
    case h02 => exact ⟨⟨⟨s5.s, s5.lo, s5.hi, s5.wd, by rw [List.map_nil, layP, hcs0.out]; exact s5.rows, r1, r2⟩, s5.df⟩, s5.bel⟩
    case hI2 =>
      refine OwnFrom.and (OwnFrom.and (OwnFrom.and ((Blk.own _ _ _).from _) (OwnFrom.and ((Blk.own _ _ _).from _) (OwnFrom.and ((Blk.own _ _ _).from _) (OwnFrom.and ((Blk.own _ _ _).from _) (OwnFrom.and ((Blk.own _ _ _).from _) (OwnFrom.and ((Blk.own _ _ _).from _) ((Blk.own _ _ _).from _))))))) (ownFrom_obj (by omega) _)) ?_
      have := ownFrom_below (β := List (Fin n)) (n₀ := Z) (B := W5.heap.size) (w₀ := w) (by rw [hZ.out]; exact Nat.le_refl _) (by omega)
      exact this
    case hIx2 => exact fun _ _ _ _ _ hs _ _ => hs
    case stop2 =>
      rintro D c pre W _ _ h _
      exact h.elim
    case body2 =>
      rintro l pre ⟨m, hm⟩ V ⟨⟨⟨h1, h2, h3, h4, h5, h6, h7⟩, hdf⟩, hbel⟩ hlen
      obtain ⟨k, hk⟩ : ∃ k, pre.length = k := ⟨_, rfl⟩
      obtain ⟨X, hX⟩ : ∃ X, (spot m).1 = X := ⟨_, rfl⟩
      obtain ⟨Y, hY⟩ : ∃ Y, (spot m).2 = Y := ⟨_, rfl⟩
      obtain ⟨R, hR⟩ : ∃ R, rowOf n m = R := ⟨_, rfl⟩
      obtain ⟨W2, hW2⟩ : ∃ W2, wid n + 2 = W2 := ⟨_, rfl⟩
      obtain ⟨q, hq⟩ : ∃ q, R * W2 = q := ⟨_, rfl⟩
      obtain ⟨j, hj⟩ : ∃ j, idx n m = j := ⟨_, rfl⟩
      have t1 := rowOf_eq hm
      have t2 := colOf_eq hm
      have t3 := idx_lt hm
      have t4 : idx n m = rowOf n m * (wid n + 2) + colOf n m := rfl
      have t5 := q5.out
      rw [hhy.out, hY, hR] at t1
      rw [hlx.out, hX] at t2
      rw [hN.out, hj] at t3
      rw [hR, hW2, hq, hj] at t4
      have t6 := spot_bd m
      rw [hX, hY] at t6
      have t7 := rowOf_le hm
      have t8 := hei_le n
      have t9 := wid_le n
      rw [hR] at t7
      obtain ⟨P, hP⟩ : ∃ P, (q : Int) + X = P := ⟨_, rfl⟩
      have i1 : IntKind.i64.wrap (hy - Y) = (R : Int) := by rw [t1]; exact IntWalk.i64_in _ (by omega)
      have i2 : IntKind.i64.wrap (hx - lx + 1 + 1) = (W2 : Int) := by rw [show hx - lx + 1 + 1 = (W2 : Int) by omega]; exact IntWalk.i64_in _ (by omega)
      have i3 : IntKind.i64.wrap ((R : Int) * (W2 : Int)) = (q : Int) := by rw [← hq, Int.natCast_mul]; exact IntWalk.i64_in _ (by rw [← Int.natCast_mul, hq]; omega)
      have i4 : IntKind.i64.wrap ((q : Int) + X) = P := by rw [hP]; exact IntWalk.i64_in _ (by omega)
      have i5 : IntKind.i64.wrap (P - lx) = (j : Int) := by rw [show P - lx = (j : Int) by omega]; exact IntWalk.i64_in _ (by omega)
      have j1 : (0 : Int) ≤ (j : Int) := by omega
      have j2 : (j : Int) < (N : Int) := by omega
      have j3 : (0 : Int) ≤ (k : Int) := by omega
      rw [hk] at hlen h7
      have j4 : k < S.size := by rw [hSn.out]; exact hlen
      have j5 : (k : Int) < (S.size : Int) := by omega
      have j6 : (k : Int) ≤ 4096 := by omega
      have d1 := h1.cell 0 rfl
      have d2 := h2.cell 0 rfl
      have d3 := h3.cell 1 rfl
      have d4 := h4.cell 0 rfl
      have d6 := h6.cell 0 rfl
      have d7 := h7.cell 0 rfl
      have f7 := h7.free 0
      obtain ⟨b, hb⟩ : ∃ b, layP L n (pre.map Fin.val) 0 (baseB n) = b := ⟨_, rfl⟩
      rw [hb] at h5
      have hbl : b.length = N := by rw [← hb, layP_length, baseB_length]; exact hN.out
      have f5 := h5.free j
      obtain ⟨u, hu⟩ : ∃ u, b[j]? = some u := ⟨b[j]'(by omega), List.getElem?_eq_getElem _⟩
      have d5 := h5.cell j (v := .int .u8 u.toNat) (by simp [Lib.byteCells, hu])
      replace hst : Hid (Blk V H 9 #[.string S] ∧ Blk V (H + 1) 54 #[.int .i64 lx, .int .i64 ly] ∧ Blk V (H + 1 + 1) 54 #[.int .i64 hx, .int .i64 hy] ∧ Blk V K 3 #[.int .i64 (hx - lx + 1)] ∧
        Blk V g 5 (Lib.byteCells b).toArray ∧ Blk V M 55 #[.slice (some ⟨g, 0, none⟩) N N] ∧ Blk V (M + 1) 3 #[.int .i64 (k : Int)] ∧ V.heap[D]? = some (.deferred (some [])) ∧ Below Z w V) := Lib.hid ⟨h1, h2, h3, h4, h5, h6, h7, hdf, hbel⟩
      replace hk := Lib.hid hk
      replace hX := Lib.hid hX
      replace hY := Lib.hid hY
      replace hj := Lib.hid hj
      replace hb := Lib.hid hb
      replace hbl := Lib.hid hbl
      replace hu := Lib.hid hu
      clear hR hW2 hq t1 t2 t3 t4 t5 t6 t7 t8 t9 hP h1 h2 h3 h4 h5 h6 h7 hdf hbel s5 r1 r2 r3 z5
      gi_wp2
      rw [hX.out, hY.out]
      refine wpIn_via (wpIn_still_tail 17 (by kernel_rfl) (by kernel_rfl) (by kernel_rfl) ?_)
      simp only [List.take_succ_cons, List.take_zero, List.drop_succ_cons, List.drop_zero]
      repeat still_step
      try refine wpStill_nil ?_
      go_wp2
      refine onlyN_i ?_
      have n1 : g ≠ M + 1 := by omega
      clear i1 i2 i3 i4 i5
      gi_wp2
      obtain ⟨h1, h2, h3, h4, h5, h6, h7, hdf, hbel⟩ := hst.out
      have hSk := str_at hS.out j4
      clear d1 d2 d3 d4 d5 d6 d7 f5 f7
      refine ⟨((KeepsOthers.setCell _ _ _).trans (KeepsOthers.setCell _ _ _)).trans (KeepsOthers.drew _), (((KeepsOthers.setCell _ _ _).trans (KeepsOthers.setCell _ _ _)).trans (KeepsOthers.drew _)).walks, ⟨⟨?_, ?_, ?_, ?_, ?_, ?_, ?_⟩, ?_⟩, ?_⟩
      · exact (h1.other (b' := g) (j := j) _ (by omega)).other (b' := M + 1) (j := 0) _ (by omega)
      · exact (h2.other (b' := g) (j := j) _ (by omega)).other (b' := M + 1) (j := 0) _ (by omega)
      · exact (h3.other (b' := g) (j := j) _ (by omega)).other (b' := M + 1) (j := 0) _ (by omega)
      · exact (h4.other (b' := g) (j := j) _ (by omega)).other (b' := M + 1) (j := 0) _ (by omega)
      · have := (h5.set (j := j) (.int .u8 (S[k]'j4).toNat)).other (b' := M + 1) (j := 0) (.int .i64 ((k : Int) + 1)) (by omega)
        rw [List.map_append, List.map_singleton, layP_snoc, List.length_map, hk.out, Nat.zero_add, hj.out, hb.out, bytes_set, ← hSk]
        exact this
      · exact (h6.other (b' := g) (j := j) _ (by omega)).other (b' := M + 1) (j := 0) _ (by omega)
      · have := (h7.other (b' := g) (j := j) (.int .u8 (S[k]'j4).toNat) (by omega)).set (j := 0) (.int .i64 ((k : Int) + 1))
        rw [List.length_append, List.length_singleton, hk.out]
        exact this
      · exact ((KeepsOthers.setCell V ⟨g, j, none⟩ (.int .u8 (S[k]'j4).toNat)).trans (KeepsOthers.setCell _ ⟨M + 1, 0, none⟩ (.int .i64 ((k : Int) + 1)))).same D _ hdf rfl
      · exact ((hbel.setCell (p := ⟨g, j, none⟩) (by show Z ≤ g; omega) _).setCell (p := ⟨M + 1, 0, none⟩) (by show Z ≤ M + 1; omega) _).drew
    case done2 =>
      rintro D2 xs V hE hxs ⟨⟨⟨h1, h2, h3, h4, h5, h6, h7⟩, hdf⟩, hbel⟩ hK2
      have hmap : xs.map Fin.val = List.range n := by
        rw [show xs = seqF _ n from hxs, seqF, List.map_map]
        have : ∀ k ∈ List.range n, (Fin.val ∘ fun k => (⟨k % n, Nat.mod_lt _ hn1⟩ : Fin n)) k = id k := fun k hk => Nat.mod_eq_of_lt (List.mem_range.1 hk)
        rw [List.map_congr_left this, List.map_id]
      rw [hmap, layP_range] at h5
      have hlen : (layB L n n).length = N := by rw [layB_length]; exact hN.out
      have hcell : ∀ (j : Nat) (hj : j < (layB L n n).length), V.cell? (Addr.add ⟨g, 0, none⟩ j) = some (.int .u8 ((layB L n n)[j].toNat : Int)) := fun j hj => by
        have e2 : Addr.add ⟨g, 0, none⟩ j = ⟨g, j, none⟩ := by unfold Addr.add; split <;> simp_all
        rw [e2]
        exact h5.cell j (by simp [Lib.byteCells, List.getElem?_eq_getElem hj])
      replace hcell := Lib.hid hcell
      replace hlen := Lib.hid hlen
      have d6 := h6.cell 0 rfl
      have hlv : Hid (V.heap[D]? = some (.deferred (some [])) ∧ V.heap[D2]? = some (.deferred (some [])) ∧ Below Z w V) := Lib.hid ⟨hdf, hK2, hbel⟩
      clear h1 h2 h3 h4 h5 h6 h7 hdf hbel hK2 hmap hxs s5 r1 r2 r3 
      gi_wp2_with (refine wpListIn_back (.tmp 93) g N N (layB L n n) rfl rfl rfl hlen.out hcell.out ?_)
      obtain ⟨x1, x2, x3⟩ := hlv.out
      have hne : D ≠ D2 := by omega
      have y1 : (V.putObj D2 (.deferred none)).heap[D]? = some (.deferred (some [])) :=
        ((grownBy_putObj' _ D2 (.deferred none)).block D (Array.getElem?_eq_some_iff.1 x1).1 (fun e => by cases e; exact hne rfl)).trans x1
      refine ⟨by simp, .inl ⟨_, _, rfl, run_takeDeferred x2, ?_⟩⟩
      refine ⟨by simp, .inl ⟨_, _, rfl, run_takeDeferred y1, ?_⟩⟩
      refine ⟨_, results_tmp2 rfl _ _ _, rfl, ?_⟩
      have zz := hZ.out
      have y2 : Below Z V ((V.putObj D2 (.deferred none)).putObj D (.deferred none)) :=
        (belowK_b (w := w) (by omega) _ D2 _ _ (by omega) x2 rfl rfl).trans (belowK_b (w := w) (by omega) _ D _ _ (by omega) y1 rfl rfl)
      rw [hZ.out]
      exact x3.trans y2

theorem lettersE_len {l : List Int} (h : lettersE l = 0) : (lettersFrom 0 l).length ≤ 4096 ∧ lettersB l = lettersFrom 0 l ∧ anyNeg l = false ∧ over 4096 l = false ∧ l.length ≤ 65536 := by
  have hB : lettersB l = lettersFrom 0 l := by unfold lettersB; rw [if_pos h]
  unfold lettersE at h
  split at h
  · cases h
  · rename_i hn
    split at h
    · cases h
    · rename_i hl
      split at h
      · cases h
      · rename_i ho
        have hn' : anyNeg l = false := by simpa using hn
        have ho' : over 4096 l = false := by simpa using ho
        have := lettersFrom_length_le l 0 4096 (by omega) hn' ho'
        exact ⟨by omega, hB, hn', ho', by omega⟩

/-- chart.Draw. -/
theorem draw_any (v : Value) (l : List Int) (hl : l.length ≤ 17592186044416) (w : World) (h : Ints w v l) :
    Calls Try.prog 15 #[v] w fun e w' => e = .returned (.tuple #[.string ⟨(drawB (lettersB l)).toArray⟩, .int .i64 (lettersE l)]) ∧ Below w.heap.size w w' := by
  by_cases hb : lettersB l = []
  · have := draw_none v l hl w h hb
    rw [hb]
    exact this
  · have hE : lettersE l = 0 := by
      rcases Classical.em (lettersE l = 0) with e | e
      · exact e
      · exact absurd (by unfold lettersB; rw [if_neg e]) hb
    obtain ⟨h1, h2, _⟩ := lettersE_len hE
    have := callsIn_wide.1 (draw_in v l hl w h (lettersB l) rfl hb hE (by rw [h2]; exact h1))
    rw [hE, drawB, if_neg hb]
    exact this

end Go.Proofs.Ytafdbibjcohdbaa
