/-
  The iterator of strings.SplitSeq at a slash hands over a text's pieces; route.Valid tells whether a text is a path.
-/
import Derived.Test.YtlpgkkaeojnndaaDoorX
import Derived.Test.YtlpgkkaeojnndaaDoorN
import Derived.Test.YtlpgkkaeojnndaaDoorShelf
import Derived.Shelf.Abstract
import Derived.OwnWalkIn
import Derived.TacticsInMore
import Derived.TacticsIn
import Derived.LoopNIn
import Derived.LoopIn
import Derived.BigFrameIn
import Derived.RangeFuncCalls
namespace Go.Proofs.YtlpgkkaeojnndaaDoor
open Go.RowKit

attribute [local go_sem] Oper.semAt_some

@[simp, go_sem] theorem wide_fn (f : FuncId) : Fence.wide.fn f = True := rfl
@[simp, go_sem] theorem wide_depth : Fence.wide.depth = none := rfl
theorem comesIn_wideR {P : Program} {m m' : Machine} {e : Ending} (l : Nat) (h : Comes P m m' e) : ComesIn (Machine.fenced P (Fence.wide.inRound l)) P m m' e := by
  have := comesIn_wide.2 h
  exact this
theorem callsIn_round {l n : Nat} {P : Program} {f : FuncId} {args : Array Value} {w : World} {R : Ending → World → Prop} (h : Calls P f args w R) : CallsIn (Fence.wide.inRound l) n P f args w R :=
  ⟨trivial, fun cs _ => let ⟨e, w', fr, r, s, x⟩ := h cs; ⟨e, w', fr, r, comesIn_wideR l s, x⟩⟩

def slash : ByteArray := ⟨#[47]⟩

theorem splitseq_any (s : ByteArray) (w : World) :
    Calls Tryd.prog 28 #[.string s, .string ⟨#[47]⟩] w fun e w' => e = .returned (.func (.func 50) #[] #[.pointer (some ⟨w.heap.size + 1, 0, none⟩), .pointer (some ⟨w.heap.size, 0, none⟩), .pointer (some ⟨w.heap.size + 1 + 1, 0, none⟩)]) ∧
      w' = ((w.alloc (.cells #[.string s] 9)).alloc (.cells #[.string ⟨#[47]⟩] 9)).alloc (.cells #[.int .i64 0] 3) := by
  have h39 : ∀ w, Calls Tryd.prog 39 #[.string s, .string ⟨#[47]⟩, .int .i64 0] w fun e w' => e = .returned (.func (.func 50) #[] #[.pointer (some ⟨w.heap.size + 1, 0, none⟩), .pointer (some ⟨w.heap.size, 0, none⟩), .pointer (some ⟨w.heap.size + 1 + 1, 0, none⟩)]) ∧
      w' = ((w.alloc (.cells #[.string s] 9)).alloc (.cells #[.string ⟨#[47]⟩] 9)).alloc (.cells #[.int .i64 0] 3) := fun w => by
    go_enter Tryd.func39, Tryd.ntmps39
    go_wp2
    go_ret
    exact ⟨rfl, rfl⟩
  go_enter Tryd.func28, Tryd.ntmps28
  go_wp2_with (go_at_call 39; refine (h39 _).mono ?_; rintro e w' ⟨rfl, rfl⟩)
  go_ret
  exact ⟨rfl, rfl⟩

/-- How long the text is that a block holds. -/
def strAt (w : World) (b : Nat) : Nat := match w.cell? ⟨b, 0, none⟩ with
  | some (.string s) => s.size
  | _ => 0
theorem strAt_eq {w : World} {b : Nat} {s : ByteArray} (h : w.cell? ⟨b, 0, none⟩ = some (.string s)) : strAt w b = s.size := by unfold strAt; rw [h]

theorem extract_size (r : ByteArray) (k : Nat) : (r.extract k r.size).size = r.size - k := by
  rw [← size_data, Lib.extract_to_end, List.length_drop, size_data]

theorem cell_set_l {W : World} {b b' : Nat} {v u : Value} (h : W.cell? ⟨b, 0, none⟩ = some v) (hne : b' ≠ b) : (W.setCell ⟨b', 0, none⟩ u).cell? ⟨b, 0, none⟩ = some v :=
  (World.cell?_of_block (Below.heap_setCell W ⟨b', 0, none⟩ u b hne.symm)).trans h
theorem cell_blk {w W : World} {b : Nat} (h : W.heap[b]? = w.heap[b]?) {v : Value} (hc : w.cell? ⟨b, 0, none⟩ = some v) : W.cell? ⟨b, 0, none⟩ = some v := (World.cell?_of_block (a := ⟨b, 0, none⟩) h).trans hc
theorem frozen_blk {w W : World} {b : Nat} (h : W.heap[b]? = w.heap[b]?) {f : Bool} (hc : w.frozen? ⟨b, 0, none⟩ = f) : W.frozen? ⟨b, 0, none⟩ = f := (World.frozen?_of_block (a := ⟨b, 0, none⟩) h).trans hc

set_option maxRecDepth 100000 in
set_option maxHeartbeats 4000000 in
theorem split_stops (s : ByteArray) (hs : s.size ≤ 9223372036854775807) (b n : Nat) (w : World) (hb : b + 1 + 1 < w.heap.size) (c0 : w.cell? ⟨b, 0, none⟩ = some (.string s)) (f0 : w.frozen? ⟨b, 0, none⟩ = false)
    (c1 : w.cell? ⟨b + 1, 0, none⟩ = some (.string ⟨#[47]⟩)) (c2 : w.cell? ⟨b + 1 + 1, 0, none⟩ = some (.int .i64 0)) :
    SeqBox Fence.wide n Tryd.prog 50 #[.pointer (some ⟨b + 1, 0, none⟩), .pointer (some ⟨b, 0, none⟩), .pointer (some ⟨b + 1 + 1, 0, none⟩)] (fun x : ByteArray => #[.string x]) b b (b + 1 + 1 + 1)
      (fun xs => xs = piecesB s) (fun pre => ∃ rest, piecesB s = pre ++ rest) (piecesB s).length w := fun l J Jx W hW hset hY h0 => by
  have c0' : W.cell? ⟨b, 0, none⟩ = some (.string s) := (hW.cell (p := ⟨b, 0, none⟩) (by simp; omega)).trans c0
  have f0' : W.frozen? ⟨b, 0, none⟩ = false := (hW.frozen (p := ⟨b, 0, none⟩) (by simp; omega)).trans f0
  have c1' : W.cell? ⟨b + 1, 0, none⟩ = some (.string ⟨#[47]⟩) := (hW.cell (p := ⟨b + 1, 0, none⟩) (by simp; omega)).trans c1
  have c2' : W.cell? ⟨b + 1 + 1, 0, none⟩ = some (.int .i64 0) := (hW.cell (p := ⟨b + 1 + 1, 0, none⟩) (by simp; omega)).trans c2
  clear c0 f0 c1 c2 hW hb
  refine callsIn_of_wp Tryd.func50 rfl trivial ?_ rfl
  simp only [Tryd.ntmps50, List.size_toArray, List.length_cons, List.length_nil, Nat.reduceAdd, Nat.reduceSub, Array.replicate_succ, Array.replicate_zero, List.push_toArray, List.append_toArray, List.nil_append, List.cons_append]
  gi_wp2
  gi_loopw [7, 8] (fun s7 s8 wr => ∃ (pre : List ByteArray) (r : ByteArray), r.size ≤ s.size ∧ Hid (piecesB s = pre ++ piecesB r) ∧ wr.cell? ⟨b, 0, none⟩ = some (.string r) ∧ wr.frozen? ⟨b, 0, none⟩ = false ∧
      wr.cell? ⟨b + 1, 0, none⟩ = some (.string ⟨#[47]⟩) ∧ wr.cell? ⟨b + 1 + 1, 0, none⟩ = some (.int .i64 0) ∧ J pre wr) (fun _ _ wr => strAt wr b)
  case atStart => exact ⟨[], s, Nat.le_refl _, (rfl : piecesB s = [] ++ piecesB s), c0', f0', c1', c2', h0⟩
  case round =>
    obtain ⟨pre, r, hr, hP, d0, g0, d1, d2, hJ⟩ := hrel
    clear c0' f0' c1' c2' h0
    by_cases hm : Lib.indexByte r.data.toList 47 = -1
    · have hI := fun W => Tryd.strings_Index_one r 47 W
      rw [hm] at hI
      have hP2 : Hid (piecesB s = pre ++ [r]) := by
        have := hP.out
        rw [piecesB_miss r hm] at this
        exact this
      obtain ⟨fn, tmps, assign, body, hy, hR⟩ := hY pre r wr hJ (by rw [hP2.out]; simp)
      clear hm hP hset hY
      gi_wp2_with (first | (gi_at_call 49; refine callsIn_wide.2 ((hI _).mono ?_); rintro e w' ⟨rfl, rfl⟩))
      refine hR.mono ?_
      clear hR hy
      rintro e W3 (⟨rfl, hJ3, hk3⟩ | ⟨rfl, hx3⟩)
      · gi_wp2
        go_end0
        exact ⟨⟨_, rfl⟩, .inl ⟨_, hP2.out.symm, hJ3⟩⟩
      · gi_wp2
        go_end0
        exact ⟨⟨_, rfl⟩, .inr ⟨_, ⟨[], by rw [hP2.out]; simp⟩, hx3⟩⟩
    · obtain ⟨k, hk⟩ : ∃ k : Nat, Lib.indexByte r.data.toList 47 = k := ⟨(Lib.indexByte r.data.toList 47).toNat, by have := Lib.indexByte_ge r.data.toList 47; omega⟩
      have hI := fun W => Tryd.strings_Index_one r 47 W
      rw [hk] at hI
      obtain ⟨hkr, hcut⟩ := piecesB_hit r k hk
      have hP2 : Hid (piecesB s = pre ++ r.extract 0 k :: piecesB (r.extract (k + 1) r.size)) := by
        have := hP.out
        rw [hcut] at this
        exact this
      obtain ⟨fn, tmps, assign, body, hy, hR⟩ := hY pre (r.extract 0 k) wr hJ (by rw [hP2.out]; simp)
      have hsz := extract_size r (k + 1)
      clear hm hk hcut hP hY
      have i1 : (0 : Int) ≤ k := by omega
      have i2 : (k : Int) ≤ r.size := by omega
      have hsz' := Lib.hid hsz
      clear hsz
      gi_wp2_with (first | (gi_at_call 49; refine callsIn_wide.2 ((hI _).mono ?_); rintro e w' ⟨rfl, rfl⟩))
      refine hR.mono ?_
      clear hR hy
      rintro e W3 (⟨rfl, hJ3, hk3⟩ | ⟨rfl, hx3⟩)
      · have e0 := cell_blk (hk3 b (Nat.le_refl _) (by omega)) d0
        have e1 := frozen_blk (hk3 b (Nat.le_refl _) (by omega)) g0
        have e2 := cell_blk (hk3 (b + 1) (by omega) (by omega)) d1
        have e3 := cell_blk (hk3 (b + 1 + 1) (by omega) (by omega)) d2
        have hm0 : Hid (strAt _ b = r.size) := strAt_eq d0
        clear d0 g0 d1 d2 hk3 hJ
        gi_wp2
        go_roundw
        case rel => exact ⟨pre ++ [r.extract 0 k], r.extract (k + 1) r.size, by have := hsz'.out; omega, by show _ = _; rw [hP2.out]; simp, World.cell?_setCell_same' _ _ _ (by rw [e0]; rfl), by rw [World.frozen?_setCell]; exact e1, cell_set_l e2 (by omega), cell_set_l e3 (by omega), hset _ _ _ hJ3⟩
        case measure => rw [hm0.out, strAt_eq (World.cell?_setCell_same' _ _ _ (by rw [e0]; rfl)), hsz'.out]; omega
      · gi_wp2
        refine bodyPost_ret (results_none rfl _ _ _) rfl ?_
        exact ⟨⟨_, rfl⟩, .inr ⟨_, ⟨piecesB (r.extract (k + 1) r.size), by rw [hP2.out]; simp⟩, hx3⟩⟩

end Go.Proofs.YtlpgkkaeojnndaaDoor
