/-
  token.finder.find's closure.
-/
import Derived.Test.YtfefbelglohfdaaL
namespace Go.Proofs.Ytfefbelglohfdaa
open Go.RowKit Go.Maps Go.MapKept
open Go.Proofs.YtfefbelglohfdaaW.PrintWords

theorem add_mk (g o j : Nat) : (⟨g, o, none⟩ : Addr).add j = ⟨g, o + j, none⟩ := by
  unfold Addr.add
  split <;> simp_all

theorem C_dropped {w : World} {g o n c : Nat} {L : List Int} (h : Kd.C (Kd.int .u8) w (some ⟨g, o, none⟩) n L) (hn : L.length = n) (hc : n ≤ c) (m : Nat) (hm : m < n) : Kd.C (Kd.int .u8) w (some ⟨g, o + m, none⟩) (L.drop m).length (L.drop m) := by
  subst hn
  have := Kd.C_drop (c := c) h (Nat.le_of_lt hm) hc
  rw [if_neg (by omega)] at this
  have e : (Option.map (fun x : Addr => x.add (m * (Kd.int .u8).sz)) (some ⟨g, o, none⟩)) = some ⟨g, o + m, none⟩ := by
    show some ((⟨g, o, none⟩ : Addr).add (m * 1)) = _
    rw [add_mk, Nat.mul_one]
  rwa [e] at this

theorem run_dropped (k : Nat) {w : World} {g o n c0 at_ pl : Nat} {L : List Int} {most r : Int} (h : Kd.C (Kd.int .u8) w (some ⟨g, o, none⟩) n L) (hn : L.length = n) (hnc : n ≤ c0) (hat : at_ < n) (hpl : pl < at_)
    (hr : PTok.token_run.f k (L.drop at_) (L.drop pl) most = some r) (W : World) (hW : Below w.heap.size w W) :
    Calls Try.prog 16 #[.slice (some ⟨g, o + at_, none⟩) (n - at_) (c0 - at_), .slice (some ⟨g, o + pl, none⟩) (n - pl) (n - pl), .int .i64 most] W fun e w' => e = .returned (.int .i64 r) ∧ Drawn0 W w' := by
  have hW' := Kd.C_below h hW
  have := PTok.token_run.calls k (some ⟨g, o + at_, none⟩) (c0 - at_) (L.drop at_) (some ⟨g, o + pl, none⟩) (n - pl) (L.drop pl) most r W (C_dropped hW' hn (Nat.le_refl _) at_ hat) (by simp; omega) (C_dropped hW' hn (Nat.le_refl _) pl (by omega)) (by simp; omega) hr
  rw [List.length_drop, List.length_drop, hn] at this
  exact this

set_option maxHeartbeats 1000000 in
set_option maxRecDepth 100000 in
theorem better_any (k : Nat) (L : List Int) (A0 : Option Addr) (n c0 F M u B4 B5 B7 B8 B9 at_ pl : Nat) (most r ln ds : Int) (w : World) (hn : L.length = n) (hnc : n ≤ c0) (hb : n < 17592186043904)
    (hC : Kd.C (Kd.int .u8) w A0 n L) (hF : Blk w F 45 (fcs A0 n c0 M u)) (h4 : Blk w B4 39 #[.pointer (some ⟨F, 0, none⟩)]) (h5 : Blk w B5 3 #[.int .i64 (at_ : Int)]) (h7 : Blk w B7 3 #[.int .i64 most])
    (h8 : Blk w B8 3 #[.int .i64 ln]) (h9 : Blk w B9 3 #[.int .i64 ds]) (d58 : B5 ≠ B8) (d59 : B5 ≠ B9) (d89 : B8 ≠ B9) (hat : at_ < n) (hpl : pl < at_) (hr : PTok.token_run.f k (L.drop at_) (L.drop pl) most = some r) :
    Calls Try.prog 15 #[.int .i64 (pl : Int), .pointer (some ⟨B4, 0, none⟩), .pointer (some ⟨B5, 0, none⟩), .pointer (some ⟨B7, 0, none⟩), .pointer (some ⟨B8, 0, none⟩), .pointer (some ⟨B9, 0, none⟩)] w fun e w' => e = .returned (.tuple #[]) ∧
      Blk w' B8 3 #[.int .i64 (if ln < r then r else ln)] ∧ Blk w' B9 3 #[.int .i64 (if ln < r then (at_ : Int) - pl else ds)] ∧ Kp (fun j => j ≠ B8 ∧ j ≠ B9) w w' := by
  obtain ⟨g, o, rfl, hgw, _⟩ := byt_of_C hC (by omega)
  have hcall := run_dropped k hC hn hnc hat hpl hr w.drew ((Below.refl _ w).drew)
  have k0 : w.cell? ⟨F, 0, none⟩ = some (.slice (some ⟨g, o, none⟩) n c0) := hF.cell 0 rfl
  have k4 : w.cell? ⟨B4, 0, none⟩ = some (.pointer (some ⟨F, 0, none⟩)) := h4.cell 0 rfl
  have k5 : w.cell? ⟨B5, 0, none⟩ = some (.int .i64 (at_ : Int)) := h5.cell 0 rfl
  have k7 : w.cell? ⟨B7, 0, none⟩ = some (.int .i64 most) := h7.cell 0 rfl
  have k8 : w.cell? ⟨B8, 0, none⟩ = some (.int .i64 ln) := h8.cell 0 rfl
  have b0 : (0 : Int) ≤ (at_ : Int) := by omega
  have b1 : (at_ : Int) ≤ (n : Int) := by omega
  have b2 : (0 : Int) ≤ (pl : Int) := by omega
  have b3 : (pl : Int) ≤ (n : Int) := by omega
  have b4 : (n : Int) ≤ (c0 : Int) := by omega
  have b5 : (n : Int) ≤ (n : Int) := Int.le_refl _
  replace h5 := Aside0.mk h5
  replace h8 := Aside0.mk h8
  replace h9 := Aside0.mk h9
  replace hcall := Aside0.mk hcall
  replace hC := Aside0.mk hC
  clear hr hF h4 h7
  obtain ⟨R1, hR1⟩ : ∃ x, (if ln < r then r else ln) = x := ⟨_, rfl⟩
  obtain ⟨R2, hR2⟩ : ∃ x, (if ln < r then (at_ : Int) - pl else ds) = x := ⟨_, rfl⟩
  rw [hR1, hR2]
  replace hR1 := Aside0.mk hR1
  replace hR2 := Aside0.mk hR2
  go_enter Try.func15, Try.ntmps15
  go_wp2
  go_still_tail 23, (by kernel_rfl)
  change wpList _ _ _ _ _ w.drew
  go_wp2_with (first
    | (go_at_call 16; (with_reducible refine hcall.out.mono ?_); rintro e w' ⟨rfl, ⟨nd, rfl⟩⟩))
  · have hc : ln < r := by assumption
    have hkp : Kp (fun j => j ≠ B8 ∧ j ≠ B9) w (w.drewN (1 + nd)) := (Kp.refl _ w).drewN _
    replace h5 := Aside0.mk (show Blk (w.drewN (1 + nd)) B5 3 #[.int .i64 (at_ : Int)] from h5.out)
    replace h8 := Aside0.mk (show Blk (w.drewN (1 + nd)) B8 3 #[.int .i64 ln] from h8.out)
    replace h9 := Aside0.mk (show Blk (w.drewN (1 + nd)) B9 3 #[.int .i64 ds] from h9.out)
    clear hcall k0 k4 k5 k7 k8
    generalize w.drewN (1 + nd) = W at hkp h5 h8 h9 ⊢
    replace hkp := Aside0.mk hkp
    obtain rfl : r = R1 := by rw [← hR1.out, if_pos hc]
    obtain rfl : (at_ : Int) - pl = R2 := by rw [← hR2.out, if_pos hc]
    have k5 : W.cell? ⟨B5, 0, none⟩ = some (.int .i64 (at_ : Int)) := h5.out.cell 0 rfl
    have k8 : W.cell? ⟨B8, 0, none⟩ = some (.int .i64 ln) := h8.out.cell 0 rfl
    have k9 : W.cell? ⟨B9, 0, none⟩ = some (.int .i64 ds) := h9.out.cell 0 rfl
    have f8 := h8.out.free 0
    have f9 := h9.out.free 0
    have hw1 : IntKind.i64.wrap ((at_ : Int) - (pl : Int)) = (at_ : Int) - (pl : Int) := IntWalk.i64_in _ (by omega)
    have s8 : ∀ x, (W.setCell ⟨B8, 0, none⟩ x).cell? ⟨B5, 0, none⟩ = some (.int .i64 (at_ : Int)) := fun x => (World.cell?_of_block (show _ = W.heap[B5]? from Below.heap_setCell _ _ _ B5 d58)).trans k5
    have s9 : ∀ x y, ((W.setCell ⟨B8, 0, none⟩ x).setCell ⟨B9, 0, none⟩ y).cell? ⟨B5, 0, none⟩ = some (.int .i64 (at_ : Int)) := fun x y => (World.cell?_of_block (show _ = (W.setCell ⟨B8, 0, none⟩ x).heap[B5]? from Below.heap_setCell _ _ _ B5 d59)).trans (s8 x)
    have g9 : ∀ x, (W.setCell ⟨B8, 0, none⟩ x).cell? ⟨B9, 0, none⟩ = some (.int .i64 ds) := fun x => (World.cell?_of_block (show _ = W.heap[B9]? from Below.heap_setCell _ _ _ B9 d89.symm)).trans k9
    have f9' : ∀ x, (W.setCell ⟨B8, 0, none⟩ x).frozen? ⟨B9, 0, none⟩ = false := fun x => (World.frozen?_of_block (show _ = W.heap[B9]? from Below.heap_setCell _ _ _ B9 d89.symm)).trans f9
    go_region_held3 (fun X => X.cell? ⟨B5, 0, none⟩ = some (.int .i64 (at_ : Int))) (first | exact s8 _ | exact s9 _ _ | go_keep) (fail)
    all_goals
      go_wp2
      go_end0
      refine ⟨rfl, ?_, ?_, ?_⟩
      · have q1 : Blk (W.setCell ⟨B8, 0, none⟩ (.int .i64 r)) B8 3 #[.int .i64 r] := h8.out.set (j := 0) _
        exact (show _ = (W.setCell ⟨B8, 0, none⟩ (.int .i64 r)).heap[B8]? from Below.heap_setCell _ _ _ B8 d89).trans q1
      · have q1 : Blk (W.setCell ⟨B8, 0, none⟩ (.int .i64 r)) B9 3 #[.int .i64 ds] := (show _ = W.heap[B9]? from Below.heap_setCell _ _ _ B9 d89.symm).trans h9.out
        exact q1.set (j := 0) _
      · exact ((hkp.out.set (fun h => h.1 rfl) _).set (fun h => h.2 rfl) _).drew
  · have hc : ¬ ln < r := by omega
    have hkp : Kp (fun j => j ≠ B8 ∧ j ≠ B9) w (w.drewN (1 + nd)) := (Kp.refl _ w).drewN _
    replace h5 := Aside0.mk (show Blk (w.drewN (1 + nd)) B5 3 #[.int .i64 (at_ : Int)] from h5.out)
    replace h8 := Aside0.mk (show Blk (w.drewN (1 + nd)) B8 3 #[.int .i64 ln] from h8.out)
    replace h9 := Aside0.mk (show Blk (w.drewN (1 + nd)) B9 3 #[.int .i64 ds] from h9.out)
    clear hcall k0 k4 k5 k7 k8
    generalize w.drewN (1 + nd) = W at hkp h5 h8 h9 ⊢
    replace hkp := Aside0.mk hkp
    obtain rfl : ln = R1 := by rw [← hR1.out, if_neg hc]
    obtain rfl : ds = R2 := by rw [← hR2.out, if_neg hc]
    go_end0
    exact ⟨rfl, h8.out, h9.out, hkp.out⟩

end Go.Proofs.Ytfefbelglohfdaa
