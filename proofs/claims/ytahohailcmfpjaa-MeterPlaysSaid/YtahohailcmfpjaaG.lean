/-
  MeterPlays' walk: both meters under the same calls.
-/
import Derived.Test.YtahohailcmfpjaaF
import Derived.Deep.RegionHeld3
import Derived.Deep.DeepCutAuto
namespace Go.Proofs.Ytahohailcmfpjaa
open Go.RowKit

theorem names_any (w : World) : Calls Try.prog 14 #[] w fun e w' => e = .returned (.bool true) ∧ w = w' := by
  go_enter Try.func14, Try.ntmps14
  go_wp2
  go_ret
  exact ⟨rfl, rfl⟩

theorem row_lt_of {w : World} {b off : Nat} {v : Value} (h : w.cell? ⟨b, off, none⟩ = some v) : b < w.heap.size := block_lt_of_cell (a := ⟨b, off, none⟩) h

/-- How the world stands at the head of a round. -/
structure Heads (w wr : World) (m r : Nat) (v u : Nat → U) (ov : Bool) : Prop where
  both : Both wr m r v u ov
  below : Below w.heap.size w wr
  hm : w.heap.size ≤ m
  hr : w.heap.size ≤ r

theorem heads_alloc {w wr : World} {m r : Nat} {v u : Nat → U} {ov : Bool} (h : Heads w wr m r v u ov) (o : Obj) : Heads w (wr.alloc o) m r v u ov := by
  have h1 := row_lt h.both.mine
  have h2 := row_lt h.both.doc
  exact ⟨⟨(Below.heap_alloc _ _ _ h1).trans h.both.mine, (Below.heap_alloc _ _ _ h2).trans h.both.doc, h.both.good, h.both.ne⟩, h.below.alloc h.below.size _, h.hm, h.hr⟩

theorem heads_drewN {w wr : World} {m r : Nat} {v u : Nat → U} {ov : Bool} (h : Heads w wr m r v u ov) (n : Nat) : Heads w (wr.drewN n) m r v u ov :=
  ⟨h.both.drewN n, belowDrew h.below n, h.hm, h.hr⟩

theorem heads_two {w wx w3 w4 : World} {m r : Nat} {v u u' : Nat → U} {ov ov' : Bool} (h : Heads w wx m r v u ov) (ho3 : Only m wx.drew w3) (hM3 : Meter w3 m true ov' u') (ho4 : Only r w3 w4) (hR4 : RMeter w4 r ov' u') (hG : Good v u') :
    Heads w w4 m r v u' ov' :=
  ⟨⟨only_meter ho4 h.both.ne hM3, hR4, hG, h.both.ne⟩, (h.below.drew.trans (ho3.below h.hm)).trans (ho4.below h.hr), h.hm, h.hr⟩

set_option maxRecDepth 100000 in
set_option maxHeartbeats 1000000 in
theorem plays_ok (w : World) (q0 q1 q2 q3 q4 : Int) (a : Option Addr) (len cap : Nat) (F : Nat → Bool) (K N : Nat → Int) (hA : IsActs w a len F K N) (h0 : 0 ≤ q0) (h1 : 0 ≤ q1) (h2 : 0 ≤ q2) (h3 : 0 ≤ q3) (h4 : 0 ≤ q4)
    (m0 : q0 ≤ 9223372036854775807) (m1 : q1 ≤ 9223372036854775807) (m2 : q2 ≤ 9223372036854775807) (m3 : q3 ≤ 9223372036854775807) (m4 : q4 ≤ 9223372036854775807) :
    Calls Try.prog 4 #[.agg #[.int .i64 q0, .int .i64 q1, .int .i64 q2, .int .i64 q3, .int .i64 q4], .slice a len cap] w fun e w' => e = .returned (.bool true) ∧ Below w.heap.size w w' := by
  have hA' : Hid _ := hA
  clear hA
  go_enter Try.func4, Try.ntmps4
  go_wp2_with (first
    | (go_at_call 12; refine (new_ok _ _ _ _ _ _ h0 h1 h2 h3 h4).mono ?_; rintro e w1 ⟨rfl, hM1, hb1, hz1'⟩; have hz1 : Hid _ := hz1'; clear hz1';
       have c0 := below_cell hb1 (by simp) (row_cell (heap_alloc_new w _) 0 _ rfl); have c1 := below_cell hb1 (by simp) (row_cell (heap_alloc_new w _) 1 _ rfl); have c2 := below_cell hb1 (by simp) (row_cell (heap_alloc_new w _) 2 _ rfl);
       have c3 := below_cell hb1 (by simp) (row_cell (heap_alloc_new w _) 3 _ rfl); have c4 := below_cell hb1 (by simp) (row_cell (heap_alloc_new w _) 4 _ rfl))
    | (go_at_call 13; refine (rnew_ok _ _ _ _ _ _ h0 h1 h2 h3 h4).mono ?_; rintro e w2 ⟨rfl, hb2⟩; clear c0 c1 c2 c3 c4)
    | (go_at_call 14; refine (names_any _).mono ?_; rintro e w3 ⟨rfl, rfl⟩)
    | (refine wpList_store_last rfl 45 _ _ rfl _ (rcells (u0 q0 q1 q2 q3 q4) false) rfl rfl (size45 rfl) rfl (by as_aux_lemma => kernel_rfl) ?_))
  have hhead : Heads w (w2.alloc (.cells (rcells (u0 q0 q1 q2 q3 q4) false) 45)) (w.heap.size + 1 + 1) w2.heap.size (u0 q0 q1 q2 q3 q4) (u0 q0 q1 q2 q3 q4) false := by
    have hz := hz1.out
    have hs2 := hb2.size
    simp only [World.size_alloc] at hz hM1
    refine ⟨⟨(Below.heap_alloc _ _ _ (by omega)).trans (below_meter hb2 (by omega) hM1), heap_alloc_new _ _, ?_, by omega⟩, ?_, by omega, by omega⟩
    · intro k hk
      rcases five hk with rfl | rfl | rfl | rfl | rfl <;> exact ⟨rfl, Int.le_refl 0, Int.le_refl 0, by assumption, by assumption⟩
    · exact ((((Below.refl _ w).alloc (Nat.le_refl _) _).trans (hb1.mono (by simp))).trans (hb2.mono (by omega))).alloc (by omega) _
  clear hM1 hb1 hz1 hb2
  obtain ⟨m, hm⟩ : ∃ m, w.heap.size + 1 + 1 = m := ⟨_, rfl⟩
  obtain ⟨r, hr⟩ : ∃ r, w2.heap.size = r := ⟨_, rfl⟩
  rw [hm, hr] at hhead
  simp only [hm, hr]
  clear hm hr
  go_loopg [9] len (fun g s9 wr => ∃ (i : Nat) (ov : Bool) (u : Nat → U), i ≤ len ∧ g = len - i ∧ s9 = .int .i64 i ∧ Heads w wr m r (u0 q0 q1 q2 q3 q4) u ov)
  case atStart => exact ⟨0, false, _, Nat.zero_le _, rfl, rfl, hhead⟩
  case round =>
    obtain ⟨i, ov, u, hi, rfl, rfl, hH⟩ := hrel
    clear hhead
    have hmax := hA'.out.1
    by_cases hlt : i < len
    · obtain ⟨b, off, rfl, cF, cK, cN, _, _⟩ := hA'.out.2 i hlt
      have cF := below_cell hH.below (by exact row_lt_of cF) cF
      have cK := below_cell hH.below (by exact row_lt_of cK) cK
      have cN := below_cell hH.below (by exact row_lt_of cN) cN
      obtain ⟨fr, hfr⟩ : ∃ fr, F i = fr := ⟨_, rfl⟩
      obtain ⟨kd, hkd⟩ : ∃ kd, K i = kd := ⟨_, rfl⟩
      obtain ⟨nn, hnn⟩ : ∃ nn, N i = nn := ⟨_, rfl⟩
      rw [hfr] at cF
      rw [hkd] at cK
      rw [hnn] at cN
      have hHH : Hid _ := hH
      clear hH hfr hkd hnn
      cases fr
      · go_wp2_with fail
        obtain ⟨ab, hab⟩ : ∃ ab, wr.heap.size = ab := ⟨_, rfl⟩
        obtain ⟨wx, hwx⟩ : ∃ wx, wr.alloc (.cells #[.bool false, .int .i64 kd, .int .i64 nn] 23) = wx := ⟨_, rfl⟩
        have hX := heads_alloc hHH.out (.cells #[.bool false, .int .i64 kd, .int .i64 nn] 23)
        have g1 : wx.cell? ⟨ab, 1, none⟩ = some (.int .i64 kd) := by rw [← hwx, ← hab]; exact row_cell (heap_alloc_new wr _) 1 _ rfl
        have g2 : wx.cell? ⟨ab, 2, none⟩ = some (.int .i64 nn) := by rw [← hwx, ← hab]; exact row_cell (heap_alloc_new wr _) 2 _ rfl
        have hma : ab ≠ m := by have := row_lt hHH.out.both.mine; omega
        have hra : ab ≠ r := by have := row_lt hHH.out.both.doc; omega
        simp only [hab, hwx]
        rw [hwx] at hX
        have hXX : Hid _ := hX
        have hmaH : Hid _ := hma
        have hraH : Hid _ := hra
        clear hX hma hra hwx hab hHH cF cK cN
        go_cut [10, 74] (fun s10 s74 wc => s10 = .pointer (some ⟨ab, 0, none⟩) ∧ s74 = .bool false ∧ Heads w wc m r (u0 q0 q1 q2 q3 q4) (useF ov u kd nn).2.2 (useF ov u kd nn).2.1)
        case first =>
          have e1 : ((useF ov u kd nn).1 != (useF ov u kd nn).1) = false := by simp
          go_region_held3 (fun w' => w'.cell? ⟨ab, 1, none⟩ = some (.int .i64 kd) ∧ w'.cell? ⟨ab, 2, none⟩ = some (.int .i64 nn))
            (first | exact ⟨g1, g2⟩ | exact ⟨g3, g4⟩ | exact ⟨g5, g6⟩)
            (first
              | (go_at_call 8; refine (use_f (row_drew hXX.out.both.mine) hXX.out.both.good kd nn).mono ?_; rintro e w3 ⟨rfl, hM3, ho3⟩; have g3 := only_cell ho3 hmaH.out g1; have g4 := only_cell ho3 hmaH.out g2)
              | (go_at_call 16; refine (ruse_f (only_rmeter ho3 hXX.out.both.ne.symm (row_drew hXX.out.both.doc)) hXX.out.both.good kd nn).mono ?_; rintro e w4 ⟨rfl, hR4, ho4⟩; have g5 := only_cell ho4 hraH.out g3; have g6 := only_cell ho4 hraH.out g4))
          go_wp2_with fail
          go_meet
          exact ⟨rfl, rfl, heads_two hXX.out ho3 hM3 ho4 hR4 (useF_good hXX.out.both.good kd nn)⟩
        case rest =>
          obtain ⟨rfl, rfl, hY⟩ := hcut
          have hYY : Hid _ := hY
          have hst := stands_any wc m r _ _ _ hY.both
          clear hY
          go_wp2_with (go_at_call 17; refine hst.mono ?_; rintro e w5 ⟨rfl, n5, rfl⟩)
          go_roundg (len - (i + 1))
          case measure => omega
          case rel => exact ⟨i + 1, _, _, by omega, rfl, by go_num, heads_drewN hYY.out _⟩
      · go_wp2_with fail
        obtain ⟨ab, hab⟩ : ∃ ab, wr.heap.size = ab := ⟨_, rfl⟩
        obtain ⟨wx, hwx⟩ : ∃ wx, wr.alloc (.cells #[.bool true, .int .i64 kd, .int .i64 nn] 23) = wx := ⟨_, rfl⟩
        have hX := heads_alloc hHH.out (.cells #[.bool true, .int .i64 kd, .int .i64 nn] 23)
        have g1 : wx.cell? ⟨ab, 1, none⟩ = some (.int .i64 kd) := by rw [← hwx, ← hab]; exact row_cell (heap_alloc_new wr _) 1 _ rfl
        have g2 : wx.cell? ⟨ab, 2, none⟩ = some (.int .i64 nn) := by rw [← hwx, ← hab]; exact row_cell (heap_alloc_new wr _) 2 _ rfl
        have hma : ab ≠ m := by have := row_lt hHH.out.both.mine; omega
        have hra : ab ≠ r := by have := row_lt hHH.out.both.doc; omega
        simp only [hab, hwx]
        rw [hwx] at hX
        have hXX : Hid _ := hX
        have hmaH : Hid _ := hma
        have hraH : Hid _ := hra
        clear hX hma hra hwx hab hHH cF cK cN
        go_cut [10, 62] (fun s10 s62 wc => s10 = .pointer (some ⟨ab, 0, none⟩) ∧ s62 = .bool false ∧ Heads w wc m r (u0 q0 q1 q2 q3 q4) (freeF u kd nn).2 ov)
        case first =>
          have e1 : ((freeF u kd nn).1 != (freeF u kd nn).1) = false := by simp
          go_region_held3 (fun w' => w'.cell? ⟨ab, 1, none⟩ = some (.int .i64 kd) ∧ w'.cell? ⟨ab, 2, none⟩ = some (.int .i64 nn))
            (first | exact ⟨g1, g2⟩ | exact ⟨g3, g4⟩ | exact ⟨g5, g6⟩)
            (first
              | (go_at_call 9; refine (free_f (row_drew hXX.out.both.mine) hXX.out.both.good kd nn).mono ?_; rintro e w3 ⟨rfl, hM3, ho3⟩; have g3 := only_cell ho3 hmaH.out g1; have g4 := only_cell ho3 hmaH.out g2)
              | (go_at_call 15; refine (rfree_f (only_rmeter ho3 hXX.out.both.ne.symm (row_drew hXX.out.both.doc)) hXX.out.both.good kd nn).mono ?_; rintro e w4 ⟨rfl, hR4, ho4⟩; have g5 := only_cell ho4 hraH.out g3; have g6 := only_cell ho4 hraH.out g4))
          go_wp2_with fail
          go_meet
          exact ⟨rfl, rfl, heads_two hXX.out ho3 hM3 ho4 hR4 (freeF_good hXX.out.both.good kd nn)⟩
        case rest =>
          obtain ⟨rfl, rfl, hY⟩ := hcut
          have hYY : Hid _ := hY
          have hst := stands_any wc m r _ _ _ hY.both
          clear hY
          go_wp2_with (go_at_call 17; refine hst.mono ?_; rintro e w5 ⟨rfl, n5, rfl⟩)
          go_roundg (len - (i + 1))
          case measure => omega
          case rel => exact ⟨i + 1, _, _, by omega, rfl, by go_num, heads_drewN hYY.out _⟩
    · obtain rfl : i = len := by omega
      have hHH : Hid _ := hH
      have hst := stands_any wr m r _ _ _ hH.both
      clear hH
      go_wp2_with (go_at_call 17; refine hst.mono ?_; rintro e w5 ⟨rfl, n5, rfl⟩)
      go_ret
      exact ⟨rfl, belowDrew hHH.out.below _⟩

end Go.Proofs.Ytahohailcmfpjaa
