/-
  MeterBounds' walk.
-/
import Derived.Test.YtahohailcmfpjaaC
namespace Go.Proofs.Ytahohailcmfpjaa
open Go.RowKit

/-- How the world stands at the head of a round: m is the meter, nb the block of the bounds. -/
structure Head (w wr : World) (m nb : Nat) (v u : Nat → U) (ov : Bool) : Prop where
  meter : Meter wr m true ov u
  good : Good v u
  below : Below w.heap.size w wr
  bound : wr.heap[nb]? = some (.cells #[.int .i64 (v 0).b, .int .i64 (v 1).b, .int .i64 (v 2).b, .int .i64 (v 3).b, .int .i64 (v 4).b] 3 (0, 0))

theorem Head.next {w wr wx : World} {m nb : Nat} {v u u' : Nat → U} {ov ov' : Bool} (h : Head w wr m nb v u ov) (hm : w.heap.size ≤ m) (hne : nb ≠ m) (ho : Only m wr wx) (hM : Meter wx m true ov' u') (hG : Good v u') :
    Head w wx m nb v u' ov' :=
  ⟨hM, hG, h.below.trans (ho.below hm), (ho.block nb hne).trans h.bound⟩

theorem row_lt_of {w : World} {b off : Nat} {v : Value} (h : w.cell? ⟨b, off, none⟩ = some v) : b < w.heap.size := block_lt_of_cell (a := ⟨b, off, none⟩) h

theorem left_fresh {w : World} {b : Nat} {u v : Nat → U} {k : Nat} {x : U} (hM : Meter w b true false u) (hG : Good v u) (hk : k < 5) (hx : u k = x) :
    Calls Try.prog 10 #[.pointer (some ⟨b, 0, none⟩), .int .i64 k] w fun e w' => e = .returned (.int .i64 (x.b - x.n)) ∧ ∃ n, w' = w.drewN n := left_at hM hG hk hx
theorem left_spent {w : World} {b : Nat} {u v : Nat → U} {k : Nat} {x : U} (hM : Meter w b true true u) (hG : Good v u) (hk : k < 5) (hx : u k = x) :
    Calls Try.prog 10 #[.pointer (some ⟨b, 0, none⟩), .int .i64 k] w fun e w' => e = .returned (.int .i64 0) ∧ ∃ n, w' = w.drewN n := left_at hM hG hk hx

set_option maxRecDepth 100000 in
set_option maxHeartbeats 1600000 in
theorem bounds_ok (w : World) (q0 q1 q2 q3 q4 : Int) (a : Option Addr) (len cap : Nat) (F : Nat → Bool) (K N : Nat → Int) (hA : IsActs w a len F K N) (h0 : 0 ≤ q0) (h1 : 0 ≤ q1) (h2 : 0 ≤ q2) (h3 : 0 ≤ q3) (h4 : 0 ≤ q4)
    (m0 : q0 ≤ 9223372036854775807) (m1 : q1 ≤ 9223372036854775807) (m2 : q2 ≤ 9223372036854775807) (m3 : q3 ≤ 9223372036854775807) (m4 : q4 ≤ 9223372036854775807) :
    Calls Try.prog 5 #[.agg #[.int .i64 q0, .int .i64 q1, .int .i64 q2, .int .i64 q3, .int .i64 q4], .slice a len cap] w fun e w' => e = .returned (.bool true) ∧ Below w.heap.size w w' := by
  have hA' : Hid _ := hA
  clear hA
  go_enter Try.func5, Try.ntmps5
  go_wp2_with (first
    | (go_at_call 12; refine (new_ok _ _ _ _ _ _ h0 h1 h2 h3 h4).mono ?_; rintro e w1 ⟨rfl, hM1, hb1, hz1'⟩; have hz1 : Hid _ := hz1'; clear hz1';
       have c0 := below_cell hb1 (by simp) (row_cell (heap_alloc_new w _) 0 _ rfl); have c1 := below_cell hb1 (by simp) (row_cell (heap_alloc_new w _) 1 _ rfl); have c2 := below_cell hb1 (by simp) (row_cell (heap_alloc_new w _) 2 _ rfl);
       have c3 := below_cell hb1 (by simp) (row_cell (heap_alloc_new w _) 3 _ rfl); have c4 := below_cell hb1 (by simp) (row_cell (heap_alloc_new w _) 4 _ rfl)))
  have hhead : Head w (w1.alloc (.cells #[.int .i64 q0, .int .i64 q1, .int .i64 q2, .int .i64 q3, .int .i64 q4] 3)) (w.heap.size + 1 + 1) w1.heap.size (u0 q0 q1 q2 q3 q4) (u0 q0 q1 q2 q3 q4) false := by
    have hz := hz1.out
    simp only [World.size_alloc] at hz hM1
    refine ⟨(Below.heap_alloc _ _ _ (by omega)).trans hM1, ?_, ?_, heap_alloc_new _ _⟩
    · intro k hk
      rcases five hk with rfl | rfl | rfl | rfl | rfl <;> exact ⟨rfl, Int.le_refl 0, Int.le_refl 0, by assumption, by assumption⟩
    · exact (((Below.refl _ w).alloc (Nat.le_refl _) _).trans (hb1.mono (by simp))).alloc (by omega) _
  have hne : Hid (w1.heap.size ≠ w.heap.size + 1 + 1) := by
    have hz := hz1.out
    simp only [World.size_alloc] at hz
    show _ ≠ _
    omega
  clear hM1 hb1 hz1 c0 c1 c2 c3 c4
  go_loopg [8, 9] len (fun g s8 s9 wr => ∃ (i : Nat) (ov : Bool) (u : Nat → U), i ≤ len ∧ g = len - i ∧ s8 = .bool ov ∧ s9 = .int .i64 i ∧ Head w wr (w.heap.size + 1 + 1) w1.heap.size (u0 q0 q1 q2 q3 q4) u ov)
  case atStart => exact ⟨0, false, _, Nat.zero_le _, rfl, rfl, rfl, hhead⟩
  case round =>
    obtain ⟨i, ov, u, hi, rfl, rfl, rfl, hH⟩ := hrel
    clear hhead
    have hmax := hA'.out.1
    by_cases hlt : i < len
    · obtain ⟨b, off, rfl, cF, cK, cN, _, _⟩ := hA'.out.2 i hlt
      have cF := below_cell hH.below (by exact row_lt_of cF) cF
      go_upto_if 74 with (fail)
      go_cut [8] (fun s8 wx => ∃ (ov' : Bool) (u' : Nat → U), s8 = .bool ov' ∧ Head w wx (w.heap.size + 1 + 1) w1.heap.size (u0 q0 q1 q2 q3 q4) u' ov')
      case first =>
        have cK := below_cell hH.below (by exact row_lt_of cK) cK
        have cN := below_cell hH.below (by exact row_lt_of cN) cN
        have hD : Only (w.heap.size + 1 + 1) wr wr.drew := (Only.refl _ _).drew
        have hfr := free_any (w := wr.drew) (row_drew hH.meter) hH.good (K i) (N i)
        have hsp := fun hM => use_spent (w := wr.drew) (b := w.heap.size + 1 + 1) (u := u) hM hH.good (K i) (N i)
        have hus := fun hM => use_fresh (w := wr.drew) (b := w.heap.size + 1 + 1) (u := u) hM hH.good (K i) (N i)
        cases hF : F i
        · rw [hF] at cF
          clear hfr
          cases ov
          · clear hsp
            have hus := hus (row_drew hH.meter)
            have hHH : Hid _ := hH
            clear hH
            go_wp2_with fail
            go_still_tail 11, (by kernel_rfl)
            change wpList _ _ _ _ _ wr.drew
            go_wp2_with (go_at_call 8; refine hus.mono ?_; clear hus; rintro e w2 ⟨u2, hG2, ho2, ⟨rfl, hM2⟩ | ⟨rfl, hM2⟩ | ⟨rfl, hM2⟩⟩)
            all_goals (go_meet; exact ⟨_, _, rfl, hHH.out.next (by omega) hne.out (hD.trans ho2) hM2 hG2⟩)
          · clear hus
            have hsp := hsp (row_drew hH.meter)
            have hHH : Hid _ := hH
            clear hH
            go_wp2_with fail
            go_still_tail 11, (by kernel_rfl)
            change wpList _ _ _ _ _ wr.drew
            go_wp2_with (go_at_call 8; refine hsp.mono ?_; clear hsp; rintro e w2 ⟨rfl | rfl, hM2, ho2⟩)
            all_goals (go_meet; exact ⟨_, _, rfl, hHH.out.next (by omega) hne.out (hD.trans ho2) hM2 hHH.out.good⟩)
        · rw [hF] at cF
          clear hsp hus
          have hHH : Hid _ := hH
          clear hH
          go_wp2_with fail
          go_still_tail 11, (by kernel_rfl)
          change wpList _ _ _ _ _ wr.drew
          go_wp2_with (go_at_call 9; refine hfr.mono ?_; clear hfr; rintro e w2 ⟨u2, r2, rfl, hG2, ho2, hM2⟩)
          all_goals (go_meet; exact ⟨_, _, rfl, hHH.out.next (by omega) hne.out (hD.trans ho2) hM2 hG2⟩)
      case rest =>
        obtain ⟨ov2, u2, rfl, hH2⟩ := hcut
        clear hH cF cK cN
        go_wp2_with fail
        go_loopg [11] 5 (fun g s11 wy => ∃ k : Nat, k ≤ 5 ∧ g = 5 - k ∧ s11 = .int .i64 k ∧ Head w wy (w.heap.size + 1 + 1) w1.heap.size (u0 q0 q1 q2 q3 q4) u2 ov2)
        case atStart => exact ⟨0, by omega, rfl, rfl, hH2⟩
        case round =>
          obtain ⟨k, hk, rfl, rfl, hH3⟩ := hrel
          clear hH2
          by_cases hk5 : k < 5
          · have hg := hH3.good k hk5
            obtain ⟨x, hx⟩ : ∃ x, u2 k = x := ⟨_, rfl⟩
            rw [hx] at hg
            have cB : wr.cell? ⟨w1.heap.size, k, none⟩ = some (.int .i64 x.b) := by
              rw [hg.1]
              rcases five hk5 with rfl | rfl | rfl | rfl | rfl <;> exact row_cell hH3.bound _ _ rfl
            have hus := used_at hH3.meter hk5 hx
            have hHH : Hid _ := hH3
            obtain ⟨-, g1, g2, g3, g4⟩ := hg
            have hxx : Hid _ := hx
            clear hH3 hx
            have hwr : IntKind.i64.wrap (x.b - x.n) = x.b - x.n := IntWalk.i64_in _ (by omega)
            have d1 : decide (x.n < 0) = false := by simp; omega
            have d2 : decide (x.m < x.n) = false := by simp; omega
            have d3 : decide (x.b < x.m) = false := by simp; omega
            cases ov2
            · go_wp2_with (go_at_call 7; refine hus.mono ?_; clear hus; rintro e w3 ⟨rfl, hM3, ho3⟩; have cB3 := only_cell ho3 hne.out cB; have hH4 := hHH.out.next (by omega) hne.out ho3 hM3 hHH.out.good; clear hM3 cB ho3; have hH5 : Hid _ := hH4; clear hH4)
              go_quiet ((go_at_call 10; refine Calls.quiet_of (left_fresh (row_drewN hH5.out.meter _) hHH.out.good hk5 hxx.out)))
              go_wp2_with fail
              go_roundg (5 - (k + 1))
              case measure => omega
              case rel => exact ⟨k + 1, by omega, rfl, by go_num, by have h := hH5.out; exact ⟨row_drewN h.meter _, h.good, belowDrew h.below _, row_drewN h.bound _⟩⟩
            · go_wp2_with (go_at_call 7; refine hus.mono ?_; clear hus; rintro e w3 ⟨rfl, hM3, ho3⟩; have cB3 := only_cell ho3 hne.out cB; have hH4 := hHH.out.next (by omega) hne.out ho3 hM3 hHH.out.good; clear hM3 cB ho3; have hH5 : Hid _ := hH4; clear hH4)
              go_quiet ((go_at_call 10; refine Calls.quiet_of (left_spent (row_drewN hH5.out.meter _) hHH.out.good hk5 hxx.out)))
              go_wp2_with fail
              go_roundg (5 - (k + 1))
              case measure => omega
              case rel => exact ⟨k + 1, by omega, rfl, by go_num, by have h := hH5.out; exact ⟨row_drewN h.meter _, h.good, belowDrew h.below _, row_drewN h.bound _⟩⟩
          · obtain rfl : k = 5 := by omega
            have hov := over_made hH3.meter
            have hHH : Hid _ := hH3
            clear hH3
            cases ov2
            · go_wp2_with (go_at_call 11; refine hov.mono ?_; clear hov; rintro e w4 ⟨rfl, rfl⟩)
              go_roundg (len - (i + 1))
              case measure => omega
              case rel => exact ⟨i + 1, false, u2, by omega, rfl, rfl, by go_num, hHH.out⟩
            · go_wp2_with (go_at_call 11; refine hov.mono ?_; clear hov; rintro e w4 ⟨rfl, rfl⟩)
              go_roundg (len - (i + 1))
              case measure => omega
              case rel => exact ⟨i + 1, true, u2, by omega, rfl, rfl, by go_num, hHH.out⟩
    · obtain rfl : i = len := by omega
      have hB := hH.below
      clear hH
      go_wp2_with fail
      go_ret
      exact ⟨rfl, hB⟩

end Go.Proofs.Ytahohailcmfpjaa
