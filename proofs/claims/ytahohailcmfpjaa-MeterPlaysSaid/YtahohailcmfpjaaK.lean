/-
  MeterBack's walk: what is used of memory and given back.
-/
import Derived.Test.YtahohailcmfpjaaB
import Derived.Deep.RegionWith
namespace Go.Proofs.Ytahohailcmfpjaa
open Go.RowKit

/-- A cell below survives. -/
theorem below_cell {B : Nat} {w w' : World} (h : Below B w w') {b i : Nat} (hb : b < B) {v : Value} (hc : w.cell? ⟨b, i, none⟩ = some v) : w'.cell? ⟨b, i, none⟩ = some v :=
  (h.cell (p := ⟨b, i, none⟩) hb).trans hc

theorem only_cell {c : Nat} {w w' : World} (h : Only c w w') {b i : Nat} (hb : b ≠ c) {v : Value} (hc : w.cell? ⟨b, i, none⟩ = some v) : w'.cell? ⟨b, i, none⟩ = some v :=
  (World.cell?_of_block (w := w) (h.block b hb)).trans hc

theorem only_meter {c : Nat} {w w' : World} (h : Only c w w') {b : Nat} (hb : b ≠ c) {mk ov : Bool} {u : Nat → U} (hc : Meter w b mk ov u) : Meter w' b mk ov u :=
  (h.block b hb).trans hc

theorem below_meter {B : Nat} {w w' : World} (h : Below B w w') {b : Nat} (hb : b < B) {mk ov : Bool} {u : Nat → U} (hc : Meter w b mk ov u) : Meter w' b mk ov u :=
  (h.block b hb).trans hc

/-- The small meter of the law's example: two of three are used. -/
def one3 : Nat → U := upd (u0 0 0 0 3 0) 3 ⟨3, 2, 2⟩

section
variable {w : World} {b : Nat}
theorem one_use (hM : Meter w b true false (u0 0 0 0 3 0)) :
    Calls Try.prog 8 #[.pointer (some ⟨b, 0, none⟩), .int .i64 3, .int .i64 2] w fun e w' => e = .returned (.int .i64 0) ∧ Meter w' b true false one3 ∧ Only b w w' :=
  use_ok (k := 3) hM (by omega) (by omega) (by decide) (by decide) (by decide)
theorem one_left (hM : Meter w b true false one3) :
    Calls Try.prog 10 #[.pointer (some ⟨b, 0, none⟩), .int .i64 3] w fun e w' => e = .returned (.int .i64 1) ∧ ∃ n, w' = w.drewN n :=
  left_in (k := 3) hM (by omega) (by decide) (by decide) (by decide)
end

theorem belowDrew {B : Nat} {a w : World} (h : Below B a w) (n : Nat) : Below B a (w.drewN n) := ⟨h.os, h.tape, h.output, h.size, h.block⟩

theorem bad_chain {w w1 w2 w3 : World} {A : Obj} (hb1 : Below (w.alloc A).heap.size (w.alloc A) w1) (hb2 : Below w1.heap.size w1 w2) (ho3 : Only (w1.heap.size + 1) w2 w3) (n : Nat) :
    Below w.heap.size w (w3.drewN n) := by
  have s1 := hb1.size
  simp only [World.size_alloc] at s1
  exact belowDrew (((Below.refl _ w).alloc (Nat.le_refl _) A).trans ((hb1.mono (by simp)).trans ((hb2.mono (by omega)).trans (ho3.below (by omega))))) n

set_option maxHeartbeats 800000 in
theorem back_bad (w : World) (q0 q1 q2 q3 q4 n k : Int) (hq : q0 < 0 ∨ q1 < 0 ∨ q2 < 0 ∨ q3 < 0 ∨ q4 < 0) :
    Calls Try.prog 6 #[.agg #[.int .i64 q0, .int .i64 q1, .int .i64 q2, .int .i64 q3, .int .i64 q4], .int .i64 n, .int .i64 k] w fun e w' => e = .returned (.bool true) ∧ Below w.heap.size w w' := by
  have hq' : Hid _ := hq
  clear hq
  go_enter Try.func6, Try.ntmps6
  go_wp2_with (first
    | (go_at_call_of 12 q0; refine (new_bad _ _ _ _ _ _ hq'.out).mono ?_; rintro e w1 ⟨rfl, hb1⟩)
    | (go_at_call 12; refine (new_ok _ _ _ _ _ _ (by omega) (by omega) (by omega) (by omega) (by omega)).mono ?_; rintro e w2 ⟨rfl, hM2, hb2, hz2⟩; have hM := hM2; clear hM2)
    | (go_at_call 8; refine (one_use hM).mono ?_; rintro e w3 ⟨rfl, hM3, ho3⟩)
    | (go_at_call 10; refine (one_left hM3).mono ?_; rintro e w4 ⟨rfl, n4, rfl⟩))
  go_ret
  exact ⟨rfl, bad_chain hb1 hb2 ho3 n4⟩


/-- How the world stands behind the two makings and the small example: m is the meter of the quota, q lies in its box. -/
structure Mid (w w' : World) (m : Nat) (q0 q1 q2 q3 q4 : Int) : Prop where
  meter : Meter w' m true false (u0 q0 q1 q2 q3 q4)
  below : Below w.heap.size w w'
  own : w.heap.size < m
  q : w'.cell? ⟨w.heap.size, 3, none⟩ = some (.int .i64 q3)

theorem mid_chain {w w1 w2 w3 : World} {q0 q1 q2 q3 q4 : Int}
    (hM1 : Meter w1 ((w.alloc (.cells #[.int .i64 q0, .int .i64 q1, .int .i64 q2, .int .i64 q3, .int .i64 q4] 39)).heap.size + 1) true false (u0 q0 q1 q2 q3 q4))
    (hb1 : Below (w.alloc (.cells #[.int .i64 q0, .int .i64 q1, .int .i64 q2, .int .i64 q3, .int .i64 q4] 39)).heap.size (w.alloc (.cells #[.int .i64 q0, .int .i64 q1, .int .i64 q2, .int .i64 q3, .int .i64 q4] 39)) w1)
    (hz1 : w1.heap.size = (w.alloc (.cells #[.int .i64 q0, .int .i64 q1, .int .i64 q2, .int .i64 q3, .int .i64 q4] 39)).heap.size + 2)
    (hb2 : Below w1.heap.size w1 w2) (ho3 : Only (w1.heap.size + 1) w2 w3) (n : Nat) :
    Mid w (w3.drewN n) (w.heap.size + 1 + 1) q0 q1 q2 q3 q4 := by
  have hq : (w.alloc (.cells #[.int .i64 q0, .int .i64 q1, .int .i64 q2, .int .i64 q3, .int .i64 q4] 39)).cell? ⟨w.heap.size, 3, none⟩ = some (.int .i64 q3) :=
    row_cell (heap_alloc_new w _) 3 _ rfl
  simp only [World.size_alloc] at hM1 hz1
  have hb1' := hb1
  simp only [World.size_alloc] at hb1'
  refine ⟨?_, ?_, by omega, ?_⟩
  · exact row_drewN (only_meter ho3 (by omega) (below_meter hb2 (by omega) hM1)) n
  · exact bad_chain hb1 hb2 ho3 n
  · exact only_cell ho3 (by omega) (below_cell hb2 (by omega) (below_cell hb1' (by omega) hq))

set_option maxHeartbeats 800000 in
theorem back_neg (w : World) (q0 q1 q2 q3 q4 n k : Int) (h0 : 0 ≤ q0) (h1 : 0 ≤ q1) (h2 : 0 ≤ q2) (h3 : 0 ≤ q3) (h4 : 0 ≤ q4) (hn : n < 0) :
    Calls Try.prog 6 #[.agg #[.int .i64 q0, .int .i64 q1, .int .i64 q2, .int .i64 q3, .int .i64 q4], .int .i64 n, .int .i64 k] w fun e w' => e = .returned (.bool true) ∧ Below w.heap.size w w' := by
  go_enter Try.func6, Try.ntmps6
  go_wp2_with (first
    | (go_at_call_of 12 q0; refine (new_ok _ _ _ _ _ _ h0 h1 h2 h3 h4).mono ?_; rintro e w1 ⟨rfl, hM1, hb1, hz1'⟩; have hz1 : Hid _ := hz1'; clear hz1')
    | (go_at_call 12; refine (new_ok _ _ _ _ _ _ (by omega) (by omega) (by omega) (by omega) (by omega)).mono ?_; rintro e w2 ⟨rfl, hM2, hb2, hz2⟩; have hM := hM2; clear hM2 hz2)
    | (go_at_call_of 8 w1; refine (one_use hM).mono ?_; rintro e w3 ⟨rfl, hM3, ho3⟩)
    | (go_at_call_of 10 w1; refine (one_left hM3).mono ?_; rintro e w4 ⟨rfl, n4, rfl⟩; have hmid := mid_chain hM1 hb1 hz1.out hb2 ho3 n4; clear hM1 hb1 hz1 hb2 ho3 hM hM3; obtain ⟨hMM, hBB, hown, hqq⟩ := hmid)
    | (go_at_call 8; refine (use_arg hMM (.inr hn)).mono ?_; rintro e w5 ⟨rfl, rfl⟩)
    | (go_at_call 11; refine (over_made hMM).mono ?_; rintro e w5 ⟨rfl, rfl⟩))
  go_ret
  exact ⟨rfl, hBB⟩


set_option maxHeartbeats 800000 in
theorem back_more (w : World) (q0 q1 q2 q3 q4 n k : Int) (h0 : 0 ≤ q0) (h1 : 0 ≤ q1) (h2 : 0 ≤ q2) (h3 : 0 ≤ q3) (h4 : 0 ≤ q4) (hn : q3 < n) (hmax : q3 ≤ 9223372036854775807) :
    Calls Try.prog 6 #[.agg #[.int .i64 q0, .int .i64 q1, .int .i64 q2, .int .i64 q3, .int .i64 q4], .int .i64 n, .int .i64 k] w fun e w' => e = .returned (.bool true) ∧ Below w.heap.size w w' := by
  go_enter Try.func6, Try.ntmps6
  go_wp2_with (first
    | (go_at_call_of 12 q0; refine (new_ok _ _ _ _ _ _ h0 h1 h2 h3 h4).mono ?_; rintro e w1 ⟨rfl, hM1, hb1, hz1'⟩; have hz1 : Hid _ := hz1'; clear hz1')
    | (go_at_call 12; refine (new_ok _ _ _ _ _ _ (by omega) (by omega) (by omega) (by omega) (by omega)).mono ?_; rintro e w2 ⟨rfl, hM2, hb2, hz2⟩; have hM := hM2; clear hM2 hz2)
    | (go_at_call_of 8 w1; refine (one_use hM).mono ?_; rintro e w3 ⟨rfl, hM3, ho3⟩)
    | (go_at_call_of 10 w1; refine (one_left hM3).mono ?_; rintro e w4 ⟨rfl, n4, rfl⟩; have hmid := mid_chain hM1 hb1 hz1.out hb2 ho3 n4; clear hM1 hb1 hz1 hb2 ho3 hM hM3; obtain ⟨hMM, hBB, hown, hqq⟩ := hmid)
    | (go_at_call 8; refine (use_more (k := 3) hMM (by omega) (by omega) (Int.le_refl 0) h3 hmax (.inr (by show q3 - 0 < n; omega))).mono ?_; rintro e w5 ⟨rfl, hM5, ho5⟩; have hq5 := only_cell ho5 (by omega) hqq)
    | (go_at_call 11; refine (over_made hM5).mono ?_; rintro e w6 ⟨rfl, rfl⟩))
  go_ret
  exact ⟨rfl, hBB.trans (ho5.below (by omega))⟩

/-- How the world stands behind the use. -/
structure Mid2 (w w' : World) (m : Nat) (q0 q1 q2 q3 q4 n : Int) : Prop where
  meter : Meter w' m true false (upd (u0 q0 q1 q2 q3 q4) 3 ⟨q3, n, n⟩)
  below : Below w.heap.size w w'
  own : w.heap.size < m
  q : w'.cell? ⟨w.heap.size, 3, none⟩ = some (.int .i64 q3)

theorem mid2 {w w4 w5 : World} {m : Nat} {q0 q1 q2 q3 q4 n : Int} (hn0 : 0 ≤ n) (hBB : Below w.heap.size w w4) (hown : w.heap.size < m) (hqq : w4.cell? ⟨w.heap.size, 3, none⟩ = some (.int .i64 q3))
    (hM5 : Meter w5 m true false (upd (u0 q0 q1 q2 q3 q4) 3 ⟨(u0 q0 q1 q2 q3 q4 3).b, (u0 q0 q1 q2 q3 q4 3).n + n, max (u0 q0 q1 q2 q3 q4 3).m ((u0 q0 q1 q2 q3 q4 3).n + n)⟩)) (ho5 : Only m w4 w5) :
    Mid2 w w5 m q0 q1 q2 q3 q4 n := by
  refine ⟨?_, hBB.trans (ho5.below (by omega)), hown, only_cell ho5 (by omega) hqq⟩
  have e : (⟨(u0 q0 q1 q2 q3 q4 3).b, (u0 q0 q1 q2 q3 q4 3).n + n, max (u0 q0 q1 q2 q3 q4 3).m ((u0 q0 q1 q2 q3 q4 3).n + n)⟩ : U) = ⟨q3, n, n⟩ := by
    simp only [u0, U.mk.injEq, true_and]
    omega
  rw [e] at hM5
  exact hM5

section
variable {w : World} {b : Nat} {u : Nat → U} {q n m k : Int}
theorem back_used (hM : Meter w b true false (upd u 3 ⟨q, n, m⟩)) :
    Calls Try.prog 7 #[.pointer (some ⟨b, 0, none⟩), .int .i64 3] w fun e w' => e = .returned (.tuple #[.int .i64 n, .int .i64 m]) ∧ ∃ x, w' = w.drewN x :=
  used_made (k := 3) hM (by omega)
theorem back_used' (hM : Meter w b true false (upd u 3 ⟨q, n, m⟩)) :
    Calls Try.prog 7 #[.pointer (some ⟨b, 0, none⟩), .int .i64 3] w fun e w' => e = .returned (.tuple #[.int .i64 n, .int .i64 m]) ∧ Meter w' b true false (upd u 3 ⟨q, n, m⟩) ∧ Only b w w' :=
  (back_used hM).mono fun _ _ ⟨he, x, hx⟩ => ⟨he, by rw [hx]; exact row_drewN hM x, by rw [hx]; exact (Only.refl b w).drewN x⟩
theorem back_free_arg (hM : Meter w b true false (upd u 3 ⟨q, n, m⟩)) (hk : k < 0 ∨ n < k) :
    Calls Try.prog 9 #[.pointer (some ⟨b, 0, none⟩), .int .i64 3, .int .i64 k] w fun e w' => e = .returned (.int .i64 2) ∧ w = w' :=
  free_arg hM (.inr hk)
theorem back_free (hM : Meter w b true false (upd u 3 ⟨q, n, m⟩)) (hk : 0 ≤ k) (h1 : k ≤ n) (h2 : n ≤ 9223372036854775807) :
    Calls Try.prog 9 #[.pointer (some ⟨b, 0, none⟩), .int .i64 3, .int .i64 k] w fun e w' => e = .returned (.int .i64 0) ∧ Meter w' b true false (upd u 3 ⟨q, n - k, m⟩) ∧ Only b w w' := by
  refine (free_ok (k := 3) hM (.inr rfl) hk h1 h2).mono fun e w' ⟨he, hM', ho⟩ => ⟨he, ?_, ho⟩
  have e : upd (upd u 3 ⟨q, n, m⟩) 3 ⟨(upd u 3 ⟨q, n, m⟩ 3).b, (upd u 3 ⟨q, n, m⟩ 3).n - k, (upd u 3 ⟨q, n, m⟩ 3).m⟩ = upd u 3 ⟨q, n - k, m⟩ := by
    funext j
    unfold upd
    by_cases h : j = 3 <;> simp [h]
  rwa [e] at hM'
theorem back_left (hM : Meter w b true false (upd u 3 ⟨q, n, m⟩)) (h0 : 0 ≤ n) (h1 : n ≤ q) (h2 : q ≤ 9223372036854775807) :
    Calls Try.prog 10 #[.pointer (some ⟨b, 0, none⟩), .int .i64 3] w fun e w' => e = .returned (.int .i64 (q - n)) ∧ ∃ x, w' = w.drewN x :=
  left_in (k := 3) hM (by omega) h0 h1 h2
end

set_option maxHeartbeats 800000 in
theorem back_arg1 (w : World) (q0 q1 q2 q3 q4 n k : Int) (h0 : 0 ≤ q0) (h1 : 0 ≤ q1) (h2 : 0 ≤ q2) (h3 : 0 ≤ q3) (h4 : 0 ≤ q4) (hn0 : 0 ≤ n) (hn : n ≤ q3) (hmax : q3 ≤ 9223372036854775807) (hk : k < 0) :
    Calls Try.prog 6 #[.agg #[.int .i64 q0, .int .i64 q1, .int .i64 q2, .int .i64 q3, .int .i64 q4], .int .i64 n, .int .i64 k] w fun e w' => e = .returned (.bool true) ∧ Below w.heap.size w w' := by
  go_enter Try.func6, Try.ntmps6
  go_wp2_with (first
    | (go_at_call_of 12 q0; refine (new_ok _ _ _ _ _ _ h0 h1 h2 h3 h4).mono ?_; rintro e w1 ⟨rfl, hM1, hb1, hz1'⟩; have hz1 : Hid _ := hz1'; clear hz1')
    | (go_at_call 12; refine (new_ok _ _ _ _ _ _ (by omega) (by omega) (by omega) (by omega) (by omega)).mono ?_; rintro e w2 ⟨rfl, hM2, hb2, hz2⟩; have hM := hM2; clear hM2 hz2)
    | (go_at_call_of 8 w1; refine (one_use hM).mono ?_; rintro e w3 ⟨rfl, hM3, ho3⟩)
    | (go_at_call_of 10 w1; refine (one_left hM3).mono ?_; rintro e w4 ⟨rfl, n4, rfl⟩; have hmid := mid_chain hM1 hb1 hz1.out hb2 ho3 n4; clear hM1 hb1 hz1 hb2 ho3 hM hM3; obtain ⟨hMM, hBB, hown, hqq⟩ := hmid)
    | (go_at_call 8; refine (use_ok (k := 3) hMM (by omega) hn0 (Int.le_refl 0) (by show n ≤ q3 - 0; omega) hmax).mono ?_; rintro e w5 ⟨rfl, hM5, ho5⟩; have hmid := mid2 hn0 hBB hown hqq hM5 ho5; clear hM5 ho5 hMM hBB hown hqq; obtain ⟨hMM, hBB, hown, hqq⟩ := hmid)
    | (go_at_call 9; refine (back_free_arg hMM (.inl hk)).mono ?_; rintro e w6 ⟨rfl, rfl⟩)
    | (go_at_call 7; refine (back_used hMM).mono ?_; rintro e w6 ⟨rfl, n6, rfl⟩))
  go_ret
  exact ⟨by simp, belowDrew hBB _⟩

set_option maxHeartbeats 800000 in
theorem back_arg2 (w : World) (q0 q1 q2 q3 q4 n k : Int) (h0 : 0 ≤ q0) (h1 : 0 ≤ q1) (h2 : 0 ≤ q2) (h3 : 0 ≤ q3) (h4 : 0 ≤ q4) (hn0 : 0 ≤ n) (hn : n ≤ q3) (hmax : q3 ≤ 9223372036854775807) (hk : n < k) :
    Calls Try.prog 6 #[.agg #[.int .i64 q0, .int .i64 q1, .int .i64 q2, .int .i64 q3, .int .i64 q4], .int .i64 n, .int .i64 k] w fun e w' => e = .returned (.bool true) ∧ Below w.heap.size w w' := by
  go_enter Try.func6, Try.ntmps6
  go_wp2_with (first
    | (go_at_call_of 12 q0; refine (new_ok _ _ _ _ _ _ h0 h1 h2 h3 h4).mono ?_; rintro e w1 ⟨rfl, hM1, hb1, hz1'⟩; have hz1 : Hid _ := hz1'; clear hz1')
    | (go_at_call 12; refine (new_ok _ _ _ _ _ _ (by omega) (by omega) (by omega) (by omega) (by omega)).mono ?_; rintro e w2 ⟨rfl, hM2, hb2, hz2⟩; have hM := hM2; clear hM2 hz2)
    | (go_at_call_of 8 w1; refine (one_use hM).mono ?_; rintro e w3 ⟨rfl, hM3, ho3⟩)
    | (go_at_call_of 10 w1; refine (one_left hM3).mono ?_; rintro e w4 ⟨rfl, n4, rfl⟩; have hmid := mid_chain hM1 hb1 hz1.out hb2 ho3 n4; clear hM1 hb1 hz1 hb2 ho3 hM hM3; obtain ⟨hMM, hBB, hown, hqq⟩ := hmid)
    | (go_at_call 8; refine (use_ok (k := 3) hMM (by omega) hn0 (Int.le_refl 0) (by show n ≤ q3 - 0; omega) hmax).mono ?_; rintro e w5 ⟨rfl, hM5, ho5⟩; have hmid := mid2 hn0 hBB hown hqq hM5 ho5; clear hM5 ho5 hMM hBB hown hqq; obtain ⟨hMM, hBB, hown, hqq⟩ := hmid)
    | (go_at_call 9; refine (back_free_arg hMM (.inr hk)).mono ?_; rintro e w6 ⟨rfl, rfl⟩)
    | (go_at_call 7; refine (back_used hMM).mono ?_; rintro e w6 ⟨rfl, n6, rfl⟩))
  go_ret
  exact ⟨by simp, belowDrew hBB _⟩

set_option maxHeartbeats 800000 in
theorem back_ok (w : World) (q0 q1 q2 q3 q4 n k : Int) (h0 : 0 ≤ q0) (h1 : 0 ≤ q1) (h2 : 0 ≤ q2) (h3 : 0 ≤ q3) (h4 : 0 ≤ q4) (hn0 : 0 ≤ n) (hn : n ≤ q3) (hmax : q3 ≤ 9223372036854775807) (hk : 0 ≤ k) (hkn : k ≤ n) :
    Calls Try.prog 6 #[.agg #[.int .i64 q0, .int .i64 q1, .int .i64 q2, .int .i64 q3, .int .i64 q4], .int .i64 n, .int .i64 k] w fun e w' => e = .returned (.bool true) ∧ Below w.heap.size w w' := by
  go_enter Try.func6, Try.ntmps6
  go_wp2_with (first
    | (go_at_call_of 12 q0; refine (new_ok _ _ _ _ _ _ h0 h1 h2 h3 h4).mono ?_; rintro e w1 ⟨rfl, hM1, hb1, hz1'⟩; have hz1 : Hid _ := hz1'; clear hz1')
    | (go_at_call 12; refine (new_ok _ _ _ _ _ _ (by omega) (by omega) (by omega) (by omega) (by omega)).mono ?_; rintro e w2 ⟨rfl, hM2, hb2, hz2⟩; have hM := hM2; clear hM2 hz2)
    | (go_at_call_of 8 w1; refine (one_use hM).mono ?_; rintro e w3 ⟨rfl, hM3, ho3⟩)
    | (go_at_call_of 10 w1; refine (one_left hM3).mono ?_; rintro e w4 ⟨rfl, n4, rfl⟩; have hmid := mid_chain hM1 hb1 hz1.out hb2 ho3 n4; clear hM1 hb1 hz1 hb2 ho3 hM hM3; obtain ⟨hMM, hBB, hown, hqq⟩ := hmid)
    | (go_at_call 8; refine (use_ok (k := 3) hMM (by omega) hn0 (Int.le_refl 0) (by show n ≤ q3 - 0; omega) hmax).mono ?_; rintro e w5 ⟨rfl, hM5, ho5⟩; have hmid := mid2 hn0 hBB hown hqq hM5 ho5; clear hM5 ho5 hMM hBB hown hqq; obtain ⟨hMM, hBB, hown, hqq⟩ := hmid)
    | (go_at_call 9; refine (back_free hMM hk hkn (by omega)).mono ?_; rintro e w6 ⟨rfl, hM6, ho6⟩; have hq6 := only_cell ho6 (by omega) hqq; have hB6 := hBB.trans (ho6.below (by omega)); clear hMM hBB ho6 hqq; have hMM := hM6; clear hM6)
    | (go_at_call 7; refine (back_used' hMM).mono ?_; rintro e w7 ⟨rfl, hM7, ho7⟩; have hq7 := only_cell ho7 (by omega) hq6; have hB7 := hB6.trans (ho7.below (by omega)); clear hMM hB6 ho7 hq6; have hMM := hM7; clear hM7))
  have e1 : (n - k == n - k) = true := by simp
  have e2 : (n == n) = true := by simp
  have e3 : (q3 - (n - k) == q3 - n + k) = true := by simp; omega
  go_quiet ((go_at_call 10; refine Calls.quiet_of (back_left hMM (by omega) (by omega) hmax)))
  go_wp2
  go_ret

  exact ⟨by simp, belowDrew hB7 _⟩

end Go.Proofs.Ytahohailcmfpjaa
