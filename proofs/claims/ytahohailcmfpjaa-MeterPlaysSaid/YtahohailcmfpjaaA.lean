/-
  The contracts of the meter's methods: what each hands back and what it leaves in the meter's own block.
-/
import Derived.Test.YtahohailcmfpjaaKit
namespace Go.Proofs.Ytahohailcmfpjaa
open Go.RowKit

/-- How much of a kind may be used, is, and was at most. -/
structure U where
  b : Int
  n : Int
  m : Int

/-- The cells of a meter. -/
def mcells (mk ov : Bool) (u : Nat → U) : Array Value :=
  #[.bool mk, .bool ov, .int .i64 (u 0).b, .int .i64 (u 0).n, .int .i64 (u 0).m, .int .i64 (u 1).b, .int .i64 (u 1).n, .int .i64 (u 1).m, .int .i64 (u 2).b, .int .i64 (u 2).n, .int .i64 (u 2).m,
    .int .i64 (u 3).b, .int .i64 (u 3).n, .int .i64 (u 3).m, .int .i64 (u 4).b, .int .i64 (u 4).n, .int .i64 (u 4).m]

/-- Block b holds such a meter. -/
def Meter (w : World) (b : Nat) (mk ov : Bool) (u : Nat → U) : Prop := w.heap[b]? = some (.cells (mcells mk ov u) 29 (0, 0))

def upd (u : Nat → U) (k : Nat) (x : U) : Nat → U := fun j => if j = k then x else u j

theorem known_any (k : Int) (w : World) : Calls Try.prog 19 #[.int .i64 k] w fun e w' => e = .returned (.bool (decide (0 ≤ k ∧ k < 5))) ∧ w = w' := by
  by_cases h0 : 0 ≤ k
  · by_cases h5 : k < 5
    · go_enter Try.func19, Try.ntmps19
      go_wp2
      go_ret
      exact ⟨by simp; omega, rfl⟩
    · go_enter Try.func19, Try.ntmps19
      go_wp2
      go_ret
      exact ⟨by simp; omega, rfl⟩
  · go_enter Try.func19, Try.ntmps19
    go_wp2
    go_ret
    exact ⟨by simp; omega, rfl⟩

theorem known_in {k : Int} (w : World) (h : 0 ≤ k ∧ k < 5) : Calls Try.prog 19 #[.int .i64 k] w fun e w' => e = .returned (.bool true) ∧ w = w' :=
  (known_any k w).mono fun _ _ h' => ⟨by rw [h'.1]; simp [h], h'.2⟩
theorem known_out {k : Int} (w : World) (h : ¬ (0 ≤ k ∧ k < 5)) : Calls Try.prog 19 #[.int .i64 k] w fun e w' => e = .returned (.bool false) ∧ w = w' :=
  (known_any k w).mono fun _ _ h' => ⟨by rw [h'.1]; simp; omega, h'.2⟩

theorem none_nil (w : World) : Calls Try.prog 18 #[.pointer none] w fun e w' => e = .returned (.bool true) ∧ w = w' := by
  go_enter Try.func18, Try.ntmps18
  go_wp2
  go_ret
  exact ⟨rfl, rfl⟩

theorem none_made {w : World} {b : Nat} {ov : Bool} {u : Nat → U} (hB : Meter w b true ov u) :
    Calls Try.prog 18 #[.pointer (some ⟨b, 0, none⟩)] w fun e w' => e = .returned (.bool false) ∧ w = w' := by
  unfold Meter mcells at hB
  go_enter Try.func18, Try.ntmps18
  go_wp2_with (refine wpList_load_rowg rfl 29 _ rfl b rfl 29 _ (0, 0) _ hB Try.underlying29 rfl (by as_aux_lemma => kernel_rfl) ?_)
  go_ret
  exact ⟨rfl, rfl⟩

/-- Every kind one of five. -/
theorem five {k : Nat} (h : k < 5) : k = 0 ∨ k = 1 ∨ k = 2 ∨ k = 3 ∨ k = 4 := by omega

theorem used_made {w : World} {b k : Nat} {ov : Bool} {u : Nat → U} (hB : Meter w b true ov u) (hk : k < 5) :
    Calls Try.prog 7 #[.pointer (some ⟨b, 0, none⟩), .int .i64 k] w fun e w' => e = .returned (.tuple #[.int .i64 (u k).n, .int .i64 (u k).m]) ∧ ∃ n, w' = w.drewN n := by
  have hn := none_made hB
  have c3 : w.cell? ⟨b, 2 + k * 3 + 1, none⟩ = some (.int .i64 (u k).n) := by
    rcases five hk with rfl | rfl | rfl | rfl | rfl <;> exact row_cell hB _ _ rfl
  have c4 : w.cell? ⟨b, 2 + k * 3 + 2, none⟩ = some (.int .i64 (u k).m) := by
    rcases five hk with rfl | rfl | rfl | rfl | rfl <;> exact row_cell hB _ _ rfl
  clear hB
  go_enter Try.func7, Try.ntmps7
  go_wp2_with (first | (go_at_call 18; refine hn.mono ?_; rintro e w' ⟨rfl, rfl⟩) | (go_at_call 19; refine (known_in _ (by omega)).mono ?_; rintro e w' ⟨rfl, rfl⟩))
  go_quiet (fail)
  go_wp2
  go_ret2
  exact ⟨rfl, _, rfl⟩

def U0 : U := ⟨0, 0, 0⟩

section
variable {w : World} {b k : Nat} {ov : Bool} {u : Nat → U}

theorem cell_b (hB : Meter w b true ov u) (hk : k < 5) : w.cell? ⟨b, 2 + k * 3, none⟩ = some (.int .i64 (u k).b) := by
  rcases five hk with rfl | rfl | rfl | rfl | rfl <;> exact row_cell hB _ _ rfl
theorem cell_n (hB : Meter w b true ov u) (hk : k < 5) : w.cell? ⟨b, 2 + k * 3 + 1, none⟩ = some (.int .i64 (u k).n) := by
  rcases five hk with rfl | rfl | rfl | rfl | rfl <;> exact row_cell hB _ _ rfl
theorem cell_m (hB : Meter w b true ov u) (hk : k < 5) : w.cell? ⟨b, 2 + k * 3 + 2, none⟩ = some (.int .i64 (u k).m) := by
  rcases five hk with rfl | rfl | rfl | rfl | rfl <;> exact row_cell hB _ _ rfl
theorem cell_ov (hB : Meter w b true ov u) : w.cell? ⟨b, 1, none⟩ = some (.bool ov) := row_cell hB _ _ rfl

theorem used_out {kind : Int} (hB : Meter w b true ov u) (hk : ¬ (0 ≤ kind ∧ kind < 5)) :
    Calls Try.prog 7 #[.pointer (some ⟨b, 0, none⟩), .int .i64 kind] w fun e w' => e = .returned (.tuple #[.int .i64 0, .int .i64 0]) ∧ w = w' := by
  have hn := none_made hB
  have hkn := known_out (k := kind) w hk
  clear hB hk
  go_enter Try.func7, Try.ntmps7
  go_wp2_with (first | (go_at_call 18; refine hn.mono ?_; rintro e w' ⟨rfl, rfl⟩) | (go_at_call 19; refine hkn.mono ?_; rintro e w' ⟨rfl, rfl⟩))
  go_ret2
  exact ⟨rfl, rfl⟩

theorem over_made (hB : Meter w b true ov u) :
    Calls Try.prog 11 #[.pointer (some ⟨b, 0, none⟩)] w fun e w' => e = .returned (.bool ov) ∧ w = w' := by
  have hn := none_made hB
  have c := cell_ov hB
  clear hB
  go_enter Try.func11, Try.ntmps11
  go_wp2_with (first | (go_at_call 18; refine hn.mono ?_; rintro e w' ⟨rfl, rfl⟩))
  go_ret
  exact ⟨rfl, rfl⟩

theorem left_out {kind : Int} (hB : Meter w b true ov u) (hk : ¬ (0 ≤ kind ∧ kind < 5)) :
    Calls Try.prog 10 #[.pointer (some ⟨b, 0, none⟩), .int .i64 kind] w fun e w' => e = .returned (.int .i64 0) ∧ w = w' := by
  have hn := none_made hB
  have hkn := known_out (k := kind) w hk
  clear hB hk
  go_enter Try.func10, Try.ntmps10
  go_wp2_with (first | (go_at_call 18; refine hn.mono ?_; rintro e w' ⟨rfl, rfl⟩) | (go_at_call 19; refine hkn.mono ?_; rintro e w' ⟨rfl, rfl⟩))
  go_ret
  exact ⟨rfl, rfl⟩

theorem left_over (hB : Meter w b true true u) (hk : k < 5) :
    Calls Try.prog 10 #[.pointer (some ⟨b, 0, none⟩), .int .i64 k] w fun e w' => e = .returned (.int .i64 0) ∧ w = w' := by
  have hn := none_made hB
  have c := cell_ov hB
  clear hB
  go_enter Try.func10, Try.ntmps10
  go_wp2_with (first | (go_at_call 18; refine hn.mono ?_; rintro e w' ⟨rfl, rfl⟩) | (go_at_call 19; refine (known_in _ (by omega)).mono ?_; rintro e w' ⟨rfl, rfl⟩))
  go_ret
  exact ⟨rfl, rfl⟩

theorem left_in (hB : Meter w b true false u) (hk : k < 5) (h0 : 0 ≤ (u k).n) (h1 : (u k).n ≤ (u k).b) (h2 : (u k).b ≤ 9223372036854775807) :
    Calls Try.prog 10 #[.pointer (some ⟨b, 0, none⟩), .int .i64 k] w fun e w' => e = .returned (.int .i64 ((u k).b - (u k).n)) ∧ ∃ n, w' = w.drewN n := by
  have hn := none_made hB
  have c := cell_ov hB
  have cb := cell_b hB hk
  have cn := cell_n hB hk
  clear hB
  go_enter Try.func10, Try.ntmps10
  go_wp2_with (first | (go_at_call 18; refine hn.mono ?_; rintro e w' ⟨rfl, rfl⟩) | (go_at_call 19; refine (known_in _ (by omega)).mono ?_; rintro e w' ⟨rfl, rfl⟩))
  go_quiet (fail)
  go_wp2
  go_ret
  exact ⟨rfl, _, rfl⟩

theorem use_arg {kind n : Int} (hB : Meter w b true ov u) (hk : ¬ (0 ≤ kind ∧ kind < 5) ∨ n < 0) :
    Calls Try.prog 8 #[.pointer (some ⟨b, 0, none⟩), .int .i64 kind, .int .i64 n] w fun e w' => e = .returned (.int .i64 2) ∧ w = w' := by
  have hn := none_made hB
  by_cases hkn : 0 ≤ kind ∧ kind < 5
  · have hneg : n < 0 := by omega
    have hkk := known_in (k := kind) w hkn
    clear hB hk hkn
    go_enter Try.func8, Try.ntmps8
    go_wp2_with (first | (go_at_call 18; refine hn.mono ?_; rintro e w' ⟨rfl, rfl⟩) | (go_at_call 19; refine hkk.mono ?_; rintro e w' ⟨rfl, rfl⟩))
    go_ret
    exact ⟨rfl, rfl⟩
  · have hkk := known_out (k := kind) w hkn
    clear hB hk hkn
    go_enter Try.func8, Try.ntmps8
    go_wp2_with (first | (go_at_call 18; refine hn.mono ?_; rintro e w' ⟨rfl, rfl⟩) | (go_at_call 19; refine hkk.mono ?_; rintro e w' ⟨rfl, rfl⟩))
    go_ret
    exact ⟨rfl, rfl⟩

theorem use_more {n : Int} (hB : Meter w b true ov u) (hk : k < 5) (hn0 : 0 ≤ n) (h0 : 0 ≤ (u k).n) (h1 : (u k).n ≤ (u k).b) (h2 : (u k).b ≤ 9223372036854775807)
    (hov : ov = true ∨ (u k).b - (u k).n < n) :
    Calls Try.prog 8 #[.pointer (some ⟨b, 0, none⟩), .int .i64 k, .int .i64 n] w fun e w' => e = .returned (.int .i64 40) ∧ Meter w' b true true u ∧ Only b w w' := by
  have hn := none_made hB
  have c := cell_ov hB
  have hB' : Hid (Meter w b true _ u) := hB
  have fz := row_free hB 1
  have cb := cell_b hB hk
  have cn := cell_n hB hk
  clear hB
  cases ov
  · have hmore : (u k).b - (u k).n < n := by simpa using hov
    clear hov
    go_enter Try.func8, Try.ntmps8
    go_wp2_with (first | (go_at_call 18; refine hn.mono ?_; rintro e w' ⟨rfl, rfl⟩) | (go_at_call 19; refine (known_in _ (by omega)).mono ?_; rintro e w' ⟨rfl, rfl⟩))
    go_quiet (fail)
    go_wp2
    go_ret
    exact ⟨rfl, row_set (row_drewN hB'.out _) 1 _, ((Only.refl b w).drewN _).set 1 _⟩
  · clear hov
    go_enter Try.func8, Try.ntmps8
    go_wp2_with (first | (go_at_call 18; refine hn.mono ?_; rintro e w' ⟨rfl, rfl⟩) | (go_at_call 19; refine (known_in _ (by omega)).mono ?_; rintro e w' ⟨rfl, rfl⟩))
    go_quiet (fail)
    go_wp2
    go_ret
    exact ⟨rfl, row_set (row_drewN hB'.out _) 1 _, ((Only.refl b w).drewN _).set 1 _⟩

theorem upd_cells (hk : k < 5) (n' m' : Int) :
    ((mcells true ov u).setIfInBounds (2 + k * 3 + 1) (.int .i64 n')).setIfInBounds (2 + k * 3 + 2) (.int .i64 m') = mcells true ov (upd u k ⟨(u k).b, n', m'⟩) := by
  rcases five hk with rfl | rfl | rfl | rfl | rfl <;> rfl

theorem upd_cells1 (hk : k < 5) (n' : Int) :
    (mcells true ov u).setIfInBounds (2 + k * 3 + 1) (.int .i64 n') = mcells true ov (upd u k ⟨(u k).b, n', (u k).m⟩) := by
  rcases five hk with rfl | rfl | rfl | rfl | rfl <;> rfl

theorem meter_upd (hB : Meter w b true ov u) (hk : k < 5) (q : Nat) (n' m' : Int) :
    Meter (((w.drewN q).setCell ⟨b, 2 + k * 3 + 1, none⟩ (.int .i64 n')).setCell ⟨b, 2 + k * 3 + 2, none⟩ (.int .i64 m')).drew b true ov (upd u k ⟨(u k).b, n', m'⟩) := by
  have h := row_drew (row_set (row_set (row_drewN hB q) (2 + k * 3 + 1) (.int .i64 n')) (2 + k * 3 + 2) (.int .i64 m'))
  rw [upd_cells hk] at h
  exact h

theorem use_ok {n : Int} (hB : Meter w b true false u) (hk : k < 5) (hn0 : 0 ≤ n) (h0 : 0 ≤ (u k).n) (h1 : n ≤ (u k).b - (u k).n) (h2 : (u k).b ≤ 9223372036854775807) :
    Calls Try.prog 8 #[.pointer (some ⟨b, 0, none⟩), .int .i64 k, .int .i64 n] w fun e w' => e = .returned (.int .i64 0) ∧
      Meter w' b true false (upd u k ⟨(u k).b, (u k).n + n, max (u k).m ((u k).n + n)⟩) ∧ Only b w w' := by
  have hn := none_made hB
  have c := cell_ov hB
  have hB' : Hid (Meter w b true _ u) := hB
  have fz1 := row_free hB (2 + k * 3 + 1)
  have fz2 := row_free hB (2 + k * 3 + 2)
  have cb := cell_b hB hk
  have cn := cell_n hB hk
  have cm := cell_m hB hk
  clear hB
  by_cases hm : (u k).m < (u k).n + n
  · rw [show max (u k).m ((u k).n + n) = (u k).n + n by omega]
    go_enter Try.func8, Try.ntmps8
    go_wp2_with (first | (go_at_call 18; refine hn.mono ?_; rintro e w' ⟨rfl, rfl⟩) | (go_at_call 19; refine (known_in _ (by omega)).mono ?_; rintro e w' ⟨rfl, rfl⟩))
    go_quiet (fail)
    go_wp2
    go_region
    go_wp2
    go_ret
    exact ⟨rfl, meter_upd hB'.out hk _ _ _, ((((Only.refl b w).drewN _).set _ _).set _ _).drew⟩
  · rw [show max (u k).m ((u k).n + n) = (u k).m by omega]
    go_enter Try.func8, Try.ntmps8
    go_wp2_with (first | (go_at_call 18; refine hn.mono ?_; rintro e w' ⟨rfl, rfl⟩) | (go_at_call 19; refine (known_in _ (by omega)).mono ?_; rintro e w' ⟨rfl, rfl⟩))
    go_quiet (fail)
    go_wp2
    go_region
    go_wp2
    go_ret
    exact ⟨rfl, meter_upd hB'.out hk _ _ _, ((((Only.refl b w).drewN _).set _ _).set _ _).drew⟩

theorem free_arg {kind n : Int} (hB : Meter w b true ov u) (hk : ¬ (kind = 2 ∨ kind = 3) ∨ n < 0 ∨ (u kind.toNat).n < n) :
    Calls Try.prog 9 #[.pointer (some ⟨b, 0, none⟩), .int .i64 kind, .int .i64 n] w fun e w' => e = .returned (.int .i64 2) ∧ w = w' := by
  have hn := none_made hB
  by_cases h2 : kind = 2
  · subst h2
    have cn := cell_n hB (k := 2) (by omega)
    clear hB
    by_cases hn0 : n < 0
    · clear hk
      go_enter Try.func9, Try.ntmps9
      go_wp2_with (first | (go_at_call 18; refine hn.mono ?_; rintro e w' ⟨rfl, rfl⟩))
      go_ret
      exact ⟨rfl, rfl⟩
    · have hh : (u 2).n < n := by simpa [hn0] using hk
      clear hk
      go_enter Try.func9, Try.ntmps9
      go_wp2_with (first | (go_at_call 18; refine hn.mono ?_; rintro e w' ⟨rfl, rfl⟩))
      go_ret
      exact ⟨rfl, rfl⟩
  · by_cases h3 : kind = 3
    · subst h3
      have cn := cell_n hB (k := 3) (by omega)
      clear hB
      by_cases hn0 : n < 0
      · clear hk
        go_enter Try.func9, Try.ntmps9
        go_wp2_with (first | (go_at_call 18; refine hn.mono ?_; rintro e w' ⟨rfl, rfl⟩))
        go_ret
        exact ⟨rfl, rfl⟩
      · have hh : (u 3).n < n := by simpa [hn0] using hk
        clear hk
        go_enter Try.func9, Try.ntmps9
        go_wp2_with (first | (go_at_call 18; refine hn.mono ?_; rintro e w' ⟨rfl, rfl⟩))
        go_ret
        exact ⟨rfl, rfl⟩
    · clear hk hB
      have e2 : (kind == 2) = false := by simpa using h2
      have e3 : (kind == 3) = false := by simpa using h3
      go_enter Try.func9, Try.ntmps9
      go_wp2_with (first | (go_at_call 18; refine hn.mono ?_; rintro e w' ⟨rfl, rfl⟩))
      go_ret
      exact ⟨rfl, rfl⟩

theorem free_ok {n : Int} (hB : Meter w b true ov u) (hk : k = 2 ∨ k = 3) (hn0 : 0 ≤ n) (h1 : n ≤ (u k).n) (h2 : (u k).n ≤ 9223372036854775807) :
    Calls Try.prog 9 #[.pointer (some ⟨b, 0, none⟩), .int .i64 k, .int .i64 n] w fun e w' => e = .returned (.int .i64 0) ∧
      Meter w' b true ov (upd u k ⟨(u k).b, (u k).n - n, (u k).m⟩) ∧ Only b w w' := by
  have hn := none_made hB
  have hB' : Hid (Meter w b true _ u) := hB
  have fz1 := row_free hB (2 + k * 3 + 1)
  have cn := cell_n hB (k := k) (by omega)
  have hfin : Meter (w.setCell ⟨b, 2 + k * 3 + 1, none⟩ (.int .i64 ((u k).n - n))).drew b true ov (upd u k ⟨(u k).b, (u k).n - n, (u k).m⟩) := by
    have h := row_drew (row_set hB (2 + k * 3 + 1) (.int .i64 ((u k).n - n)))
    rw [upd_cells1 (by omega)] at h
    exact h
  have hF : Hid _ := hfin
  clear hB hfin
  rcases hk with rfl | rfl
  · go_enter Try.func9, Try.ntmps9
    go_wp2_with (first | (go_at_call 18; refine hn.mono ?_; rintro e w' ⟨rfl, rfl⟩))
    go_region
    go_wp2
    go_ret
    exact ⟨rfl, hF.out, ((Only.refl b w).set _ _).drew⟩
  · go_enter Try.func9, Try.ntmps9
    go_wp2_with (first | (go_at_call 18; refine hn.mono ?_; rintro e w' ⟨rfl, rfl⟩))
    go_region
    go_wp2
    go_ret
    exact ⟨rfl, hF.out, ((Only.refl b w).set _ _).drew⟩

end
end Go.Proofs.Ytahohailcmfpjaa
