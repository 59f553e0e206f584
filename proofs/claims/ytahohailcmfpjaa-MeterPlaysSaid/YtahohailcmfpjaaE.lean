/-
  The document's meter: its contracts; and both meters' by the same plain functions.
-/
import Derived.Test.YtahohailcmfpjaaC
import Derived.Test.YtahohailcmfpjaaB
namespace Go.Proofs.Ytahohailcmfpjaa
open Go.RowKit

/-- Block b holds the document's meter of such a state. -/
def RMeter (w : World) (b : Nat) (ov : Bool) (u : Nat → U) : Prop := w.heap[b]? = some (.cells (rcells u ov) 45 (0, 0))

section
variable {w : World} {b k : Nat} {ov : Bool} {u v : Nat → U}

theorem rcell_b (hB : RMeter w b ov u) (hk : k < 5) : w.cell? ⟨b, k, none⟩ = some (.int .i64 (u k).b) := by
  rcases five hk with rfl | rfl | rfl | rfl | rfl <;> exact row_cell hB _ _ rfl
theorem rcell_n (hB : RMeter w b ov u) (hk : k < 5) : w.cell? ⟨b, 5 + k, none⟩ = some (.int .i64 (u k).n) := by
  rcases five hk with rfl | rfl | rfl | rfl | rfl <;> exact row_cell hB _ _ rfl
theorem rcell_m (hB : RMeter w b ov u) (hk : k < 5) : w.cell? ⟨b, 10 + k, none⟩ = some (.int .i64 (u k).m) := by
  rcases five hk with rfl | rfl | rfl | rfl | rfl <;> exact row_cell hB _ _ rfl
theorem rcell_ov (hB : RMeter w b ov u) : w.cell? ⟨b, 15, none⟩ = some (.bool ov) := row_cell hB _ _ rfl

theorem rleft_out {kind : Int} (hk : ¬ (0 ≤ kind ∧ kind < 5)) :
    Calls Try.prog 20 #[.pointer (some ⟨b, 0, none⟩), .int .i64 kind] w fun e w' => e = .returned (.int .i64 0) ∧ w = w' := by
  by_cases h0 : kind < 0
  · clear hk
    go_enter Try.func20, Try.ntmps20
    go_wp2
    go_ret
    exact ⟨rfl, rfl⟩
  · have h5 : 5 ≤ kind := by omega
    clear hk
    go_enter Try.func20, Try.ntmps20
    go_wp2
    go_ret
    exact ⟨rfl, rfl⟩

theorem rleft_over (hB : RMeter w b true u) (hk : k < 5) :
    Calls Try.prog 20 #[.pointer (some ⟨b, 0, none⟩), .int .i64 k] w fun e w' => e = .returned (.int .i64 0) ∧ w = w' := by
  have c := rcell_ov hB
  clear hB
  go_enter Try.func20, Try.ntmps20
  go_wp2
  go_ret
  exact ⟨rfl, rfl⟩

theorem rleft_in (hB : RMeter w b false u) (hk : k < 5) (h0 : 0 ≤ (u k).n) (h1 : (u k).n ≤ (u k).b) (h2 : (u k).b ≤ 9223372036854775807) :
    Calls Try.prog 20 #[.pointer (some ⟨b, 0, none⟩), .int .i64 k] w fun e w' => e = .returned (.int .i64 ((u k).b - (u k).n)) ∧ ∃ n, w' = w.drewN n := by
  have c := rcell_ov hB
  have cb := rcell_b hB hk
  have cn := rcell_n hB hk
  clear hB
  go_enter Try.func20, Try.ntmps20
  go_wp2
  go_quiet (fail)
  go_wp2
  go_ret
  exact ⟨rfl, _, rfl⟩

theorem ruse_arg {kind n : Int} (hk : ¬ (0 ≤ kind ∧ kind < 5) ∨ n < 0) :
    Calls Try.prog 16 #[.pointer (some ⟨b, 0, none⟩), .int .i64 kind, .int .i64 n] w fun e w' => e = .returned (.int .i64 2) ∧ w = w' := by
  by_cases h0 : kind < 0
  · clear hk
    go_enter Try.func16, Try.ntmps16
    go_wp2
    go_ret
    exact ⟨rfl, rfl⟩
  · by_cases h5 : 5 ≤ kind
    · clear hk
      go_enter Try.func16, Try.ntmps16
      go_wp2
      go_ret
      exact ⟨rfl, rfl⟩
    · have hn : n < 0 := by omega
      clear hk
      go_enter Try.func16, Try.ntmps16
      go_wp2
      go_ret
      exact ⟨rfl, rfl⟩

theorem rset_ov (hB : RMeter w b ov u) (q : Nat) : RMeter ((w.drewN q).setCell ⟨b, 15, none⟩ (.bool true)) b true u := row_set (row_drewN hB q) 15 _

theorem ruse_more {n : Int} (hB : RMeter w b ov u) (hk : k < 5) (hn0 : 0 ≤ n) (h0 : 0 ≤ (u k).n) (h1 : (u k).n ≤ (u k).b) (h2 : (u k).b ≤ 9223372036854775807)
    (hov : ov = true ∨ (u k).b - (u k).n < n) :
    Calls Try.prog 16 #[.pointer (some ⟨b, 0, none⟩), .int .i64 k, .int .i64 n] w fun e w' => e = .returned (.int .i64 40) ∧ RMeter w' b true u ∧ Only b w w' := by
  have c := rcell_ov hB
  have hB' : Hid (RMeter w b _ u) := hB
  have fz := row_free hB 15
  have cb := rcell_b hB hk
  have cn := rcell_n hB hk
  clear hB
  cases ov
  · have hmore : (u k).b - (u k).n < n := by simpa using hov
    clear hov
    go_enter Try.func16, Try.ntmps16
    go_wp2
    go_quiet (fail)
    go_wp2
    go_ret
    exact ⟨rfl, rset_ov hB'.out _, ((Only.refl b w).drewN _).set 15 _⟩
  · clear hov
    go_enter Try.func16, Try.ntmps16
    go_wp2
    go_quiet (fail)
    go_wp2
    go_ret
    exact ⟨rfl, rset_ov hB'.out _, ((Only.refl b w).drewN _).set 15 _⟩

theorem rupd_cells1 (hk : k < 5) (n' : Int) :
    (rcells u ov).setIfInBounds (5 + k) (.int .i64 n') = rcells (upd u k ⟨(u k).b, n', (u k).m⟩) ov := by
  rcases five hk with rfl | rfl | rfl | rfl | rfl <;> rfl
theorem rupd_cells2 (hk : k < 5) (n' m' : Int) :
    ((rcells u ov).setIfInBounds (5 + k) (.int .i64 n')).setIfInBounds (10 + k) (.int .i64 m') = rcells (upd u k ⟨(u k).b, n', m'⟩) ov := by
  rcases five hk with rfl | rfl | rfl | rfl | rfl <;> rfl

theorem rmeter_upd1 (hB : RMeter w b ov u) (hk : k < 5) (q q' : Nat) (n' : Int) :
    RMeter (((w.drewN q).setCell ⟨b, 5 + k, none⟩ (.int .i64 n')).drewN q') b ov (upd u k ⟨(u k).b, n', (u k).m⟩) := by
  have h := row_drewN (row_set (row_drewN hB q) (5 + k) (.int .i64 n')) q'
  rw [rupd_cells1 hk] at h
  exact h
theorem rmeter_upd2 (hB : RMeter w b ov u) (hk : k < 5) (q q' : Nat) (n' m' : Int) :
    RMeter ((((w.drewN q).setCell ⟨b, 5 + k, none⟩ (.int .i64 n')).drewN q').setCell ⟨b, 10 + k, none⟩ (.int .i64 m')) b ov (upd u k ⟨(u k).b, n', m'⟩) := by
  have h := row_set (row_drewN (row_set (row_drewN hB q) (5 + k) (.int .i64 n')) q') (10 + k) (.int .i64 m')
  rw [rupd_cells2 hk] at h
  exact h

theorem ruse_ok {n : Int} (hB : RMeter w b false u) (hk : k < 5) (hn0 : 0 ≤ n) (h0 : 0 ≤ (u k).n) (h1 : n ≤ (u k).b - (u k).n) (h2 : (u k).b ≤ 9223372036854775807) :
    Calls Try.prog 16 #[.pointer (some ⟨b, 0, none⟩), .int .i64 k, .int .i64 n] w fun e w' => e = .returned (.int .i64 0) ∧
      RMeter w' b false (upd u k ⟨(u k).b, (u k).n + n, max (u k).m ((u k).n + n)⟩) ∧ Only b w w' := by
  have c := rcell_ov hB
  have hB' : Hid (RMeter w b _ u) := hB
  have fz1 := row_free hB (5 + k)
  have fz2 := row_free hB (10 + k)
  have cb := rcell_b hB hk
  have cn := rcell_n hB hk
  have cm := rcell_m hB hk
  clear hB
  by_cases hm : (u k).m < (u k).n + n
  · rw [show max (u k).m ((u k).n + n) = (u k).n + n by omega]
    go_enter Try.func16, Try.ntmps16
    go_wp2
    go_quiet (fail)
    go_wp2
    go_region
    go_wp2
    have dm : decide ((u k).m < (u k).n + n) = true := by simp; omega
    go_quiet (fail)
    go_wp2
    go_region
    go_wp2
    go_ret
    exact ⟨rfl, rmeter_upd2 hB'.out hk _ _ _ _, ((((Only.refl b w).drewN _).set _ _).drewN _).set _ _⟩
  · rw [show max (u k).m ((u k).n + n) = (u k).m by omega]
    go_enter Try.func16, Try.ntmps16
    go_wp2
    go_quiet (fail)
    go_wp2
    go_region
    go_wp2
    go_quiet (fail)
    go_wp2
    go_ret
    exact ⟨rfl, rmeter_upd1 hB'.out hk _ _ _, (((Only.refl b w).drewN _).set _ _).drewN _⟩

theorem rfree_arg {kind n : Int} (hB : RMeter w b ov u) (hk : ¬ (kind = 2 ∨ kind = 3) ∨ n < 0 ∨ (u kind.toNat).n < n) :
    Calls Try.prog 15 #[.pointer (some ⟨b, 0, none⟩), .int .i64 kind, .int .i64 n] w fun e w' => e = .returned (.int .i64 2) ∧ w = w' := by
  by_cases h2 : kind = 2
  · subst h2
    have cn := rcell_n hB (k := 2) (by omega)
    clear hB
    by_cases hn0 : n < 0
    · clear hk
      go_enter Try.func15, Try.ntmps15
      go_wp2
      go_ret
      exact ⟨rfl, rfl⟩
    · have hh : (u 2).n < n := by simpa [hn0] using hk
      clear hk
      go_enter Try.func15, Try.ntmps15
      go_wp2
      go_ret
      exact ⟨rfl, rfl⟩
  · by_cases h3 : kind = 3
    · subst h3
      have cn := rcell_n hB (k := 3) (by omega)
      clear hB
      by_cases hn0 : n < 0
      · clear hk
        go_enter Try.func15, Try.ntmps15
        go_wp2
        go_ret
        exact ⟨rfl, rfl⟩
      · have hh : (u 3).n < n := by simpa [hn0] using hk
        clear hk
        go_enter Try.func15, Try.ntmps15
        go_wp2
        go_ret
        exact ⟨rfl, rfl⟩
    · clear hk hB
      have e2 : (kind == 2) = false := by simpa using h2
      have e3 : (kind == 3) = false := by simpa using h3
      go_enter Try.func15, Try.ntmps15
      go_wp2
      go_ret
      exact ⟨rfl, rfl⟩

theorem rfree_ok {n : Int} (hB : RMeter w b ov u) (hk : k = 2 ∨ k = 3) (hn0 : 0 ≤ n) (h1 : n ≤ (u k).n) (h2 : (u k).n ≤ 9223372036854775807) :
    Calls Try.prog 15 #[.pointer (some ⟨b, 0, none⟩), .int .i64 k, .int .i64 n] w fun e w' => e = .returned (.int .i64 0) ∧
      RMeter w' b ov (upd u k ⟨(u k).b, (u k).n - n, (u k).m⟩) ∧ Only b w w' := by
  have fz1 := row_free hB (5 + k)
  have cn := rcell_n hB (k := k) (by omega)
  have hfin : RMeter (w.setCell ⟨b, 5 + k, none⟩ (.int .i64 ((u k).n - n))).drew b ov (upd u k ⟨(u k).b, (u k).n - n, (u k).m⟩) := by
    have h := row_drew (row_set hB (5 + k) (.int .i64 ((u k).n - n)))
    rw [rupd_cells1 (by omega)] at h
    exact h
  have hF : Hid _ := hfin
  clear hB hfin
  rcases hk with rfl | rfl
  · go_enter Try.func15, Try.ntmps15
    go_wp2
    go_region
    go_wp2
    go_ret
    exact ⟨rfl, hF.out, ((Only.refl b w).set _ _).drew⟩
  · go_enter Try.func15, Try.ntmps15
    go_wp2
    go_region
    go_wp2
    go_ret
    exact ⟨rfl, hF.out, ((Only.refl b w).set _ _).drew⟩
end

/-- What a use does: what is told, whether the quota is used up then, what is used then. -/
def useF (ov : Bool) (u : Nat → U) (kind n : Int) : Int × Bool × (Nat → U) :=
  if ¬ (0 ≤ kind ∧ kind < 5) ∨ n < 0 then (2, ov, u)
  else if ov = true ∨ (u kind.toNat).b - (u kind.toNat).n < n then (40, true, u)
  else (0, ov, upd u kind.toNat ⟨(u kind.toNat).b, (u kind.toNat).n + n, max (u kind.toNat).m ((u kind.toNat).n + n)⟩)
/-- What a giving back does. -/
def freeF (u : Nat → U) (kind n : Int) : Int × (Nat → U) :=
  if ¬ (kind = 2 ∨ kind = 3) ∨ n < 0 ∨ (u kind.toNat).n < n then (2, u)
  else (0, upd u kind.toNat ⟨(u kind.toNat).b, (u kind.toNat).n - n, (u kind.toNat).m⟩)

section
variable {w : World} {b : Nat} {ov : Bool} {u v : Nat → U}
theorem useF_good (hG : Good v u) (kind n : Int) : Good v (useF ov u kind n).2.2 := by
  unfold useF
  split
  · exact hG
  · split
    · exact hG
    · have hg := hG kind.toNat (by omega)
      exact hG.upd (by omega) (by omega) (by omega) (by omega)
theorem freeF_good (hG : Good v u) (kind n : Int) : Good v (freeF u kind n).2 := by
  unfold freeF
  split
  · exact hG
  · have hg := hG kind.toNat (by omega)
    exact hG.upd (by omega) (by omega) (by omega) (by omega)

theorem use_f (hM : Meter w b true ov u) (hG : Good v u) (kind n : Int) :
    Calls Try.prog 8 #[.pointer (some ⟨b, 0, none⟩), .int .i64 kind, .int .i64 n] w fun e w' => e = .returned (.int .i64 (useF ov u kind n).1) ∧ Meter w' b true (useF ov u kind n).2.1 (useF ov u kind n).2.2 ∧ Only b w w' := by
  unfold useF
  split
  · rename_i hk
    exact (use_arg hM hk).mono fun e w' ⟨he, hw⟩ => ⟨he, hw ▸ hM, hw ▸ Only.refl b w⟩
  · rename_i hk
    obtain ⟨k, rfl⟩ : ∃ k : Nat, kind = k := ⟨kind.toNat, by omega⟩
    rw [Int.toNat_natCast]
    have hg := hG k (by omega)
    split
    · rename_i hov
      have hnb : (u k).n ≤ (u k).b := by omega
      exact use_more hM (by omega) (by omega) hg.2.1 hnb hg.2.2.2.2 hov
    · rename_i hov
      cases ov
      · exact use_ok hM (by omega) (by omega) hg.2.1 (by simp at hov; omega) hg.2.2.2.2
      · simp at hov
theorem ruse_f (hM : RMeter w b ov u) (hG : Good v u) (kind n : Int) :
    Calls Try.prog 16 #[.pointer (some ⟨b, 0, none⟩), .int .i64 kind, .int .i64 n] w fun e w' => e = .returned (.int .i64 (useF ov u kind n).1) ∧ RMeter w' b (useF ov u kind n).2.1 (useF ov u kind n).2.2 ∧ Only b w w' := by
  unfold useF
  split
  · rename_i hk
    exact (ruse_arg hk).mono fun e w' ⟨he, hw⟩ => ⟨he, hw ▸ hM, hw ▸ Only.refl b w⟩
  · rename_i hk
    obtain ⟨k, rfl⟩ : ∃ k : Nat, kind = k := ⟨kind.toNat, by omega⟩
    rw [Int.toNat_natCast]
    have hg := hG k (by omega)
    split
    · rename_i hov
      have hnb : (u k).n ≤ (u k).b := by omega
      exact ruse_more hM (by omega) (by omega) hg.2.1 hnb hg.2.2.2.2 hov
    · rename_i hov
      cases ov
      · exact ruse_ok hM (by omega) (by omega) hg.2.1 (by simp at hov; omega) hg.2.2.2.2
      · simp at hov
theorem free_f (hM : Meter w b true ov u) (hG : Good v u) (kind n : Int) :
    Calls Try.prog 9 #[.pointer (some ⟨b, 0, none⟩), .int .i64 kind, .int .i64 n] w fun e w' => e = .returned (.int .i64 (freeF u kind n).1) ∧ Meter w' b true ov (freeF u kind n).2 ∧ Only b w w' := by
  unfold freeF
  split
  · rename_i hk
    exact (free_arg hM hk).mono fun e w' ⟨he, hw⟩ => ⟨he, hw ▸ hM, hw ▸ Only.refl b w⟩
  · rename_i hk
    obtain ⟨k, rfl⟩ : ∃ k : Nat, kind = k := ⟨kind.toNat, by omega⟩
    rw [Int.toNat_natCast] at hk ⊢
    have hg := hG k (by omega)
    exact free_ok hM (by omega) (by omega) (by omega) (by omega)
theorem rfree_f (hM : RMeter w b ov u) (hG : Good v u) (kind n : Int) :
    Calls Try.prog 15 #[.pointer (some ⟨b, 0, none⟩), .int .i64 kind, .int .i64 n] w fun e w' => e = .returned (.int .i64 (freeF u kind n).1) ∧ RMeter w' b ov (freeF u kind n).2 ∧ Only b w w' := by
  unfold freeF
  split
  · rename_i hk
    exact (rfree_arg hM hk).mono fun e w' ⟨he, hw⟩ => ⟨he, hw ▸ hM, hw ▸ Only.refl b w⟩
  · rename_i hk
    obtain ⟨k, rfl⟩ : ∃ k : Nat, kind = k := ⟨kind.toNat, by omega⟩
    rw [Int.toNat_natCast] at hk ⊢
    have hg := hG k (by omega)
    exact rfree_ok hM (by omega) (by omega) (by omega) (by omega)
end


/-- How both meters stand, side by side: m the program's, r the document's. -/
structure Both (w : World) (m r : Nat) (v u : Nat → U) (ov : Bool) : Prop where
  mine : Meter w m true ov u
  doc : RMeter w r ov u
  good : Good v u
  ne : m ≠ r

theorem only_rmeter {c : Nat} {w w' : World} (h : Only c w w') {b : Nat} (hb : b ≠ c) {ov : Bool} {u : Nat → U} (hc : RMeter w b ov u) : RMeter w' b ov u :=
  (h.block b hb).trans hc

theorem Both.drewN {w : World} {m r : Nat} {v u : Nat → U} {ov : Bool} (h : Both w m r v u ov) (n : Nat) : Both (w.drewN n) m r v u ov := ⟨row_drewN h.mine n, row_drewN h.doc n, h.good, h.ne⟩

theorem rleft_at {w : World} {b : Nat} {ov : Bool} {u v : Nat → U} {k : Nat} {x : U} (hM : RMeter w b ov u) (hG : Good v u) (hk : k < 5) (hx : u k = x) :
    Calls Try.prog 20 #[.pointer (some ⟨b, 0, none⟩), .int .i64 k] w fun e w' => e = .returned (.int .i64 (if ov then 0 else x.b - x.n)) ∧ ∃ n, w' = w.drewN n := by
  subst hx
  have hg := hG k hk
  cases ov
  · exact rleft_in hM hk hg.2.1 (by omega) hg.2.2.2.2
  · exact (rleft_over hM hk).mono fun e w' ⟨he, hw⟩ => ⟨he, 0, hw ▸ rfl⟩

theorem drewN_more {w w' : World} (h : ∃ n, w' = w.drewN n) (m : Nat) : ∃ n, w'.drewN m = w.drewN n := by
  obtain ⟨n, rfl⟩ := h
  exact ⟨n + m, World.drewN_drewN _ _ _⟩

section
variable {w : World} {b k : Nat} {ov : Bool} {u v : Nat → U} {x : U}
theorem used_x (hM : Meter w b true ov u) (hk : k < 5) (hx : u k = x) :
    Calls Try.prog 7 #[.pointer (some ⟨b, 0, none⟩), .int .i64 k] w fun e w' => e = .returned (.tuple #[.int .i64 x.n, .int .i64 x.m]) ∧ ∃ n, w' = w.drewN n := by
  subst hx
  exact used_made hM hk
theorem left_fresh (hM : Meter w b true false u) (hG : Good v u) (hk : k < 5) (hx : u k = x) :
    Calls Try.prog 10 #[.pointer (some ⟨b, 0, none⟩), .int .i64 k] w fun e w' => e = .returned (.int .i64 (x.b - x.n)) ∧ ∃ n, w' = w.drewN n := left_at hM hG hk hx
theorem left_spent (hM : Meter w b true true u) (hG : Good v u) (hk : k < 5) (hx : u k = x) :
    Calls Try.prog 10 #[.pointer (some ⟨b, 0, none⟩), .int .i64 k] w fun e w' => e = .returned (.int .i64 0) ∧ ∃ n, w' = w.drewN n := left_at hM hG hk hx
theorem rleft_fresh (hM : RMeter w b false u) (hG : Good v u) (hk : k < 5) (hx : u k = x) :
    Calls Try.prog 20 #[.pointer (some ⟨b, 0, none⟩), .int .i64 k] w fun e w' => e = .returned (.int .i64 (x.b - x.n)) ∧ ∃ n, w' = w.drewN n := rleft_at hM hG hk hx
theorem rleft_spent (hM : RMeter w b true u) (hG : Good v u) (hk : k < 5) (hx : u k = x) :
    Calls Try.prog 20 #[.pointer (some ⟨b, 0, none⟩), .int .i64 k] w fun e w' => e = .returned (.int .i64 0) ∧ ∃ n, w' = w.drewN n := rleft_at hM hG hk hx
end

set_option maxHeartbeats 800000 in
/-- The program's meter tells what the document's does. -/
theorem stands_any (w : World) (m r : Nat) (v u : Nat → U) (ov : Bool) (h : Both w m r v u ov) :
    Calls Try.prog 17 #[.pointer (some ⟨m, 0, none⟩), .pointer (some ⟨r, 0, none⟩)] w fun e w' => e = .returned (.bool true) ∧ ∃ n, w' = w.drewN n := by
  go_enter Try.func17, Try.ntmps17
  go_wp2_with fail
  go_loopg [5] 7 (fun g s5 wy => ∃ x : Int, -1 ≤ x ∧ x ≤ 6 ∧ g = (6 - x).toNat ∧ s5 = .int .i64 x ∧ Both wy m r v u ov ∧ ∃ n, wy = w.drewN n)
  case atStart => exact ⟨-1, by omega, by omega, rfl, rfl, h, 0, rfl⟩
  case round =>
    obtain ⟨x, hx0, hx6, rfl, rfl, hbo, n, hn⟩ := hrel
    have hst : Hid (∃ n, wr = w.drewN n) := ⟨n, hn⟩
    clear hn h
    by_cases hm1 : x = -1
    · subst hm1
      have hu := used_out (kind := -1) hbo.mine (by omega)
      have hl := left_out (kind := -1) hbo.mine (by omega)
      have hr := rleft_out (w := wr) (b := r) (kind := -1) (by omega)
      have hB : Hid _ := hbo
      clear hbo
      go_wp2_with (first
        | (go_at_call 7; refine hu.mono ?_; clear hu; rintro e w3 ⟨rfl, rfl⟩)
        | (go_at_call 10; refine hl.mono ?_; clear hl; rintro e w3 ⟨rfl, rfl⟩)
        | (go_at_call 20; refine hr.mono ?_; clear hr; rintro e w3 ⟨rfl, rfl⟩))
      go_roundg 6
      case measure => decide
      case rel => exact ⟨0, by omega, by omega, rfl, by go_num, hB.out, hst.out⟩
    by_cases h5 : x = 5
    · subst h5
      have hu := used_out (kind := 5) hbo.mine (by omega)
      have hl := left_out (kind := 5) hbo.mine (by omega)
      have hr := rleft_out (w := wr) (b := r) (kind := 5) (by omega)
      have hB : Hid _ := hbo
      clear hbo
      go_wp2_with (first
        | (go_at_call 7; refine hu.mono ?_; clear hu; rintro e w3 ⟨rfl, rfl⟩)
        | (go_at_call 10; refine hl.mono ?_; clear hl; rintro e w3 ⟨rfl, rfl⟩)
        | (go_at_call 20; refine hr.mono ?_; clear hr; rintro e w3 ⟨rfl, rfl⟩))
      go_roundg 0
      case measure => decide
      case rel => exact ⟨6, by omega, by omega, rfl, by go_num, hB.out, hst.out⟩
    by_cases h6 : x = 6
    · subst h6
      have cv := rcell_ov hbo.doc
      have hB : Hid _ := hbo
      clear hbo
      cases ov
      · skip
        go_wp2_with fail
        go_quiet ((go_at_call 11; refine Calls.quiet_of_same ((over_made (row_drewN hB.out.mine _)).mono fun _ _ h => ⟨h.1, h.2.symm⟩)))
        go_wp2_with fail
        go_ret
        exact ⟨rfl, drewN_more hst.out _⟩
      · skip
        go_wp2_with fail
        go_quiet ((go_at_call 11; refine Calls.quiet_of_same ((over_made (row_drewN hB.out.mine _)).mono fun _ _ h => ⟨h.1, h.2.symm⟩)))
        go_wp2_with fail
        go_ret
        exact ⟨rfl, drewN_more hst.out _⟩
    · obtain ⟨k, rfl⟩ : ∃ k : Nat, x = k := ⟨x.toNat, by omega⟩
      have hk : k < 5 := by omega
      obtain ⟨x, hx'⟩ : ∃ x, u k = x := ⟨_, rfl⟩
      have hx : Hid _ := hx'
      have hg := hbo.good k hk
      rw [hx'] at hg
      obtain ⟨-, g1, g2, g3, g4⟩ := hg
      have hu := used_x hbo.mine hk hx'
      have cn := rcell_n hbo.doc hk
      have cm := rcell_m hbo.doc hk
      rw [hx'] at cn cm
      have d1 : (x.n != x.n) = false := by simp
      have d2 : (x.m != x.m) = false := by simp
      have d3 : (x.b - x.n != x.b - x.n) = false := by simp
      have hB : Hid _ := hbo
      clear hbo hx'
      cases ov
      · skip
        go_wp2_with (first
          | (go_at_call 7; refine hu.mono ?_; clear hu; rintro e w3 ⟨rfl, n3, rfl⟩))
        go_quiet (fail)
        go_wp2_with (first
          | (go_at_call 10; refine (left_fresh (row_drewN hB.out.mine _) hB.out.good hk hx.out).mono ?_; rintro e w4 ⟨rfl, n4, rfl⟩)
          | (go_at_call 20; refine (rleft_fresh (row_drewN hB.out.doc _) hB.out.good hk hx.out).mono ?_; rintro e w5 ⟨rfl, n5, rfl⟩))
        go_roundg (6 - (k + 1))
        case measure => omega
        case rel => exact ⟨(k : Int) + 1, by omega, by omega, by omega, by go_num, hB.out.drewN _, drewN_more hst.out _⟩
      · skip
        go_wp2_with (first
          | (go_at_call 7; refine hu.mono ?_; clear hu; rintro e w3 ⟨rfl, n3, rfl⟩))
        go_quiet (fail)
        go_wp2_with (first
          | (go_at_call 10; refine (left_spent (row_drewN hB.out.mine _) hB.out.good hk hx.out).mono ?_; rintro e w4 ⟨rfl, n4, rfl⟩)
          | (go_at_call 20; refine (rleft_spent (row_drewN hB.out.doc _) hB.out.good hk hx.out).mono ?_; rintro e w5 ⟨rfl, n5, rfl⟩))
        go_roundg (6 - (k + 1))
        case measure => omega
        case rel => exact ⟨(k : Int) + 1, by omega, by omega, by omega, by go_num, hB.out.drewN _, drewN_more hst.out _⟩

end Go.Proofs.Ytahohailcmfpjaa
