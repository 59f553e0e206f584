/-
  token.Match and token.Parse: the document's answers.
-/
import Derived.Test.YtfefbelglohfdaaP
import Derived.Test.YtfefbelglohfdaaF
namespace Go.Proofs.Ytfefbelglohfdaa.PTok
open Go.RowKit Go.Maps Go.MapKept Go.Proofs.YtfefbelglohfdaaW.PrintWords Go.Proofs.YtfefbelglohfdaaW.PrintLast Go.Proofs.YtfefbelglohfdaaW.PrintMore
set_option linter.unusedVariables false
set_option linter.unusedSimpArgs false

def tokM.f (k : Nat) (l0 : List Int) (a1 : Int) (a2 : Int) (a3 : Int) : Option (Int × Int × Int) := if Fits l0 then token_Match.f k l0 a1 a2 a3 else none
theorem tokM.mono : ∀ a0 a1 a2 a3 k, LeO (tokM.f k a0 a1 a2 a3) (tokM.f (k + 1) a0 a1 a2 a3) := fun _ _ _ _ _ => LeO.ite (token_Match.mono _ _ _ _ _) (LeO.refl _)
def tokP.f (k : Nat) (l0 : List Int) (a1 : Int) (a2 : Int) (a3 : Int) (a4 : Int) : Option ((List (S30)) × Int) := if Fits l0 then token_Parse.f k l0 a1 a2 a3 a4 else none
theorem tokP.mono : ∀ a0 a1 a2 a3 a4 k, LeO (tokP.f k a0 a1 a2 a3 a4) (tokP.f (k + 1) a0 a1 a2 a3 a4) := fun _ _ _ _ _ _ => LeO.ite (token_Parse.mono _ _ _ _ _ _) (LeO.refl _)

theorem R_kept {w w' : World} {v : Value} {xs : List S30} {ok : Nat → Prop} {base : Nat} (h : Kd.R k30 30 w base ok v xs) (hm : ∀ k, v.ownBlock = some k → w'.heap[k]? = w.heap[k]?) : Kd.R k30 30 w' base ok v xs := by
  obtain ⟨h0, inner, ho, hr⟩ := h
  exact ⟨h0, inner, own_move ho hm, hr.imp_ (fun _ _ hp => by
    have := k30_openM hp
    subst this
    exact k30_mkM _ _ _ _)⟩
theorem R_lt {w : World} {v : Value} {xs : List S30} {ok : Nat → Prop} {base : Nat} (h : Kd.R k30 30 w base ok v xs) (k : Nat) (hk : v.ownBlock = some k) : k < w.heap.size := ((Kd.R_bound h).1 k hk).2.2.1

set_option maxHeartbeats 8000000 in
set_option maxRecDepth 100000 in
theorem tokM.calls (k : Nat) (A0 : Option Addr) (c0 : Nat) (l0 : List Int) (a1 : Int) (a2 : Int) (a3 : Int) (r1 : Int) (r2 : Int) (r3 : Int) (w : World) (hr0 : Kd.C (Kd.int .u8) w A0 l0.length l0) (hc0 : l0.length ≤ c0) (h0 : tokM.f k l0 a1 a2 a3 = some (r1, r2, r3)) :
    Calls Try.prog 6 #[.slice A0 l0.length c0, .int .i64 a1, .int .i64 a2, .int .i64 a3] w fun e w' => e = .returned (.tuple #[.int .i64 r1, .int .i64 r2, .int .i64 r3]) ∧ Below w.heap.size w w' := by
  by_cases hfit0 : Fits l0
  case neg => simp [tokM.f, hfit0] at h0
  have h : token_Match.f k l0 a1 a2 a3 = some (r1, r2, r3) := by simpa [tokM.f, hfit0] using h0
  have hlen0 := hfit0.1
  rw [token_Match.f, if_pos hlen0] at h
  have hfit := Aside0.mk hfit0
  clear h0 hlen0 hfit0
  have HR0 := Aside0.mk hr0
  have HC0 := Aside0.mk hc0
  clear hr0 hc0
  have HB := Aside0.mk (Below.refl w.heap.size w)
  have H : (if a1 < 0 then (some (0, 0, 2)) else (if a1 > (l0.length : Int) then (some (0, 0, 2)) else (if a2 < 1 then (some (0, 0, 2)) else (if a3 < 1 then (some (0, 0, 2)) else ((hamperref06_Match.f k l0 a1 a2 a3).bind fun bt121 => (some (bt121.1, bt121.2, 0))))))) = some (r1, r2, r3) := h
  clear h
  by_cases c5 : a1 < 0
  · rw [if_pos c5] at H
    have c5b0 : decide (a1 < 0) = true := decide_eq_true c5
    clear c5
    simp only [Option.some.injEq, Prod.mk.injEq] at H
    obtain ⟨rfl, rfl, rfl⟩ := H
    go_enter Try.func6, Try.ntmps6
    go_wp2
    go_ret3
    exact ⟨by first | rfl | (simp [errW_none, errW_some] <;> rfl) | (simp [*, errW_none, errW_some] <;> rfl), by repeat (first | (with_reducible first | exact HB.out | apply below_alloc | apply pw_below_drewN | apply below_drew1) | exact HB.out)⟩
  · rw [if_neg c5] at H
    have c5b0 : decide (a1 < 0) = false := decide_eq_false c5
    clear c5
    by_cases c6 : a1 > (l0.length : Int)
    · rw [if_pos c6] at H
      have c6b0 : decide ((l0.length : Int) < a1) = true := decide_eq_true c6
      clear c6
      simp only [Option.some.injEq, Prod.mk.injEq] at H
      obtain ⟨rfl, rfl, rfl⟩ := H
      go_enter Try.func6, Try.ntmps6
      go_wp2
      go_ret3
      exact ⟨by first | rfl | (simp [errW_none, errW_some] <;> rfl) | (simp [*, errW_none, errW_some] <;> rfl), by repeat (first | (with_reducible first | exact HB.out | apply below_alloc | apply pw_below_drewN | apply below_drew1) | exact HB.out)⟩
    · rw [if_neg c6] at H
      have c6b0 : decide ((l0.length : Int) < a1) = false := decide_eq_false c6
      clear c6
      by_cases c7 : a2 < 1
      · rw [if_pos c7] at H
        have c7b0 : decide (a2 < 1) = true := decide_eq_true c7
        clear c7
        simp only [Option.some.injEq, Prod.mk.injEq] at H
        obtain ⟨rfl, rfl, rfl⟩ := H
        go_enter Try.func6, Try.ntmps6
        go_wp2
        go_ret3
        exact ⟨by first | rfl | (simp [errW_none, errW_some] <;> rfl) | (simp [*, errW_none, errW_some] <;> rfl), by repeat (first | (with_reducible first | exact HB.out | apply below_alloc | apply pw_below_drewN | apply below_drew1) | exact HB.out)⟩
      · rw [if_neg c7] at H
        have c7b0 : decide (a2 < 1) = false := decide_eq_false c7
        clear c7
        by_cases c8 : a3 < 1
        · rw [if_pos c8] at H
          have c8b0 : decide (a3 < 1) = true := decide_eq_true c8
          clear c8
          simp only [Option.some.injEq, Prod.mk.injEq] at H
          obtain ⟨rfl, rfl, rfl⟩ := H
          go_enter Try.func6, Try.ntmps6
          go_wp2
          go_ret3
          exact ⟨by first | rfl | (simp [errW_none, errW_some] <;> rfl) | (simp [*, errW_none, errW_some] <;> rfl), by repeat (first | (with_reducible first | exact HB.out | apply below_alloc | apply pw_below_drewN | apply below_drew1) | exact HB.out)⟩
        · rw [if_neg c8] at H
          have c8b0 : decide (a3 < 1) = false := decide_eq_false c8
          clear c8
          replace H := Option.bind_eq_some_iff.mp H
          obtain ⟨⟨t121, t122⟩, A90, H⟩ := H
          replace H : (some (t121, t122, 0)) = some (r1, r2, r3) := H
          simp only [Option.some.injEq, Prod.mk.injEq] at H
          obtain ⟨rfl, rfl, rfl⟩ := H
          have hlen : l0.length < 17592186043904 := hfit.out.1
          obtain ⟨a, rfl⟩ : ∃ a : Nat, a1 = (a : Int) := ⟨a1.toNat, by have := of_decide_eq_false c5b0; omega⟩
          have ha : a ≤ l0.length := by have := of_decide_eq_false c6b0; omega
          have hw1 : 1 ≤ a2 := by have := of_decide_eq_false c7b0; omega
          have hfull := ref_match_eq (by omega) ha hlen A90
          have hnf := newFinder_any A0 l0.length c0 w
          have hfd := find_any l0 A0 l0.length c0 (w.heap.size + 1) w.heap.size (fun g => g < w.heap.size ∨ g = w.heap.size + 1) 0 a a2 a3 (newW w A0 l0.length c0) rfl HC0.out hlen hfit.out.byte (Kd.C_below HR0.out (new_below w A0 l0.length c0)) (fun h0 ad e => ⟨Or.inl (A_lt HR0.out h0 ad e), by have := A_lt HR0.out h0 ad e; omega⟩) (new_blk w A0 l0.length c0) (new_grp w A0 l0.length c0 _ l0) (Or.inr rfl) (by omega) (fun g hg => by rw [new_size]; rcases hg with h | h <;> omega) (Nat.zero_le _) ha hw1 (fun pl h1 h2 => token_run_ok l0 a pl a3 h2 h1 hlen) t121 t122 hfull
          replace hnf := Aside0.mk hnf
          replace hfd := Aside0.mk hfd
          clear A90 hfull
          go_enter Try.func6, Try.ntmps6
          go_wp2_with (first
            | (go_at_call 11; (with_reducible refine hnf.out.mono ?_); rintro e w1 ⟨rfl, rfl⟩)
            | (go_at_call 12; (with_reducible refine hfd.out.mono ?_); rintro e w2 ⟨rfl, u1, hF2, hG2, hu2, hK2⟩; replace hK2 := Aside0.mk hK2; clear hF2 hG2))
          go_ret3
          exact ⟨rfl, (new_below w A0 l0.length c0).trans (hK2.out.below (fun k hk => ⟨Or.inl hk, by omega⟩) (by rw [new_size]; omega))⟩

set_option maxHeartbeats 8000000 in
set_option maxRecDepth 100000 in
theorem tokP.calls (k : Nat) (A0 : Option Addr) (c0 : Nat) (l0 : List Int) (a1 : Int) (a2 : Int) (a3 : Int) (a4 : Int) (r1 : List (S30)) (r2 : Int) (w : World) (hr0 : Kd.C (Kd.int .u8) w A0 l0.length l0) (hc0 : l0.length ≤ c0) (h0 : tokP.f k l0 a1 a2 a3 a4 = some (r1, r2)) :
    Calls Try.prog 5 #[.slice A0 l0.length c0, .int .i64 a1, .int .i64 a2, .int .i64 a3, .int .i64 a4] w fun e w' => ∃ v0_ : Value, e = .returned (.tuple #[v0_, .int .i64 r2]) ∧ Kd.R k30 30 w' w.heap.size (fun _ => True) v0_ r1 ∧ Below w.heap.size w w' := by
  by_cases hfit0 : Fits l0
  case neg => simp [tokP.f, hfit0] at h0
  have h : token_Parse.f k l0 a1 a2 a3 a4 = some (r1, r2) := by simpa [tokP.f, hfit0] using h0
  have hlen0 := hfit0.1
  rw [token_Parse.f, if_pos hlen0] at h
  have hfit := Aside0.mk hfit0
  clear h0 hlen0 hfit0
  have HR0 := Aside0.mk hr0
  have HC0 := Aside0.mk hc0
  clear hr0 hc0
  have HB := Aside0.mk (Below.refl w.heap.size w)
  have H : (if a1 < 0 then (some (([] : List (S30)), 2)) else (if a1 > (l0.length : Int) then (some (([] : List (S30)), 2)) else (if a2 < 1 then (some (([] : List (S30)), 2)) else (if a3 < 1 then (some (([] : List (S30)), 2)) else (if a4 < a3 then (some (([] : List (S30)), 2)) else ((hamperref06_Parse.f k l0 a1 a2 a3 a4).bind fun t115 => (some (t115, 0)))))))) = some (r1, r2) := h
  clear h
  by_cases c6 : a1 < 0
  · rw [if_pos c6] at H
    have c6b0 : decide (a1 < 0) = true := decide_eq_true c6
    clear c6
    simp only [Option.some.injEq, Prod.mk.injEq] at H
    obtain ⟨rfl, rfl⟩ := H
    go_enter Try.func5, Try.ntmps5
    go_wp2
    go_ret2
    exact ⟨_, by first | rfl | (simp [errW_none, errW_some] <;> rfl) | (simp [*, errW_none, errW_some] <;> rfl), by first | exact Kd.R_nil _ _ _ _ _ | exact Kd.N_nil _ _ _ _ _ | exact Kd.V_nil _ _ _ _ _ | exact Kd.Q_nil _ _ _ _ _ | exact Kd.S_nil _ _ _ _ _, by repeat (first | (with_reducible first | exact HB.out | apply below_alloc | apply pw_below_drewN | apply below_drew1) | exact HB.out)⟩
  · rw [if_neg c6] at H
    have c6b0 : decide (a1 < 0) = false := decide_eq_false c6
    clear c6
    by_cases c7 : a1 > (l0.length : Int)
    · rw [if_pos c7] at H
      have c7b0 : decide ((l0.length : Int) < a1) = true := decide_eq_true c7
      clear c7
      simp only [Option.some.injEq, Prod.mk.injEq] at H
      obtain ⟨rfl, rfl⟩ := H
      go_enter Try.func5, Try.ntmps5
      go_wp2
      go_ret2
      exact ⟨_, by first | rfl | (simp [errW_none, errW_some] <;> rfl) | (simp [*, errW_none, errW_some] <;> rfl), by first | exact Kd.R_nil _ _ _ _ _ | exact Kd.N_nil _ _ _ _ _ | exact Kd.V_nil _ _ _ _ _ | exact Kd.Q_nil _ _ _ _ _ | exact Kd.S_nil _ _ _ _ _, by repeat (first | (with_reducible first | exact HB.out | apply below_alloc | apply pw_below_drewN | apply below_drew1) | exact HB.out)⟩
    · rw [if_neg c7] at H
      have c7b0 : decide ((l0.length : Int) < a1) = false := decide_eq_false c7
      clear c7
      by_cases c8 : a2 < 1
      · rw [if_pos c8] at H
        have c8b0 : decide (a2 < 1) = true := decide_eq_true c8
        clear c8
        simp only [Option.some.injEq, Prod.mk.injEq] at H
        obtain ⟨rfl, rfl⟩ := H
        go_enter Try.func5, Try.ntmps5
        go_wp2
        go_ret2
        exact ⟨_, by first | rfl | (simp [errW_none, errW_some] <;> rfl) | (simp [*, errW_none, errW_some] <;> rfl), by first | exact Kd.R_nil _ _ _ _ _ | exact Kd.N_nil _ _ _ _ _ | exact Kd.V_nil _ _ _ _ _ | exact Kd.Q_nil _ _ _ _ _ | exact Kd.S_nil _ _ _ _ _, by repeat (first | (with_reducible first | exact HB.out | apply below_alloc | apply pw_below_drewN | apply below_drew1) | exact HB.out)⟩
      · rw [if_neg c8] at H
        have c8b0 : decide (a2 < 1) = false := decide_eq_false c8
        clear c8
        by_cases c9 : a3 < 1
        · rw [if_pos c9] at H
          have c9b0 : decide (a3 < 1) = true := decide_eq_true c9
          clear c9
          simp only [Option.some.injEq, Prod.mk.injEq] at H
          obtain ⟨rfl, rfl⟩ := H
          go_enter Try.func5, Try.ntmps5
          go_wp2
          go_ret2
          exact ⟨_, by first | rfl | (simp [errW_none, errW_some] <;> rfl) | (simp [*, errW_none, errW_some] <;> rfl), by first | exact Kd.R_nil _ _ _ _ _ | exact Kd.N_nil _ _ _ _ _ | exact Kd.V_nil _ _ _ _ _ | exact Kd.Q_nil _ _ _ _ _ | exact Kd.S_nil _ _ _ _ _, by repeat (first | (with_reducible first | exact HB.out | apply below_alloc | apply pw_below_drewN | apply below_drew1) | exact HB.out)⟩
        · rw [if_neg c9] at H
          have c9b0 : decide (a3 < 1) = false := decide_eq_false c9
          clear c9
          by_cases c10 : a4 < a3
          · rw [if_pos c10] at H
            have c10b0 : decide (a4 < a3) = true := decide_eq_true c10
            clear c10
            simp only [Option.some.injEq, Prod.mk.injEq] at H
            obtain ⟨rfl, rfl⟩ := H
            go_enter Try.func5, Try.ntmps5
            go_wp2
            go_ret2
            exact ⟨_, by first | rfl | (simp [errW_none, errW_some] <;> rfl) | (simp [*, errW_none, errW_some] <;> rfl), by first | exact Kd.R_nil _ _ _ _ _ | exact Kd.N_nil _ _ _ _ _ | exact Kd.V_nil _ _ _ _ _ | exact Kd.Q_nil _ _ _ _ _ | exact Kd.S_nil _ _ _ _ _, by repeat (first | (with_reducible first | exact HB.out | apply below_alloc | apply pw_below_drewN | apply below_drew1) | exact HB.out)⟩
          · rw [if_neg c10] at H
            have c10b0 : decide (a4 < a3) = false := decide_eq_false c10
            clear c10
            replace H := Option.bind_eq_some_iff.mp H
            obtain ⟨t115, A110, H⟩ := H
            replace H : (some (t115, 0)) = some (r1, r2) := H
            simp only [Option.some.injEq, Prod.mk.injEq] at H
            obtain ⟨rfl, rfl⟩ := H
            have hlen : l0.length < 17592186043904 := hfit.out.1
            obtain ⟨a, rfl⟩ : ∃ a : Nat, a1 = (a : Int) := ⟨a1.toNat, by have := of_decide_eq_false c6b0; omega⟩
            have ha : a ≤ l0.length := by have := of_decide_eq_false c7b0; omega
            have hw1 : 1 ≤ a2 := by have := of_decide_eq_false c8b0; omega
            have hl1 : 1 ≤ a3 := by have := of_decide_eq_false c9b0; omega
            obtain ⟨S, hS⟩ : ∃ S, w.heap.size = S := ⟨_, rfl⟩
            have hnf := newFinder_any A0 l0.length c0 w
            have hB0 := new_below w A0 l0.length c0
            have hF0 := new_blk w A0 l0.length c0
            have hG0 := new_grp w A0 l0.length c0 (fun j => j < S ∨ j = S + 1 ∨ (Value.slice none 0 0).ownBlock = some j) l0
            rw [hS] at hnf hB0 hF0 hG0 ⊢
            replace hnf := Aside0.mk hnf
            replace hB0 := Aside0.mk hB0
            replace hF0 := Aside0.mk hF0
            replace hG0 := Aside0.mk hG0
            have H' := Aside0.mk (show hamperref06_Parse.l0 k l0 a2 a3 a4 [] (a : Int) = some t115 from A110)
            clear A110 HB
            go_enter Try.func5, Try.ntmps5
            go_wp2_with (first | (go_at_call 11; (with_reducible refine hnf.out.mono ?_); rintro e w1 ⟨rfl, rfl⟩))
            go_loopg [13, 14] k (fun kq v13 v14 wr => ∃ (x : List S30) (at_ u : Nat), v14 = .int .i64 (at_ : Int) ∧ at_ ≤ l0.length ∧ u ≤ at_ ∧ Aside0 (hamperref06_Parse.l0 kq l0 a2 a3 a4 x (at_ : Int) = some t115) ∧ Aside0 (kq ≤ k) ∧ Aside0 (Kd.R k30 30 wr S (fun j => j ≠ S + 1 ∧ j ≠ S) v13 x) ∧ Aside0 (Below S w wr) ∧ Aside0 (Blk wr (S + 1) 45 (fcs A0 l0.length c0 S u)) ∧ Aside0 (GrpT wr S (fun j => j < S ∨ j = S + 1 ∨ v13.ownBlock = some j) (plc l0 u)))
            case atStart => exact ⟨[], a, 0, rfl, ha, Nat.zero_le _, H', ⟨Nat.le_refl _⟩, ⟨Kd.R_nil _ _ _ _ _⟩, by first | exact hB0 | (rw [hS] at hB0; exact hB0), by first | exact hF0 | (rw [hS] at hF0; exact hF0), by first | exact hG0 | (rw [hS] at hG0; exact hG0)⟩
            case round =>
              clear H' hB0 hF0 hG0 hnf
              obtain ⟨x, at_, u, rfl, hat_, hu, HA, HK1, HO, HBl, hF, hG⟩ := hrel
              cases gk with
              | zero => exact absurd HA.out (by simp [hamperref06_Parse.l0])
              | succ k1 =>
                have H := HA.out
                clear HA
                simp only [hamperref06_Parse.l0] at H
                have hSz : S ≤ wr.heap.size := by have := hF.out.lt; omega
                by_cases c1 : (at_ : Int) < (l0.length : Int)
                · rw [if_pos c1] at H
                  have d1 : decide ((at_ : Int) < (l0.length : Int)) = true := decide_eq_true c1
                  obtain ⟨⟨t104, t105⟩, A7, H⟩ := Option.bind_eq_some_iff.mp H
                  have hfull := ref_match_eq (by omega) hat_ hlen A7
                  have hle := full_le l0 a4 at_ (min at_ a2.toNat)
                  rw [hfull] at hle
                  replace hle : t104 ≤ ((l0.length - at_ : Nat) : Int) := hle
                  have hfd := find_any l0 A0 l0.length c0 (S + 1) S (fun j => j < S ∨ j = S + 1 ∨ u13.ownBlock = some j) u at_ a2 a4 wr rfl HC0.out hlen hfit.out.byte (Kd.C_below HR0.out (by rw [hS]; exact HBl.out)) (fun h0 ad e => ⟨Or.inl (by have := A_lt HR0.out h0 ad e; omega), by have := A_lt HR0.out h0 ad e; omega⟩) hF.out hG.out (Or.inr (Or.inl rfl)) (fun h => h.elim (fun h => by omega) (fun h => h.elim (fun h => by omega) (fun h => (HO.out.1 S h).2 rfl))) (fun j hj => hj.elim (fun h => by omega) (fun h => h.elim (fun h => by have := hF.out.lt; omega) (fun h => R_lt HO.out j h))) hu hat_ hw1 (fun pl h1 h2 => token_run_ok l0 at_ pl a4 h2 h1 hlen) t104 t105 hfull
                  replace hfd := Aside0.mk hfd
                  clear A7 hfull hF hG
                  by_cases c2 : t104 ≥ a3
                  · rw [if_pos c2] at H
                    have d2 : decide (t104 < a3) = false := decide_eq_false (by omega)
                    by_cases c3 : x.length < 5864062014805
                    case neg => rw [if_neg c3] at H; cases H
                    rw [if_pos c3] at H
                    have LM := Aside0.mk c3
                    clear c3
                    obtain ⟨m, rfl⟩ : ∃ m : Nat, t104 = (m : Int) := ⟨t104.toNat, by omega⟩
                    have hwn : wrap64 ((at_ : Int) + (m : Int)) = ((at_ + m : Nat) : Int) := by rw [w64 (by omega) (by omega)]; omega
                    rw [hwn] at H
                    have hwp : IntKind.i64.wrap ((at_ : Int) + (m : Int)) = ((at_ + m : Nat) : Int) := (i64_w _).trans hwn
                    replace H := Aside0.mk H
                    replace hwn := Aside0.mk hwn
                    go_wp2_with (first
                      | (go_at_call 12; (with_reducible refine hfd.out.mono ?_); rintro e w2 ⟨rfl, u2, hF2, hG2, hu2, hK2⟩; have HO2 := Aside0.mk (R_kept HO.out (fun j hj => hK2.block j (R_lt HO.out j hj) ⟨Or.inr (Or.inr hj), (HO.out.1 j hj).1⟩)); have HB2 := Aside0.mk (HBl.out.trans (hK2.below (fun j hj => ⟨Or.inl hj, by omega⟩) hSz)); replace hF2 := Aside0.mk hF2; replace hG2 := Aside0.mk hG2; clear hK2)
                      | ((with_reducible refine gate_builtin (b := .append) (xs := #[.tmp 66, .tmp 70]) rfl ?_); at_builtin; refine Kd.R_append k30 (w0 := w) S rfl (.tmp 66) (.tmp 70) 25 30 (.agg #[(.int .i64 0), (.int .i64 0), (.int .u8 0)]) 24 rfl Try.underlying25 info30 rfl (by decide) (by omega) u13 x (⟨(m : Int), t105, 0⟩ : S30) [.int .i64 (m : Int), .int .i64 t105, .int .u8 0] (fun j => j ≠ S + 1 ∧ j ≠ S) (fun _ => False) rfl rfl ?aP (fun _ hk => hk.elim) ?aF HO2.out HB2.out ?aS ?aL ?_; (case aP => exact k30_mkM _ _ _ (⟨(m : Int), t105, 0⟩ : S30)); (case aF => (intro j hj; have := hF2.out.lt; exact ⟨by omega, by omega⟩)); (case aS => (have := hF2.out.lt; omega)); (case aL => have := LM.out; omega); intro v3 w3 ho hb hg hat; replace ho := Aside0.mk ho; replace hb := Aside0.mk hb; replace hg := Aside0.mk hg; replace hat := Aside0.mk hat))
                    go_roundg k1
                    case measure => have := HK1.out; omega
                    case rel =>
                      refine ⟨_, at_ + m, u2, rfl, by omega, by omega, ⟨?_⟩, ⟨by have := HK1.out; omega⟩, ho, hb, ⟨?_⟩, ⟨?_⟩⟩
                      · first | exact H.out | (rw [← hwn.out]; exact H.out)
                      · exact (hg.out.block (S + 1) hF2.out.lt (fun e => (HO2.out.1 (S + 1) e.symm).1 rfl)).trans hF2.out
                      · have hm := hG2.out.more (No' := fun j => (j < S ∨ j = S + 1 ∨ u13.ownBlock = some j) ∨ w2.heap.size ≤ j) (fun j hj => hj)
                        have hk := hm.kept hg.out (fun e => (HO2.out.1 S e.symm).2 rfl) (fun j hj => Or.inl (Or.inl (Or.inr (Or.inr hj))))
                        refine hk.more (fun j hj => Or.inl ?_)
                        rcases hj with hj | hj | hj
                        · exact Or.inl (Or.inl hj)
                        · exact Or.inl (Or.inr (Or.inl hj))
                        · rcases hat.out with h1 | ⟨b, h1, h2⟩
                          · exact Or.inl (Or.inr (Or.inr (h1 ▸ hj)))
                          · rw [h1] at hj
                            cases hj
                            exact Or.inr h2
                  · rw [if_neg c2, if_pos (by omega)] at H
                    have d2 : decide (t104 < a3) = true := decide_eq_true (by omega)
                    by_cases c3 : x.length < 5864062014805
                    case neg => rw [if_neg c3] at H; cases H
                    rw [if_pos c3] at H
                    have LM := Aside0.mk c3
                    clear c3
                    have hwn : wrap64 ((at_ : Int) + 1) = ((at_ + 1 : Nat) : Int) := by rw [w64 (by omega) (by omega)]; omega
                    rw [hwn] at H
                    have hwp : IntKind.i64.wrap ((at_ : Int) + 1) = ((at_ + 1 : Nat) : Int) := (i64_w _).trans hwn
                    replace H := Aside0.mk H
                    replace hwn := Aside0.mk hwn
                    obtain ⟨gb, ob, rfl, hgb, hxb⟩ := byt_of_C HR0.out (show 0 < l0.length by omega)
                    have hby := hxb at_ (by omega)
                    have i0 : (0 : Int) ≤ (at_ : Int) := by omega
                    clear hxb
                    go_wp2_with (first
                      | (go_at_call 12; (with_reducible refine hfd.out.mono ?_); rintro e w2 ⟨rfl, u2, hF2, hG2, hu2, hK2⟩; have HO2 := Aside0.mk (R_kept HO.out (fun j hj => hK2.block j (R_lt HO.out j hj) ⟨Or.inr (Or.inr hj), (HO.out.1 j hj).1⟩)); have HB2 := Aside0.mk (HBl.out.trans (hK2.below (fun j hj => ⟨Or.inl hj, by omega⟩) hSz)); replace hF2 := Aside0.mk hF2; replace hG2 := Aside0.mk hG2; clear hK2; have hby2 : w2.cell? ⟨gb, ob + at_, none⟩ = some (.int .u8 (rd l0 (at_ : Int))) := (HB2.out.cell (by show gb < S; omega)).trans hby)
                      | ((with_reducible refine gate_builtin (b := .append) (xs := #[.tmp 56, .tmp 62]) rfl ?_); at_builtin; refine Kd.R_append k30 (w0 := w) S rfl (.tmp 56) (.tmp 62) 25 30 (.agg #[(.int .i64 0), (.int .i64 0), (.int .u8 0)]) 24 rfl Try.underlying25 info30 rfl (by decide) (by omega) u13 x (⟨0, 0, rd l0 (at_ : Int)⟩ : S30) [.int .i64 0, .int .i64 0, .int .u8 (rd l0 (at_ : Int))] (fun j => j ≠ S + 1 ∧ j ≠ S) (fun _ => False) rfl rfl ?aP (fun _ hk => hk.elim) ?aF HO2.out HB2.out ?aS ?aL ?_; (case aP => exact k30_mkM _ _ _ (⟨0, 0, rd l0 (at_ : Int)⟩ : S30)); (case aF => (intro j hj; have := hF2.out.lt; exact ⟨by omega, by omega⟩)); (case aS => (have := hF2.out.lt; omega)); (case aL => have := LM.out; omega); intro v3 w3 ho hb hg hat; replace ho := Aside0.mk ho; replace hb := Aside0.mk hb; replace hg := Aside0.mk hg; replace hat := Aside0.mk hat))
                    go_roundg k1
                    case measure => have := HK1.out; omega
                    case rel =>
                      refine ⟨_, at_ + 1, u2, rfl, by omega, by omega, ⟨?_⟩, ⟨by have := HK1.out; omega⟩, ho, hb, ⟨?_⟩, ⟨?_⟩⟩
                      · first | exact H.out | (rw [← hwn.out]; exact H.out)
                      · exact (hg.out.block (S + 1) hF2.out.lt (fun e => (HO2.out.1 (S + 1) e.symm).1 rfl)).trans hF2.out
                      · have hm := hG2.out.more (No' := fun j => (j < S ∨ j = S + 1 ∨ u13.ownBlock = some j) ∨ w2.heap.size ≤ j) (fun j hj => hj)
                        have hk := hm.kept hg.out (fun e => (HO2.out.1 S e.symm).2 rfl) (fun j hj => Or.inl (Or.inl (Or.inr (Or.inr hj))))
                        refine hk.more (fun j hj => Or.inl ?_)
                        rcases hj with hj | hj | hj
                        · exact Or.inl (Or.inl hj)
                        · exact Or.inl (Or.inr (Or.inl hj))
                        · rcases hat.out with h1 | ⟨b, h1, h2⟩
                          · exact Or.inl (Or.inr (Or.inr (h1 ▸ hj)))
                          · rw [h1] at hj
                            cases hj
                            exact Or.inr h2
                · rw [if_neg c1] at H
                  have d1 : decide ((at_ : Int) < (l0.length : Int)) = false := decide_eq_false c1
                  obtain rfl := Option.some.inj H
                  go_wp2
                  go_ret2
                  exact ⟨_, rfl, Kd.R_mono HO.out (fun _ _ => trivial), HBl.out⟩

end Go.Proofs.Ytfefbelglohfdaa.PTok
