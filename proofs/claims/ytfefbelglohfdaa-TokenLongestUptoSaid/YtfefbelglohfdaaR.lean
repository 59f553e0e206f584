/-
  The printed functions in the plain law's words.
-/
import Derived.Test.YtfefbelglohfdaaQ
namespace Go.Proofs.Ytfefbelglohfdaa
open Go.RowKit Go.Proofs.YtfefbelglohfdaaW.PrintWords Go.Proofs.YtfefbelglohfdaaW.PrintLast Go.Proofs.YtfefbelglohfdaaW.PrintMore

theorem rd_drop (L : List Int) (a x : Nat) : rd (L.drop a) (x : Int) = rd L ((a + x : Nat) : Int) := by
  simp only [rd, Int.toNat_natCast, List.getD_eq_getElem?_getD, List.getElem?_drop]

theorem w64 {x : Int} (h0 : -9223372036854775808 ≤ x) (h1 : x ≤ 9223372036854775807) : wrap64 x = x := by
  unfold wrap64
  omega

theorem tr (L : List Int) (a pl : Nat) (most : Int) (hpa : pl ≤ a) (ha : a ≤ L.length) (hL : L.length < 17592186043904) : ∀ j x : Nat, x + j = (L.drop a).length →
    PTok.token_run.l0 (j + 1) (L.drop a) (L.drop pl) most (x : Int) = some ((x : Int) + rn L (most.toNat - x) (a + x) (pl + x))
  | j, x, hx => by
    have hl1 : (L.drop a).length = L.length - a := List.length_drop
    have hl2 : (L.drop pl).length = L.length - pl := List.length_drop
    unfold PTok.token_run.l0
    by_cases c1 : (x : Int) < most
    · rw [if_pos c1]
      obtain ⟨m, hm⟩ : ∃ m, most.toNat - x = m + 1 := ⟨most.toNat - x - 1, by omega⟩
      rw [hm]
      by_cases c2 : (x : Int) < ((L.drop a).length : Int)
      · rw [if_pos c2, if_pos (by omega), if_pos (by omega)]
        obtain ⟨j', rfl⟩ : ∃ j', j = j' + 1 := ⟨j - 1, by omega⟩
        unfold rn
        by_cases c3 : rd (L.drop a) (x : Int) = rd (L.drop pl) (x : Int)
        · rw [if_pos c3]
          rw [rd_drop, rd_drop] at c3
          rw [if_pos ⟨by omega, c3⟩, w64 (by omega) (by omega), show ((x : Int) + 1) = ((x + 1 : Nat) : Int) by omega, tr L a pl most hpa ha hL j' (x + 1) (by omega)]
          rw [show most.toNat - (x + 1) = m by omega, show a + (x + 1) = a + x + 1 by omega, show pl + (x + 1) = pl + x + 1 by omega]
          congr 1
          omega
        · rw [if_neg c3]
          rw [rd_drop, rd_drop] at c3
          rw [if_neg (fun h => c3 h.2)]
          simp
      · rw [if_neg c2, rn_zero (by omega)]
        simp
    · rw [if_neg c1, show most.toNat - x = 0 by omega]
      simp [rn]
theorem token_run_ok (L : List Int) (a pl : Nat) (most : Int) (hpa : pl < a) (ha : a < L.length) (hL : L.length < 17592186043904) : ∃ k, PTok.token_run.f k (L.drop a) (L.drop pl) most = some (rI L most a (a - pl)) := by
  refine ⟨(L.drop a).length + 1, ?_⟩
  have := tr L a pl most (by omega) (by omega) hL (L.drop a).length 0 (by omega)
  unfold PTok.token_run.f rI
  rw [show a - (a - pl) = pl by omega]
  simpa using this

theorem rr (L : List Int) (a d : Nat) (most : Int) (hd : 1 ≤ d) (hda : d ≤ a) (ha : a ≤ L.length) (hL : L.length < 17592186043904) : ∀ j x : Nat, a + x + j = L.length →
    PTok.hamperref06_run.l0 (j + 1) L a d most (x : Int) = some ((x : Int) + rn L (most.toNat - x) (a + x) (a - d + x))
  | j, x, hx => by
    unfold PTok.hamperref06_run.l0
    have e1 : wrap64 ((a : Int) + x) = ((a + x : Nat) : Int) := by rw [w64 (by omega) (by omega)]; omega
    have e2 : wrap64 (((a + x : Nat) : Int) - d) = ((a - d + x : Nat) : Int) := by rw [w64 (by omega) (by omega)]; omega
    rw [e1, e2]
    by_cases c1 : (x : Int) < most
    · rw [if_pos c1]
      obtain ⟨m, hm⟩ : ∃ m, most.toNat - x = m + 1 := ⟨most.toNat - x - 1, by omega⟩
      rw [hm]
      by_cases c2 : ((a + x : Nat) : Int) < (L.length : Int)
      · rw [if_pos c2, if_pos (by omega), if_pos (by omega), if_pos (by omega)]
        obtain ⟨j', rfl⟩ : ∃ j', j = j' + 1 := ⟨j - 1, by omega⟩
        unfold rn
        by_cases c3 : rd L ((a + x : Nat) : Int) = rd L ((a - d + x : Nat) : Int)
        · rw [if_pos c3, if_pos ⟨by omega, c3⟩, w64 (by omega) (by omega), show ((x : Int) + 1) = ((x + 1 : Nat) : Int) by omega, rr L a d most hd hda ha hL j' (x + 1) (by omega)]
          rw [show most.toNat - (x + 1) = m by omega, show a + (x + 1) = a + x + 1 by omega, show a - d + (x + 1) = a - d + x + 1 by omega]
          congr 1
          omega
        · rw [if_neg c3, if_neg (fun h => c3 h.2)]
          simp
      · rw [if_neg c2, rn_zero (by omega)]
        simp
    · rw [if_neg c1, show most.toNat - x = 0 by omega]
      simp [rn]
theorem ref_run_ok (L : List Int) (a d : Nat) (most : Int) (hd : 1 ≤ d) (hda : d ≤ a) (ha : a ≤ L.length) (hL : L.length < 17592186043904) (k : Nat) (hk : L.length + 1 ≤ k) : PTok.hamperref06_run.f k L a d most = some (rI L most a d) := by
  refine at_rounds (PTok.hamperref06_run.mono L a d most) (k := L.length - a + 1) (by omega) ?_
  have := rr L a d most hd hda ha hL (L.length - a) 0 (by omega)
  unfold PTok.hamperref06_run.f rI
  simpa using this

theorem rm (L : List Int) (a : Nat) (window most : Int) (hw : 0 ≤ window) (ha : a ≤ L.length) (hL : L.length < 17592186043904) : ∀ j d : Nat, d + j = min a window.toNat →
    PTok.hamperref06_Match.l0 (2 * j + (L.length + 3)) L a window most (full L most a d).1 (full L most a d).2 ((d : Int) + 1) = some (full L most a (min a window.toNat))
  | 0, d, hd => by
    have hend : PTok.hamperref06_Match.j1 (L.length + 2) L a window most (full L most a d).1 (full L most a d).2 ((d : Int) + 1) false = some (full L most a (min a window.toNat)) := by
      rw [← hd]
      simp [PTok.hamperref06_Match.j1]
    show PTok.hamperref06_Match.l0 (2 * 0 + (L.length + 2) + 1) L a window most _ _ _ = _
    rw [show 2 * 0 + (L.length + 2) = L.length + 2 by omega]
    unfold PTok.hamperref06_Match.l0
    by_cases c1 : (d : Int) + 1 ≤ window
    · rw [if_pos c1, show decide ((d : Int) + 1 ≤ (a : Int)) = false from decide_eq_false (by omega)]
      exact hend
    · rw [if_neg c1]
      exact hend
  | j + 1, d, hd => by
    rw [show 2 * (j + 1) + (L.length + 3) = (2 * j + (L.length + 3)) + 1 + 1 by omega]
    unfold PTok.hamperref06_Match.l0
    rw [if_pos (by omega), show decide ((d : Int) + 1 ≤ (a : Int)) = true from decide_eq_true (by omega)]
    unfold PTok.hamperref06_Match.j1
    rw [if_pos rfl, show ((d : Int) + 1) = ((d + 1 : Nat) : Int) by omega, ref_run_ok L a (d + 1) most (by omega) (by omega) ha hL _ (by omega), Option.bind_some]
    have ih := rm L a window most hw ha hL j (d + 1) (by omega)
    have ef : full L most a (d + 1) = stp L most a (full L most a d) (d + 1) := rfl
    rw [w64 (by omega) (by omega)]
    rw [ef, stp_eq] at ih
    by_cases c : (full L most a d).1 < rI L most a (d + 1)
    · rw [if_pos c]
      rw [if_pos c] at ih
      exact ih
    · rw [if_neg c]
      rw [if_neg c] at ih
      exact ih
theorem ref_match_ok (L : List Int) (a : Nat) (window most : Int) (hw : 0 ≤ window) (ha : a ≤ L.length) (hL : L.length < 17592186043904) : ∃ k, PTok.hamperref06_Match.f k L a window most = some (full L most a (min a window.toNat)) :=
  ⟨_, rm L a window most hw ha hL (min a window.toNat) 0 (by omega)⟩
/-- One answer. -/
theorem ref_match_eq {L : List Int} {a : Nat} {window most : Int} (hw : 0 ≤ window) (ha : a ≤ L.length) (hL : L.length < 17592186043904) {k : Nat} {r : Int × Int} (h : PTok.hamperref06_Match.f k L a window most = some r) : full L most a (min a window.toNat) = r := by
  obtain ⟨k', hk'⟩ := ref_match_ok L a window most hw ha hL
  have h1 := at_rounds (PTok.hamperref06_Match.mono L a window most) (Nat.le_max_left k k') h
  have h2 := at_rounds (PTok.hamperref06_Match.mono L a window most) (Nat.le_max_right k k') hk'
  rw [h1] at h2
  exact (Option.some.inj h2).symm

end Go.Proofs.Ytfefbelglohfdaa
