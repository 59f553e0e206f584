/-
  RouteBetween: the law's body, for texts of moderate length.
-/
import Derived.Test.YtlpgkkaeojnndaaDoorLO
namespace Go.Proofs.YtlpgkkaeojnndaaDoor
open Go.RowKit

theorem cmpB_neg (a b : ByteArray) : cmpB a b = -cmpB b a := cmpL_neg _ _
theorem cmpB_eq {a b : ByteArray} (h : cmpB a b = 0) : a = b := by
  have e := cmpL_eq _ _ h
  have e2 := congrArg (fun l => Lib.join l [47]) e
  simp only [join_pieces] at e2
  rw [← data_bs a, ← data_bs b, e2]

/-- How two texts stand to each other, in three cases. -/
theorem cmpB_cases (a b : ByteArray) : cmpB a b = -1 ∨ cmpB a b = 0 ∨ cmpB a b = 1 := by
  have := cmpL_bd (pieces a.data.toList) (pieces b.data.toList)
  unfold cmpB
  omega

theorem within_between {a b c : ByteArray} (hw : withinB c a = true) (hv : validB b = true) (h1 : cmpB a b < 0) (h2 : cmpB b c < 0) : withinB b a = true := by
  have hi : inP c.data.toList a.data.toList := by
    by_cases hi : inP c.data.toList a.data.toList
    · exact hi
    · rw [within_not hi] at hw; cases hw
  obtain ⟨_, va, q, _, e⟩ := hi
  unfold cmpB at h1 h2
  rw [e] at h2
  obtain ⟨r, hr, e2⟩ := cmpL_between _ _ q h1 h2
  exact within_yes ⟨of_decide_eq_true hv, va, r, hr, e2⟩

theorem ab_less : cmpB ⟨#[97, 47, 98]⟩ ⟨#[97, 46, 98]⟩ = -1 := by decide

set_option maxHeartbeats 8000000 in
theorem law_between (a b c : ByteArray) (ha : a.size ≤ 1048576) (hb : b.size ≤ 1048576) (hc : c.size ≤ 1048576) (w : World) :
    Calls Tryd.prog 4 #[.string a, .string b, .string c] w fun e w' => e = .returned (.bool true) ∧ Below w.heap.size w w' := by
  have hab := ab_less
  have s1 : (⟨#[97, 47, 98]⟩ : ByteArray).size ≤ 1048576 := by decide
  have s2 : (⟨#[97, 46, 98]⟩ : ByteArray).size ≤ 1048576 := by decide
  have hC := Lib.hid fun (x y : ByteArray) (h : x.size ≤ 1048576) (k : y.size ≤ 1048576) (W : World) => compare_any x y (by omega) (by omega) W
  have hW := Lib.hid fun (x y : ByteArray) (h : x.size ≤ 1048576) (k : y.size ≤ 1048576) (W : World) => within_any x y (by omega) (by omega) W
  have hV := fun W => valid_any b (by omega) W
  have hB : Hid (Below w.heap.size w w) := Below.refl _ _
  have hn := cmpB_neg b a
  have ht := Lib.hid (cmpL_trans (pieces a.data.toList) (pieces b.data.toList) (pieces c.data.toList))
  have hbt := Lib.hid (@within_between a b c)
  rcases cmpB_cases a b with hx | hx | hx <;> rcases cmpB_cases b c with hy | hy | hy
  all_goals
    rw [hx] at hn
    first
      | (have dz : decide (0 < cmpB a c) = false := decide_eq_false (by have h : cmpB a c ≤ 0 := ht.out (by show cmpB a b ≤ 0; omega) (by show cmpB b c ≤ 0; omega); omega))
      | skip
    have he : cmpB a b = 0 → (a.toList == b.toList) = true ∧ (a.toList != b.toList) = false := fun h => by rw [cmpB_eq h]; simp
    rw [hx] at he
    replace he := Lib.hid he
    first
      | (obtain ⟨he2, he3⟩ := he.out rfl; clear he)
      | clear he
    clear ht
    cases hp : withinB c a with
    | false =>
      clear hbt
      go_enter Tryd.func4, Tryd.ntmps4
      go_wp2_with (first
        | (go_at_call 8; refine (hC.out _ _ (by assumption) (by assumption) _).mono ?_; rintro e w1 ⟨rfl, hb1⟩; replace hB := grow hB hb1; clear hb1)
        | (go_at_call 10; refine (hW.out _ _ (by assumption) (by assumption) _).mono ?_; rintro e w1 ⟨rfl, hb1⟩; replace hB := grow hB hb1; clear hb1)
        | (go_at_call 13; refine (hV _).mono ?_; rintro e w1 ⟨rfl, hb1⟩; replace hB := grow hB hb1; clear hb1))
      go_ret
      exact ⟨rfl, hB.out⟩
    | true =>
      cases hv : validB b with
      | false =>
        clear hbt
        go_enter Tryd.func4, Tryd.ntmps4
        go_wp2_with (first
          | (go_at_call 8; refine (hC.out _ _ (by assumption) (by assumption) _).mono ?_; rintro e w1 ⟨rfl, hb1⟩; replace hB := grow hB hb1; clear hb1)
          | (go_at_call 10; refine (hW.out _ _ (by assumption) (by assumption) _).mono ?_; rintro e w1 ⟨rfl, hb1⟩; replace hB := grow hB hb1; clear hb1)
          | (go_at_call 13; refine (hV _).mono ?_; rintro e w1 ⟨rfl, hb1⟩; replace hB := grow hB hb1; clear hb1))
        go_ret
        exact ⟨rfl, hB.out⟩
      | true =>
        first
          | (have hq : withinB b a = true := hbt.out hp hv (by omega) (by omega); clear hbt)
          | clear hbt
        go_enter Tryd.func4, Tryd.ntmps4
        go_wp2_with (first
          | (go_at_call 8; refine (hC.out _ _ (by assumption) (by assumption) _).mono ?_; rintro e w1 ⟨rfl, hb1⟩; replace hB := grow hB hb1; clear hb1)
          | (go_at_call 10; refine (hW.out _ _ (by assumption) (by assumption) _).mono ?_; rintro e w1 ⟨rfl, hb1⟩; replace hB := grow hB hb1; clear hb1)
          | (go_at_call 13; refine (hV _).mono ?_; rintro e w1 ⟨rfl, hb1⟩; replace hB := grow hB hb1; clear hb1))
        go_ret
        exact ⟨rfl, hB.out⟩

end Go.Proofs.YtlpgkkaeojnndaaDoor
