/-
  TokenFinds, plainly.
-/
import Derived.Test.YtfefbelglohfdaaT
import Derived.Test.YtfefbelglohfdaaPd
namespace Go.Proofs.Ytfefbelglohfdaa
open Go.RowKit Go.Proofs.YtfefbelglohfdaaW.PrintWords Go.Proofs.YtfefbelglohfdaaW.PrintLast Go.Proofs.YtfefbelglohfdaaW.PrintMore
open PTok

theorem finds_l0 (r : List S30) (hr : r.length ≤ 1048576) (N : Nat) (hN : r.length + 1 ≤ N) : ∀ (j i : Nat) (X : List S30), X.length = r.length → i + j = r.length → hamperlaw06_TokenFinds.l0 (N + j + 1) X r r (i : Int) = some true
  | 0, i, X, hX, h => by
    unfold hamperlaw06_TokenFinds.l0
    rw [if_neg (by omega), same_ok r hr _ (by omega)]
    simp [hamperlaw06_names.f]
  | j + 1, i, X, hX, h => by
    unfold hamperlaw06_TokenFinds.l0
    rw [if_pos (by omega), if_pos (by omega), w64 (by omega) (by omega), show (i : Int) + 1 = ((i + 1 : Nat) : Int) by omega]
    exact finds_l0 r hr N hN j (i + 1) _ (by simp [hX]) (by omega)

theorem str_two (l : List Int) : ((strOfNums (l ++ l)).toList != (strOfNums l ++ strOfNums l).toList) = false := by
  have : strOfNums (l ++ l) = strOfNums l ++ strOfNums l := by
    apply ByteArray.ext
    simp [strOfNums]
  rw [this]
  simp

theorem finds_ok (l : List Int) (hl : l.length ≤ 1048576) (hb : ∀ x ∈ l, 0 ≤ x ∧ x < 256) (a0 a1 a2 a3 : Int) : ∃ k, hamperlaw06_TokenFinds.f k l a0 a1 a2 a3 = some true := by
  have hfit : Fits l := ⟨by omega, hb⟩
  have hlen : l.length < 17592186043904 := by omega
  have key : ∀ k m e n f r, tokM.f k l a0 a1 a3 = some (m, n, e) → tokP.f k l a0 a1 a2 a3 = some (r, f) →
      hamperlaw06_TokenFinds.f k l a0 a1 a2 a3 = (if a0 ≥ 0 then (if a0 ≤ (l.length : Int) then (hamperlaw06_TokenFinds.j0 k l (l ++ l) m n e r f r (decide (a1 ≥ 1)) a0 a1 a2 a3) else (hamperlaw06_TokenFinds.j0 k l (l ++ l) m n e r f r false a0 a1 a2 a3)) else (hamperlaw06_TokenFinds.j0 k l (l ++ l) m n e r f r false a0 a1 a2 a3)) := by
    intro k m e n f r h1 h2
    unfold hamperlaw06_TokenFinds.f
    simp only [Option.bind_some, List.nil_append, List.length_nil, List.length_append]
    rw [if_pos (by omega), if_pos (by omega), if_pos (by omega), if_pos (by omega)]
    rw [show (l ++ l).take ((l.length : Int)).toNat = l by simp, h1, h2]
    rfl
  by_cases hp : 0 ≤ a0 ∧ a0 ≤ (l.length : Int) ∧ 1 ≤ a1
  · obtain ⟨h0, h1, h2⟩ := hp
    obtain ⟨a, rfl⟩ : ∃ a : Nat, a0 = (a : Int) := ⟨a0.toNat, by omega⟩
    by_cases h3 : 1 ≤ a3
    · obtain ⟨km, hkm⟩ := ref_match_ok l a a1 a3 (by omega) (by omega) hlen
      obtain ⟨m1, m2, hm⟩ : ∃ m1 m2, full l a3 a (min a a1.toNat) = (m1, m2) := ⟨_, _, rfl⟩
      rw [hm] at hkm
      have hM : ∀ k, km ≤ k → tokM.f k l (a : Int) a1 a3 = some (m1, m2, 0) := fun k hk => by
        unfold tokM.f token_Match.f
        rw [if_pos hfit, if_pos hlen, if_neg (by omega), if_neg (by omega), if_neg (by omega), if_neg (by omega), at_rounds (hamperref06_Match.mono _ _ _ _) hk hkm]
        rfl
      by_cases h4 : 1 ≤ a2 ∧ a2 ≤ a3
      · obtain ⟨kp, suf, hkp, ht⟩ := parse_ok l a1 a2 a3 h2 h4.1 hl (l.length - a) a [] rfl (by omega) (by simp)
        have hkp' : hamperref06_Parse.f kp l (a : Int) a1 a2 a3 = some suf := by
          unfold hamperref06_Parse.f
          simpa using hkp
        have hsl := toks_length h4.1 suf a ht
        have hP : ∀ k, kp ≤ k → tokP.f k l (a : Int) a1 a2 a3 = some (suf, 0) := fun k hk => by
          unfold tokP.f token_Parse.f
          rw [if_pos hfit, if_pos hlen, if_neg (by omega), if_neg (by omega), if_neg (by omega), if_neg (by omega), if_neg (by omega), at_rounds (hamperref06_Parse.mono _ _ _ _ _) hk hkp']
          rfl
        obtain ⟨N, hN⟩ : ∃ N, N = km + kp + suf.length + 1 := ⟨_, rfl⟩
        refine ⟨N + suf.length + 1 + 1 + 1 + 1 + 1 + 1, ?_⟩
        rw [key _ _ _ _ _ _ (hM _ (by omega)) (hP _ (by omega)), if_pos (by omega), if_pos h1, decide_eq_true h2]
        simp only [hamperlaw06_TokenFinds.j0, if_true]
        rw [decide_eq_true h3]
        simp only [hamperlaw06_TokenFinds.j1, if_true]
        rw [at_rounds (hamperref06_Match.mono _ _ _ _) (k := km) (by omega) hkm, Option.bind_some, if_pos rfl, if_pos rfl]
        simp only [hamperlaw06_TokenFinds.j2, if_true]
        rw [if_neg (by omega), decide_eq_false (by omega)]
        simp only [hamperlaw06_TokenFinds.j3]
        rw [if_neg (by simp), at_rounds (hamperref06_Parse.mono _ _ _ _ _) (k := kp) (by omega) hkp', Option.bind_some, same_ok suf (by omega) _ (by omega), Option.bind_some, if_pos rfl, if_pos trivial, if_pos (by rw [strOfNums_size]; omega), str_two]
        simp only [hamperlaw06_TokenFinds.j4]
        rw [if_neg (by simp)]
        exact finds_l0 suf (by omega) N (by omega) suf.length 0 suf rfl (by omega)
      · have hP : ∀ k, tokP.f k l (a : Int) a1 a2 a3 = some ([], 2) := fun k => by
          unfold tokP.f token_Parse.f
          rw [if_pos hfit, if_pos hlen, if_neg (by omega), if_neg (by omega), if_neg (by omega)]
          by_cases h5 : a2 < 1
          · rw [if_pos h5]
          · rw [if_neg h5, if_pos (by omega)]
        refine ⟨km + 1 + 1 + 1 + 1, ?_⟩
        rw [key _ _ _ _ _ _ (hM _ (by omega)) (hP _), if_pos (by omega), if_pos h1, decide_eq_true h2]
        simp only [hamperlaw06_TokenFinds.j0, if_true]
        rw [decide_eq_true h3]
        simp only [hamperlaw06_TokenFinds.j1, if_true]
        rw [at_rounds (hamperref06_Match.mono _ _ _ _) (k := km) (by omega) hkm, Option.bind_some, if_pos rfl, if_pos rfl]
        simp only [hamperlaw06_TokenFinds.j2, if_true]
        have hj : hamperlaw06_TokenFinds.j3 (km + 1) l (l ++ l) [] 2 [] true (a : Int) a1 a2 a3 = some true := by
          simp [hamperlaw06_TokenFinds.j3, hamperlaw06_names.f]
        by_cases h5 : a2 < 1
        · rw [if_pos h5]
          exact hj
        · rw [if_neg h5, decide_eq_true (show a3 < a2 by omega)]
          exact hj
    · have hM : ∀ k, tokM.f k l (a : Int) a1 a3 = some (0, 0, 2) := fun k => by
        unfold tokM.f token_Match.f
        rw [if_pos hfit, if_pos hlen, if_neg (by omega), if_neg (by omega), if_neg (by omega), if_pos (by omega)]
      have hP : ∀ k, tokP.f k l (a : Int) a1 a2 a3 = some ([], 2) := fun k => by
        unfold tokP.f token_Parse.f
        rw [if_pos hfit, if_pos hlen, if_neg (by omega), if_neg (by omega), if_neg (by omega)]
        by_cases h5 : a2 < 1
        · rw [if_pos h5]
        · rw [if_neg h5, if_pos (by omega)]
      refine ⟨0 + 1 + 1 + 1 + 1, ?_⟩
      rw [key _ _ _ _ _ _ (hM _) (hP _), if_pos (by omega), if_pos h1, decide_eq_true h2]
      simp only [hamperlaw06_TokenFinds.j0, if_true]
      rw [decide_eq_false (show ¬ a3 ≥ 1 by omega)]
      simp only [hamperlaw06_TokenFinds.j1, if_true]
      rw [if_neg (by simp)]
      simp only [hamperlaw06_TokenFinds.j2, if_true]
      have hj : hamperlaw06_TokenFinds.j3 (0 + 1) l (l ++ l) [] 2 [] true (a : Int) a1 a2 a3 = some true := by
        simp [hamperlaw06_TokenFinds.j3, hamperlaw06_names.f]
      by_cases h5 : a2 < 1
      · rw [if_pos h5]
        exact hj
      · rw [if_neg h5, decide_eq_true (show a3 < a2 by omega)]
        exact hj
  · have hM : ∀ k, tokM.f k l a0 a1 a3 = some (0, 0, 2) := fun k => by
      unfold tokM.f token_Match.f
      rw [if_pos hfit, if_pos hlen]
      by_cases c1 : a0 < 0
      · rw [if_pos c1]
      · by_cases c2 : a0 > (l.length : Int)
        · rw [if_neg c1, if_pos c2]
        · rw [if_neg c1, if_neg c2, if_pos (by omega)]
    have hP : ∀ k, tokP.f k l a0 a1 a2 a3 = some ([], 2) := fun k => by
      unfold tokP.f token_Parse.f
      rw [if_pos hfit, if_pos hlen]
      by_cases c1 : a0 < 0
      · rw [if_pos c1]
      · by_cases c2 : a0 > (l.length : Int)
        · rw [if_neg c1, if_pos c2]
        · rw [if_neg c1, if_neg c2, if_pos (by omega)]
    refine ⟨0 + 1 + 1 + 1 + 1, ?_⟩
    have hj : hamperlaw06_TokenFinds.j0 (0 + 1 + 1 + 1 + 1) l (l ++ l) 0 0 2 [] 2 [] false a0 a1 a2 a3 = some true := by
      simp [hamperlaw06_TokenFinds.j0, hamperlaw06_TokenFinds.j1, hamperlaw06_TokenFinds.j2, hamperlaw06_TokenFinds.j3, hamperlaw06_names.f]
    rw [key _ _ _ _ _ _ (hM _) (hP _)]
    by_cases c1 : a0 ≥ 0
    · by_cases c2 : a0 ≤ (l.length : Int)
      · rw [if_pos c1, if_pos c2, decide_eq_false (show ¬ a1 ≥ 1 by omega)]
        exact hj
      · rw [if_pos c1, if_neg c2]
        exact hj
    · rw [if_neg c1]
      exact hj

end Go.Proofs.Ytfefbelglohfdaa
