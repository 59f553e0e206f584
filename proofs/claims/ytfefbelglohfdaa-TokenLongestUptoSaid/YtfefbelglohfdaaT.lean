/-
  The document's tokens.
-/
import Derived.Test.YtfefbelglohfdaaR
import Derived.Test.YtfefbelglohfdaaP
namespace Go.Proofs.Ytfefbelglohfdaa
open Go.RowKit Go.Proofs.YtfefbelglohfdaaW.PrintWords Go.Proofs.YtfefbelglohfdaaW.PrintLast Go.Proofs.YtfefbelglohfdaaW.PrintMore
open PTok (S30)

/-- The tokens of a text from a place on. -/
def Toks (L : List Int) (window least most : Int) : Nat → List S30 → Prop
  | a, [] => a = L.length
  | a, t :: r => a < L.length ∧ ((least ≤ (full L most a (min a window.toNat)).1 ∧ t = ⟨(full L most a (min a window.toNat)).1, (full L most a (min a window.toNat)).2, 0⟩ ∧ Toks L window least most (a + (full L most a (min a window.toNat)).1.toNat) r) ∨
      ((full L most a (min a window.toNat)).1 < least ∧ t = ⟨0, 0, rd L (a : Int)⟩ ∧ Toks L window least most (a + 1) r))

theorem parse_ok (L : List Int) (window least most : Int) (hw : 1 ≤ window) (hl : 1 ≤ least) (hL : L.length ≤ 1048576) : ∀ (j a : Nat) (x : List S30), j = L.length - a → a ≤ L.length → x.length ≤ a →
    ∃ k suf, PTok.hamperref06_Parse.l0 k L window least most x (a : Int) = some (x ++ suf) ∧ Toks L window least most a suf := by
  intro j
  induction j using Nat.strongRecOn with
  | _ j ih =>
    intro a x hj ha hx
    by_cases c : a < L.length
    · obtain ⟨k1, h1⟩ := ref_match_ok L a window most (by omega) ha (by omega)
      have hle := full_le L most a (min a window.toNat)
      by_cases c2 : least ≤ (full L most a (min a window.toNat)).1
      · obtain ⟨m, hm⟩ : ∃ m : Nat, (full L most a (min a window.toNat)).1 = (m : Int) := ⟨(full L most a (min a window.toNat)).1.toNat, by omega⟩
        obtain ⟨k2, suf, h2, ht⟩ := ih (L.length - (a + m)) (by omega) (a + m) (x ++ [⟨(full L most a (min a window.toNat)).1, (full L most a (min a window.toNat)).2, 0⟩]) rfl (by omega) (by simp; omega)
        refine ⟨max k1 k2 + 1, ⟨(full L most a (min a window.toNat)).1, (full L most a (min a window.toNat)).2, 0⟩ :: suf, ?_, c, Or.inl ⟨c2, rfl, by rw [hm, Int.toNat_natCast]; exact ht⟩⟩
        unfold PTok.hamperref06_Parse.l0
        rw [if_pos (by omega), at_rounds (PTok.hamperref06_Match.mono L a window most) (Nat.le_max_left k1 k2) h1, Option.bind_some, if_pos c2, if_pos (by omega), hm, w64 (by omega) (by omega), show (a : Int) + (m : Int) = ((a + m : Nat) : Int) by omega]
        rw [hm] at h2
        rw [at_rounds (g := fun k => PTok.hamperref06_Parse.l0 k L window least most _ _) (fun k => PTok.hamperref06_Parse.mono_l k _ _ _ _ _ _) (Nat.le_max_right k1 k2) h2]
        simp
      · obtain ⟨k2, suf, h2, ht⟩ := ih (L.length - (a + 1)) (by omega) (a + 1) (x ++ [⟨0, 0, rd L (a : Int)⟩]) rfl (by omega) (by simp; omega)
        refine ⟨max k1 k2 + 1, ⟨0, 0, rd L (a : Int)⟩ :: suf, ?_, c, Or.inr ⟨by omega, rfl, ht⟩⟩
        unfold PTok.hamperref06_Parse.l0
        rw [if_pos (by omega), at_rounds (PTok.hamperref06_Match.mono L a window most) (Nat.le_max_left k1 k2) h1, Option.bind_some, if_neg c2, if_pos (by omega), if_pos (by omega), w64 (by omega) (by omega), show (a : Int) + 1 = ((a + 1 : Nat) : Int) by omega]
        rw [at_rounds (g := fun k => PTok.hamperref06_Parse.l0 k L window least most _ _) (fun k => PTok.hamperref06_Parse.mono_l k _ _ _ _ _ _) (Nat.le_max_right k1 k2) h2]
        simp
    · refine ⟨1, [], ?_, by show a = L.length; omega⟩
      unfold PTok.hamperref06_Parse.l0
      rw [if_neg (by omega)]
      simp

theorem toks_length {L : List Int} {window least most : Int} (hl : 1 ≤ least) : ∀ (r : List S30) (a : Nat), Toks L window least most a r → a + r.length ≤ L.length
  | [], a, h => by
    have h' : a = L.length := h
    simp [h']
  | t :: r, a, h => by
    obtain ⟨_, ⟨h1, _, h3⟩ | ⟨_, _, h3⟩⟩ := h
    · have := toks_length hl r _ h3
      simp only [List.length_cons]
      omega
    · have := toks_length hl r _ h3
      simp only [List.length_cons]
      omega

theorem same_l0 (r : List S30) (hr : r.length ≤ 1048576) : ∀ j i : Nat, i + j = r.length → PTok.hamperlaw06_same.l0 (j + 1) r r (i : Int) = some true
  | 0, i, h => by
    unfold PTok.hamperlaw06_same.l0
    rw [if_neg (by omega)]
  | j + 1, i, h => by
    unfold PTok.hamperlaw06_same.l0
    rw [if_pos (by omega), if_pos (by omega), if_pos (by omega), if_neg (by simp), w64 (by omega) (by omega), show (i : Int) + 1 = ((i + 1 : Nat) : Int) by omega]
    exact same_l0 r hr j (i + 1) (by omega)
theorem same_ok (r : List S30) (hr : r.length ≤ 1048576) (k : Nat) (hk : r.length + 1 ≤ k) : PTok.hamperlaw06_same.f k r r = some true := by
  refine at_rounds (PTok.hamperlaw06_same.mono r r) hk ?_
  unfold PTok.hamperlaw06_same.f
  rw [if_pos rfl]
  exact same_l0 r hr r.length 0 (by omega)

end Go.Proofs.Ytfefbelglohfdaa
