/-
  TokenFinds, as the printer of the kit writes it over the two answers of Pa.
-/
import Derived.Test.YtfefbelglohfdaaPc
namespace Go.Proofs.Ytfefbelglohfdaa.PTok
open Go.RowKit Go.Proofs.YtfefbelglohfdaaW.PrintWords Go.Proofs.YtfefbelglohfdaaW.PrintLast Go.Proofs.YtfefbelglohfdaaW.PrintMore
attribute [local go_sem] max2_int min2_int max_two min_two max_three min_three max_four min_four   -- for this text's answers alone
set_option linter.unusedVariables false
set_option linter.unusedSimpArgs false

/-! ### hamperlaw06_TokenFinds: function 4 -/
mutual
def hamperlaw06_TokenFinds.j0 : Nat → List Int → List Int → Int → Int → Int → List (S30) → Int → List (S30) → Bool → Int → Int → Int → Int → Option (Bool)
  | 0, _, _, _, _, _, _, _, _, _, _, _, _, _ => none
  | k + 1, x0, x5, x7, x8, x9, x10, x11, x12, x14, x126000, x126001, x126002, x126003 => if x14 = true then (hamperlaw06_TokenFinds.j1 k x0 x5 x7 x8 x9 x10 x11 x12 x14 (decide (x126003 ≥ 1)) x126000 x126001 x126002 x126003) else (hamperlaw06_TokenFinds.j1 k x0 x5 x7 x8 x9 x10 x11 x12 x14 false x126000 x126001 x126002 x126003)
def hamperlaw06_TokenFinds.j1 : Nat → List Int → List Int → Int → Int → Int → List (S30) → Int → List (S30) → Bool → Bool → Int → Int → Int → Int → Option (Bool)
  | 0, _, _, _, _, _, _, _, _, _, _, _, _, _, _ => none
  | k + 1, x0, x5, x7, x8, x9, x10, x11, x12, x14, x86, x126000, x126001, x126002, x126003 => if x86 = true then ((hamperref06_Match.f k x0 x126000 x126001 x126003).bind fun bt150 => (if x7 = bt150.1 then (if x8 = bt150.2 then (if x9 = 0 then (hamperlaw06_TokenFinds.j2 k x0 x5 x10 x11 x12 x14 x126000 x126001 x126002 x126003) else (some false)) else (some false)) else (some false))) else (if x7 = 0 then (if x8 = 0 then (if x9 = 2 then (hamperlaw06_TokenFinds.j2 k x0 x5 x10 x11 x12 x14 x126000 x126001 x126002 x126003) else (some false)) else (some false)) else (some false))
def hamperlaw06_TokenFinds.j2 : Nat → List Int → List Int → List (S30) → Int → List (S30) → Bool → Int → Int → Int → Int → Option (Bool)
  | 0, _, _, _, _, _, _, _, _, _, _ => none
  | k + 1, x0, x5, x10, x11, x12, x14, x126000, x126001, x126002, x126003 => if x14 = true then (if x126002 < 1 then (hamperlaw06_TokenFinds.j3 k x0 x5 x10 x11 x12 true x126000 x126001 x126002 x126003) else (hamperlaw06_TokenFinds.j3 k x0 x5 x10 x11 x12 (decide (x126003 < x126002)) x126000 x126001 x126002 x126003)) else (hamperlaw06_TokenFinds.j3 k x0 x5 x10 x11 x12 true x126000 x126001 x126002 x126003)
def hamperlaw06_TokenFinds.j3 : Nat → List Int → List Int → List (S30) → Int → List (S30) → Bool → Int → Int → Int → Int → Option (Bool)
  | 0, _, _, _, _, _, _, _, _, _, _ => none
  | k + 1, x0, x5, x10, x11, x12, x133, x126000, x126001, x126002, x126003 => if x133 = true then (if (x10.length : Int) = 0 then (if x11 = 2 then ((hamperlaw06_names.f).bind fun t152 => (some t152)) else (some false)) else (some false)) else ((hamperref06_Parse.f k x0 x126000 x126001 x126002 x126003).bind fun t153 => ((hamperlaw06_same.f k x10 t153).bind fun t156 => (if t156 = true then (if x11 = 0 then (if (strOfNums x0).size + (strOfNums x0).size ≤ 9223372036854775807 then (hamperlaw06_TokenFinds.j4 k x10 x12 t153 ((strOfNums x5).toList != ((strOfNums x0) ++ (strOfNums x0)).toList)) else (none)) else (hamperlaw06_TokenFinds.j4 k x10 x12 t153 true)) else (hamperlaw06_TokenFinds.j4 k x10 x12 t153 true))))
def hamperlaw06_TokenFinds.j4 : Nat → List (S30) → List (S30) → List (S30) → Bool → Option (Bool)
  | 0, _, _, _, _ => none
  | k + 1, x10, x12, x17, x171 => if x171 = true then (some false) else (hamperlaw06_TokenFinds.l0 k x10 x12 x17 0)
def hamperlaw06_TokenFinds.l0 : Nat → List (S30) → List (S30) → List (S30) → Int → Option (Bool)
  | 0, _, _, _, _ => none
  | k + 1, x10, x12, x17, x18 => if x18 < (x10.length : Int) then (if 0 ≤ x18 then (hamperlaw06_TokenFinds.l0 k (x10.set (x18 : Int).toNat (⟨(-1), (rd_T30 x10 x18).f1, (rd_T30 x10 x18).f2⟩ : S30)) x12 x17 (wrap64 (x18 + 1))) else (none)) else ((hamperlaw06_same.f k x12 x17).bind fun t158 => (if t158 = true then ((hamperlaw06_names.f).bind fun t159 => (some t159)) else (some false)))
end
def hamperlaw06_TokenFinds.f (k : Nat) (l0 : List Int) (a1_0 : Int) (a1_1 : Int) (a1_2 : Int) (a1_3 : Int) : Option (Bool) := (some (([] : List Int) : List Int)).bind fun y126 => (if y126.length + l0.length < 140737488355328 then ((some (y126 ++ l0 : List Int)).bind fun y129 => (if y129.length + l0.length < 140737488355328 then ((some (y129 ++ l0 : List Int)).bind fun y132 => (if 0 ≤ (l0.length : Int) then (if (l0.length : Int) ≤ (y132.length : Int) then ((some (y132.take ((l0.length : Int) : Int).toNat : List Int)).bind fun y135 => ((tokM.f k y135 a1_0 a1_1 a1_3).bind fun bt139 => ((tokP.f k y135 a1_0 a1_1 a1_2 a1_3).bind fun bt142 => ((tokP.f k y135 a1_0 a1_1 a1_2 a1_3).bind fun bt146 => (if a1_0 ≥ 0 then (if a1_0 ≤ (l0.length : Int) then (hamperlaw06_TokenFinds.j0 k l0 y132 bt139.1 bt139.2.1 bt139.2.2 bt142.1 bt142.2 bt146.1 (decide (a1_1 ≥ 1)) a1_0 a1_1 a1_2 a1_3) else (hamperlaw06_TokenFinds.j0 k l0 y132 bt139.1 bt139.2.1 bt139.2.2 bt142.1 bt142.2 bt146.1 false a1_0 a1_1 a1_2 a1_3)) else (hamperlaw06_TokenFinds.j0 k l0 y132 bt139.1 bt139.2.1 bt139.2.2 bt142.1 bt142.2 bt146.1 false a1_0 a1_1 a1_2 a1_3)))))) else (none)) else (none))) else (none))) else (none))
theorem hamperlaw06_TokenFinds.mono_l : ∀ k, (∀ y0 y1 y2 y3 y4 y5 y6 y7 y8 y9 y10 y11 y12, LeO (hamperlaw06_TokenFinds.j0 k y0 y1 y2 y3 y4 y5 y6 y7 y8 y9 y10 y11 y12) (hamperlaw06_TokenFinds.j0 (k + 1) y0 y1 y2 y3 y4 y5 y6 y7 y8 y9 y10 y11 y12)) ∧ (∀ y0 y1 y2 y3 y4 y5 y6 y7 y8 y9 y10 y11 y12 y13, LeO (hamperlaw06_TokenFinds.j1 k y0 y1 y2 y3 y4 y5 y6 y7 y8 y9 y10 y11 y12 y13) (hamperlaw06_TokenFinds.j1 (k + 1) y0 y1 y2 y3 y4 y5 y6 y7 y8 y9 y10 y11 y12 y13)) ∧ (∀ y0 y1 y2 y3 y4 y5 y6 y7 y8 y9, LeO (hamperlaw06_TokenFinds.j2 k y0 y1 y2 y3 y4 y5 y6 y7 y8 y9) (hamperlaw06_TokenFinds.j2 (k + 1) y0 y1 y2 y3 y4 y5 y6 y7 y8 y9)) ∧ (∀ y0 y1 y2 y3 y4 y5 y6 y7 y8 y9, LeO (hamperlaw06_TokenFinds.j3 k y0 y1 y2 y3 y4 y5 y6 y7 y8 y9) (hamperlaw06_TokenFinds.j3 (k + 1) y0 y1 y2 y3 y4 y5 y6 y7 y8 y9)) ∧ (∀ y0 y1 y2 y3, LeO (hamperlaw06_TokenFinds.j4 k y0 y1 y2 y3) (hamperlaw06_TokenFinds.j4 (k + 1) y0 y1 y2 y3)) ∧ (∀ y0 y1 y2 y3, LeO (hamperlaw06_TokenFinds.l0 k y0 y1 y2 y3) (hamperlaw06_TokenFinds.l0 (k + 1) y0 y1 y2 y3))
  | 0 => ⟨fun _ _ _ _ _ _ _ _ _ _ _ _ _ r h => by simp [hamperlaw06_TokenFinds.j0] at h, fun _ _ _ _ _ _ _ _ _ _ _ _ _ _ r h => by simp [hamperlaw06_TokenFinds.j1] at h, fun _ _ _ _ _ _ _ _ _ _ r h => by simp [hamperlaw06_TokenFinds.j2] at h, fun _ _ _ _ _ _ _ _ _ _ r h => by simp [hamperlaw06_TokenFinds.j3] at h, fun _ _ _ _ r h => by simp [hamperlaw06_TokenFinds.j4] at h, fun _ _ _ _ r h => by simp [hamperlaw06_TokenFinds.l0] at h⟩
  | k + 1 => by
    obtain ⟨ih0, ih1, ih2, ih3, ih4, ih5⟩ := hamperlaw06_TokenFinds.mono_l k
    refine ⟨?_, ?_, ?_, ?_, ?_, ?_⟩
    · intro y0 y1 y2 y3 y4 y5 y6 y7 y8 y9 y10 y11 y12
      unfold hamperlaw06_TokenFinds.j0
      repeat' first
      | (with_reducible exact ih0 _ _ _ _ _ _ _ _ _ _ _ _ _)
      | (with_reducible exact ih1 _ _ _ _ _ _ _ _ _ _ _ _ _ _)
      | (with_reducible exact ih2 _ _ _ _ _ _ _ _ _ _)
      | (with_reducible exact ih3 _ _ _ _ _ _ _ _ _ _)
      | (with_reducible exact ih4 _ _ _ _)
      | (with_reducible exact ih5 _ _ _ _)
      | (with_reducible exact hamperlaw06_same.mono _ _ _)
      | (with_reducible exact hamperref06_Match.mono _ _ _ _ _)
      | (with_reducible exact hamperref06_Parse.mono _ _ _ _ _ _)
      | (with_reducible exact tokM.mono _ _ _ _ _)
      | (with_reducible exact tokP.mono _ _ _ _ _ _)
      | (with_reducible exact LeO.refl _)
      | (with_reducible exact LeO.none _)
      | (with_reducible refine LeO.ite ?_ ?_)
      | (with_reducible refine LeO.bind ?_ (fun _ => ?_))
      | exact ih0 _ _ _ _ _ _ _ _ _ _ _ _ _
      | exact ih1 _ _ _ _ _ _ _ _ _ _ _ _ _ _
      | exact ih2 _ _ _ _ _ _ _ _ _ _
      | exact ih3 _ _ _ _ _ _ _ _ _ _
      | exact ih4 _ _ _ _
      | exact ih5 _ _ _ _
      | exact hamperlaw06_same.mono _ _ _
      | exact hamperref06_Match.mono _ _ _ _ _
      | exact hamperref06_Parse.mono _ _ _ _ _ _
      | exact tokM.mono _ _ _ _ _
      | exact tokP.mono _ _ _ _ _ _
      | exact LeO.none _
      | refine LeO.ite ?_ ?_
      | refine LeO.bind ?_ (fun _ => ?_)
    · intro y0 y1 y2 y3 y4 y5 y6 y7 y8 y9 y10 y11 y12 y13
      unfold hamperlaw06_TokenFinds.j1
      repeat' first
      | (with_reducible exact ih0 _ _ _ _ _ _ _ _ _ _ _ _ _)
      | (with_reducible exact ih1 _ _ _ _ _ _ _ _ _ _ _ _ _ _)
      | (with_reducible exact ih2 _ _ _ _ _ _ _ _ _ _)
      | (with_reducible exact ih3 _ _ _ _ _ _ _ _ _ _)
      | (with_reducible exact ih4 _ _ _ _)
      | (with_reducible exact ih5 _ _ _ _)
      | (with_reducible exact hamperlaw06_same.mono _ _ _)
      | (with_reducible exact hamperref06_Match.mono _ _ _ _ _)
      | (with_reducible exact hamperref06_Parse.mono _ _ _ _ _ _)
      | (with_reducible exact tokM.mono _ _ _ _ _)
      | (with_reducible exact tokP.mono _ _ _ _ _ _)
      | (with_reducible exact LeO.refl _)
      | (with_reducible exact LeO.none _)
      | (with_reducible refine LeO.ite ?_ ?_)
      | (with_reducible refine LeO.bind ?_ (fun _ => ?_))
      | exact ih0 _ _ _ _ _ _ _ _ _ _ _ _ _
      | exact ih1 _ _ _ _ _ _ _ _ _ _ _ _ _ _
      | exact ih2 _ _ _ _ _ _ _ _ _ _
      | exact ih3 _ _ _ _ _ _ _ _ _ _
      | exact ih4 _ _ _ _
      | exact ih5 _ _ _ _
      | exact hamperlaw06_same.mono _ _ _
      | exact hamperref06_Match.mono _ _ _ _ _
      | exact hamperref06_Parse.mono _ _ _ _ _ _
      | exact tokM.mono _ _ _ _ _
      | exact tokP.mono _ _ _ _ _ _
      | exact LeO.none _
      | refine LeO.ite ?_ ?_
      | refine LeO.bind ?_ (fun _ => ?_)
    · intro y0 y1 y2 y3 y4 y5 y6 y7 y8 y9
      unfold hamperlaw06_TokenFinds.j2
      repeat' first
      | (with_reducible exact ih0 _ _ _ _ _ _ _ _ _ _ _ _ _)
      | (with_reducible exact ih1 _ _ _ _ _ _ _ _ _ _ _ _ _ _)
      | (with_reducible exact ih2 _ _ _ _ _ _ _ _ _ _)
      | (with_reducible exact ih3 _ _ _ _ _ _ _ _ _ _)
      | (with_reducible exact ih4 _ _ _ _)
      | (with_reducible exact ih5 _ _ _ _)
      | (with_reducible exact hamperlaw06_same.mono _ _ _)
      | (with_reducible exact hamperref06_Match.mono _ _ _ _ _)
      | (with_reducible exact hamperref06_Parse.mono _ _ _ _ _ _)
      | (with_reducible exact tokM.mono _ _ _ _ _)
      | (with_reducible exact tokP.mono _ _ _ _ _ _)
      | (with_reducible exact LeO.refl _)
      | (with_reducible exact LeO.none _)
      | (with_reducible refine LeO.ite ?_ ?_)
      | (with_reducible refine LeO.bind ?_ (fun _ => ?_))
      | exact ih0 _ _ _ _ _ _ _ _ _ _ _ _ _
      | exact ih1 _ _ _ _ _ _ _ _ _ _ _ _ _ _
      | exact ih2 _ _ _ _ _ _ _ _ _ _
      | exact ih3 _ _ _ _ _ _ _ _ _ _
      | exact ih4 _ _ _ _
      | exact ih5 _ _ _ _
      | exact hamperlaw06_same.mono _ _ _
      | exact hamperref06_Match.mono _ _ _ _ _
      | exact hamperref06_Parse.mono _ _ _ _ _ _
      | exact tokM.mono _ _ _ _ _
      | exact tokP.mono _ _ _ _ _ _
      | exact LeO.none _
      | refine LeO.ite ?_ ?_
      | refine LeO.bind ?_ (fun _ => ?_)
    · intro y0 y1 y2 y3 y4 y5 y6 y7 y8 y9
      unfold hamperlaw06_TokenFinds.j3
      repeat' first
      | (with_reducible exact ih0 _ _ _ _ _ _ _ _ _ _ _ _ _)
      | (with_reducible exact ih1 _ _ _ _ _ _ _ _ _ _ _ _ _ _)
      | (with_reducible exact ih2 _ _ _ _ _ _ _ _ _ _)
      | (with_reducible exact ih3 _ _ _ _ _ _ _ _ _ _)
      | (with_reducible exact ih4 _ _ _ _)
      | (with_reducible exact ih5 _ _ _ _)
      | (with_reducible exact hamperlaw06_same.mono _ _ _)
      | (with_reducible exact hamperref06_Match.mono _ _ _ _ _)
      | (with_reducible exact hamperref06_Parse.mono _ _ _ _ _ _)
      | (with_reducible exact tokM.mono _ _ _ _ _)
      | (with_reducible exact tokP.mono _ _ _ _ _ _)
      | (with_reducible exact LeO.refl _)
      | (with_reducible exact LeO.none _)
      | (with_reducible refine LeO.ite ?_ ?_)
      | (with_reducible refine LeO.bind ?_ (fun _ => ?_))
      | exact ih0 _ _ _ _ _ _ _ _ _ _ _ _ _
      | exact ih1 _ _ _ _ _ _ _ _ _ _ _ _ _ _
      | exact ih2 _ _ _ _ _ _ _ _ _ _
      | exact ih3 _ _ _ _ _ _ _ _ _ _
      | exact ih4 _ _ _ _
      | exact ih5 _ _ _ _
      | exact hamperlaw06_same.mono _ _ _
      | exact hamperref06_Match.mono _ _ _ _ _
      | exact hamperref06_Parse.mono _ _ _ _ _ _
      | exact tokM.mono _ _ _ _ _
      | exact tokP.mono _ _ _ _ _ _
      | exact LeO.none _
      | refine LeO.ite ?_ ?_
      | refine LeO.bind ?_ (fun _ => ?_)
    · intro y0 y1 y2 y3
      unfold hamperlaw06_TokenFinds.j4
      repeat' first
      | (with_reducible exact ih0 _ _ _ _ _ _ _ _ _ _ _ _ _)
      | (with_reducible exact ih1 _ _ _ _ _ _ _ _ _ _ _ _ _ _)
      | (with_reducible exact ih2 _ _ _ _ _ _ _ _ _ _)
      | (with_reducible exact ih3 _ _ _ _ _ _ _ _ _ _)
      | (with_reducible exact ih4 _ _ _ _)
      | (with_reducible exact ih5 _ _ _ _)
      | (with_reducible exact hamperlaw06_same.mono _ _ _)
      | (with_reducible exact hamperref06_Match.mono _ _ _ _ _)
      | (with_reducible exact hamperref06_Parse.mono _ _ _ _ _ _)
      | (with_reducible exact tokM.mono _ _ _ _ _)
      | (with_reducible exact tokP.mono _ _ _ _ _ _)
      | (with_reducible exact LeO.refl _)
      | (with_reducible exact LeO.none _)
      | (with_reducible refine LeO.ite ?_ ?_)
      | (with_reducible refine LeO.bind ?_ (fun _ => ?_))
      | exact ih0 _ _ _ _ _ _ _ _ _ _ _ _ _
      | exact ih1 _ _ _ _ _ _ _ _ _ _ _ _ _ _
      | exact ih2 _ _ _ _ _ _ _ _ _ _
      | exact ih3 _ _ _ _ _ _ _ _ _ _
      | exact ih4 _ _ _ _
      | exact ih5 _ _ _ _
      | exact hamperlaw06_same.mono _ _ _
      | exact hamperref06_Match.mono _ _ _ _ _
      | exact hamperref06_Parse.mono _ _ _ _ _ _
      | exact tokM.mono _ _ _ _ _
      | exact tokP.mono _ _ _ _ _ _
      | exact LeO.none _
      | refine LeO.ite ?_ ?_
      | refine LeO.bind ?_ (fun _ => ?_)
    · intro y0 y1 y2 y3
      unfold hamperlaw06_TokenFinds.l0
      repeat' first
      | (with_reducible exact ih0 _ _ _ _ _ _ _ _ _ _ _ _ _)
      | (with_reducible exact ih1 _ _ _ _ _ _ _ _ _ _ _ _ _ _)
      | (with_reducible exact ih2 _ _ _ _ _ _ _ _ _ _)
      | (with_reducible exact ih3 _ _ _ _ _ _ _ _ _ _)
      | (with_reducible exact ih4 _ _ _ _)
      | (with_reducible exact ih5 _ _ _ _)
      | (with_reducible exact hamperlaw06_same.mono _ _ _)
      | (with_reducible exact hamperref06_Match.mono _ _ _ _ _)
      | (with_reducible exact hamperref06_Parse.mono _ _ _ _ _ _)
      | (with_reducible exact tokM.mono _ _ _ _ _)
      | (with_reducible exact tokP.mono _ _ _ _ _ _)
      | (with_reducible exact LeO.refl _)
      | (with_reducible exact LeO.none _)
      | (with_reducible refine LeO.ite ?_ ?_)
      | (with_reducible refine LeO.bind ?_ (fun _ => ?_))
      | exact ih0 _ _ _ _ _ _ _ _ _ _ _ _ _
      | exact ih1 _ _ _ _ _ _ _ _ _ _ _ _ _ _
      | exact ih2 _ _ _ _ _ _ _ _ _ _
      | exact ih3 _ _ _ _ _ _ _ _ _ _
      | exact ih4 _ _ _ _
      | exact ih5 _ _ _ _
      | exact hamperlaw06_same.mono _ _ _
      | exact hamperref06_Match.mono _ _ _ _ _
      | exact hamperref06_Parse.mono _ _ _ _ _ _
      | exact tokM.mono _ _ _ _ _
      | exact tokP.mono _ _ _ _ _ _
      | exact LeO.none _
      | refine LeO.ite ?_ ?_
      | refine LeO.bind ?_ (fun _ => ?_)
theorem hamperlaw06_TokenFinds.mono : ∀ a0 a1 a2 a3 a4 k, LeO (hamperlaw06_TokenFinds.f k a0 a1 a2 a3 a4) (hamperlaw06_TokenFinds.f (k + 1) a0 a1 a2 a3 a4) := by
  intro a0 a1 a2 a3 a4 k
  obtain ⟨ih0, ih1, ih2, ih3, ih4, ih5⟩ := hamperlaw06_TokenFinds.mono_l k
  unfold hamperlaw06_TokenFinds.f
  repeat' first
      | (with_reducible exact ih0 _ _ _ _ _ _ _ _ _ _ _ _ _)
      | (with_reducible exact ih1 _ _ _ _ _ _ _ _ _ _ _ _ _ _)
      | (with_reducible exact ih2 _ _ _ _ _ _ _ _ _ _)
      | (with_reducible exact ih3 _ _ _ _ _ _ _ _ _ _)
      | (with_reducible exact ih4 _ _ _ _)
      | (with_reducible exact ih5 _ _ _ _)
      | (with_reducible exact hamperlaw06_same.mono _ _ _)
      | (with_reducible exact hamperref06_Match.mono _ _ _ _ _)
      | (with_reducible exact hamperref06_Parse.mono _ _ _ _ _ _)
      | (with_reducible exact tokM.mono _ _ _ _ _)
      | (with_reducible exact tokP.mono _ _ _ _ _ _)
      | (with_reducible exact LeO.refl _)
      | (with_reducible exact LeO.none _)
      | (with_reducible refine LeO.ite ?_ ?_)
      | (with_reducible refine LeO.bind ?_ (fun _ => ?_))
      | exact ih0 _ _ _ _ _ _ _ _ _ _ _ _ _
      | exact ih1 _ _ _ _ _ _ _ _ _ _ _ _ _ _
      | exact ih2 _ _ _ _ _ _ _ _ _ _
      | exact ih3 _ _ _ _ _ _ _ _ _ _
      | exact ih4 _ _ _ _
      | exact ih5 _ _ _ _
      | exact hamperlaw06_same.mono _ _ _
      | exact hamperref06_Match.mono _ _ _ _ _
      | exact hamperref06_Parse.mono _ _ _ _ _ _
      | exact tokM.mono _ _ _ _ _
      | exact tokP.mono _ _ _ _ _ _
      | exact LeO.none _
      | refine LeO.ite ?_ ?_
      | refine LeO.bind ?_ (fun _ => ?_)
end Go.Proofs.Ytfefbelglohfdaa.PTok
