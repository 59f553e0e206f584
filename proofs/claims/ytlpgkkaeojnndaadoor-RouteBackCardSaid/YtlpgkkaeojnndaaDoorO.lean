/-
  The order of paths in plain lists: texts by their bytes, paths name by name.
-/
import Derived.Test.YtlpgkkaeojnndaaDoorS
import Derived.Laws.Strings
import Derived.Lib.Strings
namespace Go.Proofs.YtlpgkkaeojnndaaDoor

theorem less_irr : ∀ a : List UInt8, Op.bytesLess a a = false
  | [] => rfl
  | c :: a => by
    rw [Op.bytesLess, less_irr a]
    simp

theorem less_total : ∀ a b : List UInt8, Op.bytesLess a b = false → Op.bytesLess b a = false → a = b
  | [], [], _, _ => rfl
  | [], _ :: _, h, _ => by simp [Op.bytesLess] at h
  | _ :: _, [], _, h => by simp [Op.bytesLess] at h
  | c :: a, d :: b, h, k => by
    simp only [Op.bytesLess, Bool.or_eq_false_iff, decide_eq_false_iff_not, Bool.and_eq_false_imp, beq_iff_eq] at h k
    have e : c = d := UInt8.le_antisymm (UInt8.not_lt.1 k.1) (UInt8.not_lt.1 h.1)
    subst e
    rw [less_total a b (h.2 rfl) (k.2 rfl)]

theorem less_asym : ∀ a b : List UInt8, Op.bytesLess a b = true → Op.bytesLess b a = false
  | [], [], h => by simp [Op.bytesLess] at h
  | [], _ :: _, _ => by simp [Op.bytesLess]
  | _ :: _, [], h => by simp [Op.bytesLess] at h
  | c :: a, d :: b, h => by
    simp only [Op.bytesLess, Bool.or_eq_true, decide_eq_true_eq, Bool.and_eq_true, beq_iff_eq] at h
    simp only [Op.bytesLess, Bool.or_eq_false_iff, decide_eq_false_iff_not, Bool.and_eq_false_imp, beq_iff_eq]
    rcases h with h | ⟨rfl, h⟩
    · exact ⟨fun k => UInt8.lt_irrefl _ (UInt8.lt_trans h k), fun e => by subst e; exact absurd h (UInt8.lt_irrefl _)⟩
    · exact ⟨UInt8.lt_irrefl _, fun _ => less_asym a b h⟩

theorem less_trans : ∀ a b c : List UInt8, Op.bytesLess a b = true → Op.bytesLess b c = true → Op.bytesLess a c = true
  | [], [], _, h, _ => by simp [Op.bytesLess] at h
  | [], _ :: _, [], _, k => by simp [Op.bytesLess] at k
  | [], _ :: _, _ :: _, _, _ => by simp [Op.bytesLess]
  | _ :: _, [], _, h, _ => by simp [Op.bytesLess] at h
  | _ :: _, _ :: _, [], _, k => by simp [Op.bytesLess] at k
  | x :: a, y :: b, z :: c, h, k => by
    simp only [Op.bytesLess, Bool.or_eq_true, decide_eq_true_eq, Bool.and_eq_true, beq_iff_eq] at h k ⊢
    rcases h with h | ⟨rfl, h⟩
    · rcases k with k | ⟨rfl, k⟩
      · exact .inl (UInt8.lt_trans h k)
      · exact .inl h
    · rcases k with k | ⟨rfl, k⟩
      · exact .inl k
      · exact .inr ⟨rfl, less_trans a b c h k⟩

/-- Two texts in order. -/
def cmpS (a b : List UInt8) : Int := if Op.bytesLess a b = true then -1 else if Op.bytesLess b a = true then 1 else 0

theorem cmpS_cases (a b : List UInt8) : (cmpS a b = -1 ∧ Op.bytesLess a b = true ∧ Op.bytesLess b a = false) ∨ (cmpS a b = 1 ∧ Op.bytesLess a b = false ∧ Op.bytesLess b a = true) ∨ (cmpS a b = 0 ∧ a = b) := by
  unfold cmpS
  cases h : Op.bytesLess a b with
  | true => exact .inl ⟨by simp, rfl, less_asym a b h⟩
  | false =>
    cases k : Op.bytesLess b a with
    | true => exact .inr (.inl ⟨by simp, rfl, rfl⟩)
    | false => exact .inr (.inr ⟨by simp, less_total a b h k⟩)

theorem cmpS_self (a : List UInt8) : cmpS a a = 0 := by unfold cmpS; rw [less_irr]; simp

theorem cmpS_neg (a b : List UInt8) : cmpS a b = -cmpS b a := by
  rcases cmpS_cases a b with ⟨h, h1, h2⟩ | ⟨h, h1, h2⟩ | ⟨h, rfl⟩
  · rw [h]; unfold cmpS; rw [h1, h2]; simp
  · rw [h]; unfold cmpS; rw [h1, h2]; simp
  · rw [cmpS_self]; simp

/-- Two lists of names in order. -/
def cmpL : List (List UInt8) → List (List UInt8) → Int
  | [], [] => 0
  | [], _ :: _ => -1
  | _ :: _, [] => 1
  | x :: xs, y :: ys => if cmpS x y = 0 then cmpL xs ys else cmpS x y

theorem cmpL_self : ∀ a, cmpL a a = 0
  | [] => rfl
  | x :: a => by rw [cmpL, if_pos (cmpS_self x), cmpL_self a]

theorem cmpL_neg : ∀ a b, cmpL a b = -cmpL b a
  | [], [] => rfl
  | [], _ :: _ => rfl
  | _ :: _, [] => rfl
  | x :: a, y :: b => by
    have h := cmpS_neg x y
    have ih := cmpL_neg a b
    rw [cmpL, cmpL]
    by_cases e : cmpS x y = 0
    · rw [if_pos e, if_pos (by omega), ih]
    · rw [if_neg e, if_neg (by omega), h]

theorem cmpL_eq : ∀ a b, cmpL a b = 0 → a = b
  | [], [], _ => rfl
  | [], _ :: _, h => by simp [cmpL] at h
  | _ :: _, [], h => by simp [cmpL] at h
  | x :: a, y :: b, h => by
    rw [cmpL] at h
    by_cases e : cmpS x y = 0
    · rw [if_pos e] at h
      rw [cmpL_eq a b h]
      rcases cmpS_cases x y with ⟨k, _⟩ | ⟨k, _⟩ | ⟨_, k⟩
      · omega
      · omega
      · rw [k]
    · rw [if_neg e] at h
      exact absurd h e

theorem cmpL_bd : ∀ a b, -1 ≤ cmpL a b ∧ cmpL a b ≤ 1
  | [], [] => by decide
  | [], _ :: _ => by simp [cmpL]
  | _ :: _, [] => by simp [cmpL]
  | x :: a, y :: b => by
    rw [cmpL]
    split
    · exact cmpL_bd a b
    · rcases cmpS_cases x y with ⟨k, _⟩ | ⟨k, _⟩ | ⟨k, _⟩ <;> omega

theorem cmpL_trans : ∀ a b c, cmpL a b ≤ 0 → cmpL b c ≤ 0 → cmpL a c ≤ 0
  | [], _, [], _, _ => by simp [cmpL]
  | [], _, _ :: _, _, _ => by simp [cmpL]
  | _ :: _, [], _, h, _ => by simp [cmpL] at h
  | _ :: _, _ :: _, [], _, k => by simp [cmpL] at k
  | x :: a, y :: b, z :: c, h, k => by
    rw [cmpL] at h k ⊢
    rcases cmpS_cases x y with ⟨h1, h2, _⟩ | ⟨h1, _⟩ | ⟨h1, rfl⟩
    · rcases cmpS_cases y z with ⟨k1, k2, _⟩ | ⟨k1, _⟩ | ⟨k1, rfl⟩
      · have := less_trans x y z h2 k2
        have e : cmpS x z = -1 := by unfold cmpS; rw [this]; simp
        rw [e]
        simp
      · rw [k1] at k
        simp at k
      · rw [h1]
        simp
    · rw [h1] at h
      simp at h
    · rw [if_pos h1] at h
      by_cases e : cmpS x z = 0
      · rw [if_pos e] at k ⊢
        exact cmpL_trans a b c h k
      · rw [if_neg e] at k ⊢
        exact k

/-- What stands between a path and one that goes on from it goes on from it, too. -/
theorem cmpL_between : ∀ a b q, cmpL a b < 0 → cmpL b (a ++ q) < 0 → ∃ r, r ≠ [] ∧ b = a ++ r
  | [], [], _, h, _ => by simp [cmpL] at h
  | [], y :: b, _, _, _ => ⟨y :: b, by simp, rfl⟩
  | x :: a, [], _, h, _ => by simp [cmpL] at h
  | x :: a, y :: b, q, h, k => by
    rw [List.cons_append] at k
    rw [cmpL] at h k
    have hn := cmpS_neg x y
    rcases cmpS_cases x y with ⟨h1, _⟩ | ⟨h1, _⟩ | ⟨h1, rfl⟩
    · rw [if_neg (by omega)] at k
      omega
    · rw [if_neg (by omega)] at h
      omega
    · rw [if_pos h1] at h k
      obtain ⟨r, hr, e⟩ := cmpL_between a b q h k
      exact ⟨r, hr, by rw [e]; rfl⟩

theorem pieces_append : ∀ a r : List UInt8, pieces (a ++ 47 :: r) = pieces a ++ pieces r
  | [], r => pieces_slash r
  | c :: a, r => by
    have ih := pieces_append a r
    obtain ⟨p, ps, h⟩ := pieces_cons a
    rw [h] at ih
    by_cases hc : c = 47
    · subst hc
      rw [List.cons_append, pieces_slash, pieces_slash, ih, h]
      rfl
    · rw [List.cons_append, pieces_other hc h, pieces_other hc (ih.trans rfl)]
      rfl

theorem join_append : ∀ a b : List (List UInt8), a ≠ [] → b ≠ [] → Lib.join (a ++ b) [47] = Lib.join a [47] ++ 47 :: Lib.join b [47]
  | [], _, h, _ => absurd rfl h
  | [x], [], _, h => absurd rfl h
  | [x], y :: b, _, _ => by
    show Lib.join (x :: y :: b) [47] = _
    rw [join_cons2, Lib.join_one]
  | x :: y :: a, b, _, h => by
    show Lib.join (x :: y :: (a ++ b)) [47] = _
    rw [join_cons2, join_cons2, show y :: (a ++ b) = (y :: a) ++ b from rfl, join_append (y :: a) b (by simp) h]
    simp

/-- One path lies in another. -/
def inP (s f : List UInt8) : Prop := validL s ∧ validL f ∧ ∃ q, q ≠ [] ∧ pieces s = pieces f ++ q

theorem prefix_slash (s f : List UInt8) : Lib.hasPrefix s (f ++ [47]) = true ↔ ∃ q, q ≠ [] ∧ pieces s = pieces f ++ q := by
  unfold Lib.hasPrefix
  rw [List.isPrefixOf_iff_prefix]
  constructor
  · rintro ⟨r, rfl⟩
    refine ⟨pieces r, ?_, ?_⟩
    · obtain ⟨p, ps, h⟩ := pieces_cons r
      rw [h]; simp
    · rw [List.append_assoc]
      exact pieces_append f r
  · rintro ⟨q, hq, h⟩
    have hf : pieces f ≠ [] := by
      obtain ⟨p, ps, h⟩ := pieces_cons f
      rw [h]; simp
    have e := join_append (pieces f) q hf hq
    rw [← h, join_pieces, join_pieces] at e
    exact ⟨Lib.join q [47], by rw [e]; simp⟩

open Classical in
noncomputable def withinB (s f : ByteArray) : Bool := decide (inP s.data.toList f.data.toList)
open Classical in
theorem within_yes {s f : ByteArray} (h : inP s.data.toList f.data.toList) : withinB s f = true := by unfold withinB; exact decide_eq_true h
open Classical in
theorem within_not {s f : ByteArray} (h : ¬ inP s.data.toList f.data.toList) : withinB s f = false := by unfold withinB; exact decide_eq_false h

/-- The order of two texts, as paths. -/
def cmpB (a b : ByteArray) : Int := cmpL (pieces a.data.toList) (pieces b.data.toList)

end Go.Proofs.YtlpgkkaeojnndaaDoor
