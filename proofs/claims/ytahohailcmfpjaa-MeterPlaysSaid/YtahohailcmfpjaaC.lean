/-
  MeterBounds' walk: under any calls nothing of a kind passes its bound, and behind the first refusal all is refused.
-/
import Derived.Test.YtahohailcmfpjaaK
import Derived.Test.YtahohailcmfpjaaO
import Derived.Deep.LoopGhost
import Derived.Deep.DeepCutAuto
import Derived.StillTailTactics
namespace Go.Proofs.Ytahohailcmfpjaa
open Go.RowKit

/-- A meter's state under the quota that v tells. -/
def Good (v u : Nat → U) : Prop := ∀ k, k < 5 → (u k).b = (v k).b ∧ 0 ≤ (u k).n ∧ (u k).n ≤ (u k).m ∧ (u k).m ≤ (u k).b ∧ (u k).b ≤ 9223372036854775807

theorem Good.upd {v u : Nat → U} (h : Good v u) {k : Nat} {n m : Int} (hk : k < 5) (h0 : 0 ≤ n) (h1 : n ≤ m) (h2 : m ≤ (u k).b) : Good v (upd u k ⟨(u k).b, n, m⟩) := by
  intro j hj
  unfold Ytahohailcmfpjaa.upd
  by_cases e : j = k
  · subst e
    rw [if_pos rfl]
    have := h j hj
    exact ⟨this.1, h0, h1, h2, this.2.2.2.2⟩
  · rw [if_neg e]
    exact h j hj

section
variable {w : World} {b : Nat} {ov : Bool} {u v : Nat → U}

/-- Whatever is asked of a meter that is used up. -/
theorem use_spent (hM : Meter w b true true u) (hG : Good v u) (kind n : Int) :
    Calls Try.prog 8 #[.pointer (some ⟨b, 0, none⟩), .int .i64 kind, .int .i64 n] w fun e w' => (e = .returned (.int .i64 2) ∨ e = .returned (.int .i64 40)) ∧ Meter w' b true true u ∧ Only b w w' := by
  by_cases hk : ¬ (0 ≤ kind ∧ kind < 5) ∨ n < 0
  · exact (use_arg hM hk).mono fun e w' ⟨he, hw⟩ => ⟨.inl he, hw ▸ hM, hw ▸ Only.refl b w⟩
  · obtain ⟨k, rfl⟩ : ∃ k : Nat, kind = k := ⟨kind.toNat, by omega⟩
    have hg := hG k (by omega)
    exact (use_more hM (by omega) (by omega) hg.2.1 (by omega) hg.2.2.2.2 (.inl rfl)).mono fun e w' ⟨he, hm, ho⟩ => ⟨.inr he, hm, ho⟩

/-- Whatever is asked of a meter that is not used up. -/
theorem use_fresh (hM : Meter w b true false u) (hG : Good v u) (kind n : Int) :
    Calls Try.prog 8 #[.pointer (some ⟨b, 0, none⟩), .int .i64 kind, .int .i64 n] w fun e w' => ∃ u', Good v u' ∧ Only b w w' ∧
      ((e = .returned (.int .i64 0) ∧ Meter w' b true false u') ∨ (e = .returned (.int .i64 2) ∧ Meter w' b true false u') ∨ (e = .returned (.int .i64 40) ∧ Meter w' b true true u')) := by
  by_cases hk : ¬ (0 ≤ kind ∧ kind < 5) ∨ n < 0
  · exact (use_arg hM hk).mono fun e w' ⟨he, hw⟩ => ⟨u, hG, hw ▸ Only.refl b w, .inr (.inl ⟨he, hw ▸ hM⟩)⟩
  · obtain ⟨k, rfl⟩ : ∃ k : Nat, kind = k := ⟨kind.toNat, by omega⟩
    have hg := hG k (by omega)
    by_cases hmore : (u k).b - (u k).n < n
    · exact (use_more hM (by omega) (by omega) hg.2.1 (by omega) hg.2.2.2.2 (.inr hmore)).mono fun e w' ⟨he, hm, ho⟩ => ⟨u, hG, ho, .inr (.inr ⟨he, hm⟩)⟩
    · exact (use_ok hM (by omega) (by omega) hg.2.1 (by omega) hg.2.2.2.2).mono fun e w' ⟨he, hm, ho⟩ => ⟨_, hG.upd (by omega) (by omega) (by omega) (by omega), ho, .inl ⟨he, hm⟩⟩

theorem free_any (hM : Meter w b true ov u) (hG : Good v u) (kind n : Int) :
    Calls Try.prog 9 #[.pointer (some ⟨b, 0, none⟩), .int .i64 kind, .int .i64 n] w fun e w' => ∃ u' r, e = .returned (.int .i64 r) ∧ Good v u' ∧ Only b w w' ∧ Meter w' b true ov u' := by
  by_cases hk : ¬ (kind = 2 ∨ kind = 3) ∨ n < 0 ∨ (u kind.toNat).n < n
  · exact (free_arg hM hk).mono fun e w' ⟨he, hw⟩ => ⟨u, 2, he, hG, hw ▸ Only.refl b w, hw ▸ hM⟩
  · obtain ⟨k, rfl⟩ : ∃ k : Nat, kind = k := ⟨kind.toNat, by omega⟩
    rw [Int.toNat_natCast] at hk
    have hg := hG k (by omega)
    exact (free_ok hM (k := k) (by omega) (by omega) (by omega) (by omega)).mono fun e w' ⟨he, hm, ho⟩ => ⟨_, 0, he, hG.upd (by omega) (by omega) (by omega) (by omega), ho, hm⟩

/-- What a kind tells, under names of its own. -/
theorem used_at {k : Nat} {x : U} (hM : Meter w b true ov u) (hk : k < 5) (hx : u k = x) :
    Calls Try.prog 7 #[.pointer (some ⟨b, 0, none⟩), .int .i64 k] w fun e w' => e = .returned (.tuple #[.int .i64 x.n, .int .i64 x.m]) ∧ Meter w' b true ov u ∧ Only b w w' := by
  subst hx
  exact (used_made hM hk).mono fun _ _ ⟨he, x, hx⟩ => ⟨he, by rw [hx]; exact row_drewN hM x, by rw [hx]; exact (Only.refl b w).drewN x⟩

theorem left_at {k : Nat} {x : U} (hM : Meter w b true ov u) (hG : Good v u) (hk : k < 5) (hx : u k = x) :
    Calls Try.prog 10 #[.pointer (some ⟨b, 0, none⟩), .int .i64 k] w fun e w' => e = .returned (.int .i64 (if ov then 0 else x.b - x.n)) ∧ ∃ n, w' = w.drewN n := by
  subst hx
  have hg := hG k hk
  cases ov
  · exact left_in hM hk hg.2.1 (by omega) hg.2.2.2.2
  · exact (left_over hM hk).mono fun e w' ⟨he, hw⟩ => ⟨he, 0, hw ▸ rfl⟩
end

end Go.Proofs.Ytahohailcmfpjaa
