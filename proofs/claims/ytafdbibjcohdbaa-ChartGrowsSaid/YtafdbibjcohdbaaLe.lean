/-
  letters: what the picture's places are called, one behind the other.
-/
import Derived.Test.YtafdbibjcohdbaaBu
import Derived.Lib.Hide
import Derived.Deep.LoopGhost
namespace Go.Proofs.Ytafdbibjcohdbaa
open Go.RowKit

/-- A slice of whole numbers reads as l. -/
def Ints (w : World) (v : Value) (l : List Int) : Prop := ∃ A c, v = .slice A l.length c ∧ l.length ≤ c ∧ (1 ≤ l.length → ∃ g o, A = some ⟨g, o, none⟩ ∧ ∀ (j : Nat) (x : Int), l[j]? = some x → w.cell? ⟨g, o + j, none⟩ = some (.int .i64 x))

theorem neg27 (x : Int) (w : World) : Calls Try.prog 27 #[.int .i64 x] w fun e w' => e = .returned (.bool (decide (x < 0))) ∧ w' = w := by
  go_enter Try.func27, Try.ntmps27
  go_wp2
  go_ret
  exact ⟨rfl, rfl⟩

theorem idx_succ {i n : Nat} (h : i < n) (hn : n ≤ 9223372036854775807) : wrap64 ((i : Int) + 1) = (i : Int) + 1 := by unfold wrap64; omega

set_option maxHeartbeats 1000000 in
theorem index_neg (v : Value) (l : List Int) (hl : l.length ≤ 9223372036854775807) (w : World) (h : Ints w v l) :
    Calls Try.prog 34 #[v, .func (.func 27) #[] #[]] w fun e w' => (∃ r : Int, e = .returned (.int .i64 r) ∧ (0 ≤ r ↔ ∃ x ∈ l, x < 0)) ∧ w' = w := by
  obtain ⟨A, c, rfl, hc, hcell⟩ := h
  replace hcell := Lib.hid hcell
  replace hl := Lib.hid hl
  go_enter Try.func34, Try.ntmps34
  go_wp2
  go_loopw [5, 8] (fun _ s8 wr => ∃ k : Nat, k ≤ l.length ∧ s8 = .int .i64 k ∧ Hid (∀ x ∈ l.take k, ¬ x < 0) ∧ wr = w) (fun _ s8 _ => l.length - (intOf s8).toNat)
  case atStart => exact ⟨0, Nat.zero_le _, rfl, Lib.hid (by simp), rfl⟩
  case round =>
    obtain ⟨k, hk, rfl, hno, rfl⟩ := hrel
    by_cases hlt : k < l.length
    · obtain ⟨x, hx⟩ : ∃ x, l[k]? = some x := ⟨l[k]'hlt, List.getElem?_eq_getElem _⟩
      obtain ⟨g, o, rfl, hg⟩ := hcell.out (by omega)
      have hcx := hg k x hx
      have hx' := Lib.hid hx
      clear hg hx
      have hw := idx_succ hlt hl.out
      have hn := fun W => neg27 x W
      by_cases hneg : x < 0
      · go_wp2_with (go_at_call 27; refine (hn _).mono ?_; rintro e w1 ⟨rfl, rfl⟩)
        clear hw
        go_ret
        exact ⟨⟨_, rfl, ⟨fun _ => ⟨x, List.mem_of_getElem? hx'.out, hneg⟩, fun _ => by omega⟩⟩, rfl⟩
      · go_wp2_with (go_at_call 27; refine (hn _).mono ?_; rintro e w1 ⟨rfl, rfl⟩)
        rw [hw]
        clear hw
        go_roundw
        case rel =>
          refine ⟨k + 1, hlt, rfl, Lib.hid fun y hy => ?_, by first | rfl | trivial⟩
          obtain ⟨hk', e⟩ := List.getElem?_eq_some_iff.1 hx'.out
          rw [List.take_succ_eq_append_getElem hk', List.mem_append, List.mem_singleton, e] at hy
          rcases hy with hy | rfl
          · have := hno.out y hy; first | exact this | omega
          · first | exact hneg | omega
        case measure => simp [intOf]; omega
    · have e : k = l.length := by omega
      subst e
      go_wp2
      go_ret
      refine ⟨⟨_, rfl, ⟨fun h => absurd h (by decide), fun ⟨x, hx, hneg⟩ => ?_⟩⟩, rfl⟩
      have := hno.out
      rw [List.take_length] at this
      exact absurd (this x hx) (by omega)

end Go.Proofs.Ytafdbibjcohdbaa
