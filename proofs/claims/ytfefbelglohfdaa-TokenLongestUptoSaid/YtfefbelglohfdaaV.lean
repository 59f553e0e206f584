/-
  The arguments: a slice of bytes; a struct of four whole numbers.
-/
import Derived.Test.YtfefbelglohfdaaO
import Derived.Test.YtfefbelglohfdaaRows
import Derived.ChangeSlices
import Derived.Lib.SmallJoins
import Derived.OpenShut
namespace Go.Proofs.Ytfefbelglohfdaa
open Go.ChangeShapes Go.WideShapes Go.RowKit Go.ChangeAt Go.Lib
open Go.Proofs.YtfefbelglohfdaaW.PrintWords

theorem bulk_lits {H : Type} (k : IntKind) : ∀ zs : List Int, Rows.uptoBulkAll (lits (H := H) k zs) = zs.length
  | [] => rfl
  | z :: zs => by
    have := bulk_lits (H := H) k zs
    simp only [lits, List.map_cons, Rows.uptoBulkAll, Rows.uptoBulk, List.length_cons] at this ⊢
    omega

theorem bytes_open {H : Type} {enc : TypeId × Value → H} {W : World} {base : Nat} {spare : Nat → Bool} {held : Bool} {a : Option Addr} {len cap : Nat} {d : DataW H} {ps : List MemPlace}
    (hcap : len ≤ cap) (h : DataW.Trod enc Try.prog W base spare held 22 (.slice a len cap) d ps) (hb : Rows.uptoBulk d ≤ 1048576) :
    ∃ l : List Int, l.length = len ∧ l.length ≤ 1048576 ∧ Kd.C (Kd.int .u8) W a l.length l ∧ l.length ≤ cap ∧ ∀ x ∈ l, 0 ≤ x ∧ x < 256 := by
  obtain ⟨fuel, hf⟩ := h
  rcases open_ints Try.underlying22 Try.underlying5 (by kernel_rfl) hf with ⟨hcs, _⟩ | ⟨x, n, c, zs, hcs, _, hl, _, hz, hx, hcell, hwf⟩
  · simp [Value.cells] at hcs
    obtain ⟨rfl, rfl, rfl⟩ := hcs
    exact ⟨[], rfl, Nat.zero_le _, ⟨rfl, Nat.zero_le _, fun h => absurd h (by decide)⟩, Nat.le_refl _, by simp⟩
  · simp [Value.cells] at hcs
    obtain ⟨rfl, rfl, rfl⟩ := hcs
    obtain ⟨hx, _⟩ := Prod.mk.inj hx
    subst hx
    have hl2 : len ≤ zs.length := by
      rw [hz]
      split
      · exact hl
      · exact Nat.le_refl _
    have hlen : (zs.take len).length = len := by rw [List.length_take]; omega
    have hb2 : len ≤ 1048576 := by
      simp only [Rows.uptoBulk, bulk_lits, hlen] at hb
      omega
    refine ⟨zs.take len, hlen, by omega, ⟨rfl, by omega, fun h1 => ⟨x, rfl, fun j y hj => ⟨[.int .u8 y], rfl, rfl, fun i u hu => ?_⟩⟩⟩, by omega, fun y hy => ?_⟩
    · cases i with
      | succ i => simp at hu
      | zero =>
        simp at hu
        subst hu
        have hjl : j < len := by
          have := (List.getElem?_eq_some_iff.1 hj).1
          omega
        have := hcell j (by omega)
        rw [List.getElem?_take_of_lt hjl] at hj
        rw [List.getD_eq_getElem?_getD, hj] at this
        show W.cell? (x.add (j * 1 + 0)) = _
        simpa using this
    · have := hwf y (List.mem_of_mem_take hy)
      have h2 : (decide ((0 : Int) ≤ y) && decide (y ≤ 255)) = true := this
      simp at h2
      omega

end Go.Proofs.Ytfefbelglohfdaa
