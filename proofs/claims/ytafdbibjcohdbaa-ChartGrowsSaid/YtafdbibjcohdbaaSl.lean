/-
  An argument that is a slice of whole numbers: what it reads as.
-/
import Derived.Test.YtafdbibjcohdbaaH
import Derived.Test.YtafdbibjcohdbaaChecked
import Derived.SizedLaws
import Derived.ChangeSlices
namespace Go.Proofs.Ytafdbibjcohdbaa
open Go.ChangeShapes Go.WideShapes Go.RowKit

theorem sl_add (g o j : Nat) : (⟨g, o, none⟩ : Addr).add j = ⟨g, o + j, none⟩ := by
  unfold Addr.add
  split
  · rename_i h; subst h; rfl
  · rfl

theorem ints_open {H : Type} {enc : TypeId × Value → H} {W : World} {base : Nat} {spare : Nat → Bool} {held : Bool} {a : Option Addr} {len cap : Nat} {d : DataW H} {ps : List MemPlace} {ts : List TypeId} {ds : List (DataW H)} {j : Nat}
    (hsz : (DataW.weightsEach Try.prog ts ds).all (· ≤ reachBytes) = true) (ht : ts[j]? = some 37) (hd : ds[j]? = some d) (h : DataW.Trod enc Try.prog W base spare held 37 (.slice a len cap) d ps) :
    ∃ l : List Int, l.length = len ∧ l.length ≤ 17592186043904 ∧ Ints W (.slice a l.length cap) l := by
  obtain ⟨fuel, hf⟩ := h
  rcases open_ints Try.underlying37 Try.underlying3 (by kernel_rfl) hf with ⟨hcs, _⟩ | ⟨x, l, c, zs, hcs, _, hl, _, hz, hx, hcell, _⟩
  · simp [Value.cells] at hcs
    obtain ⟨rfl, rfl, rfl⟩ := hcs
    exact ⟨[], rfl, Nat.zero_le _, none, 0, rfl, Nat.le_refl _, fun h => absurd h (by decide)⟩
  · simp [Value.cells] at hcs
    obtain ⟨rfl, rfl, rfl⟩ := hcs
    obtain ⟨hx, _⟩ := Prod.mk.inj hx
    subst hx
    have z := sized_slice hsz ht hd Try.underlying37
    have hl2 : len ≤ zs.length := by
      rw [hz]
      split
      · exact hl
      · exact Nat.le_refl _
    have h1 : (lits (H := H) .i64 (zs.take len)).length + (lits (H := H) .i64 (zs.drop len)).length = zs.length := by
      simp [lits]
      omega
    have hb : Try.prog.bytesOf 3 = 8 := by kernel_rfl
    rw [h1, hb] at z
    have z2 : zs.length * 8 ≤ 140737488351232 := z
    have hlen : (zs.take len).length = len := by rw [List.length_take]; omega
    refine ⟨zs.take len, hlen, by omega, some x, cap, rfl, by omega, fun h1 => ?_⟩
    obtain ⟨b, o, sp⟩ := x
    have hsp : sp = none := by
      cases sp with
      | none => rfl
      | some q =>
        have := hcell 0 (by omega)
        simp [Addr.add, World.cell?] at this
        split at this <;> cases this
    subst hsp
    refine ⟨b, o, rfl, fun i y hy => ?_⟩
    have hi : i < len := by
      have := (List.getElem?_eq_some_iff.1 hy).1
      omega
    have := hcell i (by omega)
    rw [List.getElem?_take_of_lt hi] at hy
    rw [List.getD_eq_getElem?_getD, hy, sl_add] at this
    exact this

end Go.Proofs.Ytafdbibjcohdbaa
