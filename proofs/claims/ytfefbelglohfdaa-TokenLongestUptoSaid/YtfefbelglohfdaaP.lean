/-
  token.Match and token.Parse: the document's answers.
-/
import Derived.Test.YtfefbelglohfdaaL
import Derived.Test.YtfefbelglohfdaaR
namespace Go.Proofs.Ytfefbelglohfdaa
open Go.RowKit Go.Maps Go.MapKept
open Go.Proofs.YtfefbelglohfdaaW.PrintWords Go.Proofs.YtfefbelglohfdaaW.PrintLast Go.Proofs.YtfefbelglohfdaaW.PrintMore

abbrev newW (w : World) (A0 : Option Addr) (n c0 : Nat) : World := (w.alloc (.map #[] 0)).alloc (.cells (fcs A0 n c0 w.heap.size 0) 45)

set_option maxRecDepth 100000 in
theorem newFinder_any (A0 : Option Addr) (n c0 : Nat) (w : World) : Calls Try.prog 11 #[.slice A0 n c0] w fun e w' => e = .returned (.pointer (some ⟨w.heap.size + 1, 0, none⟩)) ∧ w' = newW w A0 n c0 := by
  have hmm := @run_makeMap Try.prog
  go_enter Try.func11, Try.ntmps11
  go_wp2
  go_ret
  exact ⟨rfl, rfl⟩

theorem new_below (w : World) (A0 : Option Addr) (n c0 : Nat) : Below w.heap.size w (newW w A0 n c0) := ((Below.refl _ w).alloc (Nat.le_refl _) _).alloc (by simp) _
theorem new_blk (w : World) (A0 : Option Addr) (n c0 : Nat) : Blk (newW w A0 n c0) (w.heap.size + 1) 45 (fcs A0 n c0 w.heap.size 0) := by
  have := Blk.new (w.alloc (.map #[] 0)) 45 (fcs A0 n c0 w.heap.size 0)
  rwa [show (w.alloc (.map #[] 0)).heap.size = w.heap.size + 1 by simp] at this
theorem new_grp (w : World) (A0 : Option Addr) (n c0 : Nat) (No : Nat → Prop) (L : List Int) : GrpT (newW w A0 n c0) w.heap.size No (plc L 0) := by
  rw [plc_zero]
  exact (Grp.made w _ _ _ _ No).kept (row := none) (World.grownBy_alloc _ _ _) (by simp) (by simp)
theorem new_size (w : World) (A0 : Option Addr) (n c0 : Nat) : (newW w A0 n c0).heap.size = w.heap.size + 2 := by simp

def Fits (l0 : List Int) : Prop := l0.length < 17592186043904 ∧ ∀ x ∈ l0, 0 ≤ x ∧ x < 256
instance (l0 : List Int) : Decidable (Fits l0) := inferInstanceAs (Decidable (_ ∧ _))
theorem Fits.byte {l0 : List Int} (h : Fits l0) (i : Int) (h0 : 0 ≤ i) (h1 : i < (l0.length : Int)) : 0 ≤ YtfefbelglohfdaaW.PrintWords.rd l0 i ∧ YtfefbelglohfdaaW.PrintWords.rd l0 i < 256 := by
  obtain ⟨j, rfl⟩ : ∃ j : Nat, i = (j : Int) := ⟨i.toNat, by omega⟩
  have hj : j < l0.length := by omega
  have : YtfefbelglohfdaaW.PrintWords.rd l0 (j : Int) = l0[j] := by
    unfold YtfefbelglohfdaaW.PrintWords.rd
    simp [List.getD_eq_getElem?_getD, List.getElem?_eq_getElem hj]
  rw [this]
  exact h.2 _ (List.getElem_mem hj)

theorem A_lt {w : World} {A0 : Option Addr} {n : Nat} {L : List Int} (hC : Kd.C (Kd.int .u8) w A0 n L) (h0 : 0 < n) (ad : Addr) (e : A0 = some ad) : ad.block < w.heap.size := by
  obtain ⟨g, o, rfl, hg, _⟩ := byt_of_C hC h0
  cases e
  exact hg

theorem rn_le (L : List Int) : ∀ m i j : Nat, rn L m i j ≤ L.length - i
  | 0, _, _ => by simp [rn]
  | m + 1, i, j => by
    unfold rn
    split
    · rename_i h
      have := rn_le L m (i + 1) (j + 1)
      omega
    · omega
theorem full_le (L : List Int) (most : Int) (a : Nat) : ∀ t, (full L most a t).1 ≤ ((L.length - a : Nat) : Int)
  | 0 => by show (0 : Int) ≤ _; omega
  | t + 1 => by
    show (stp L most a (full L most a t) (t + 1)).1 ≤ _
    rw [stp_eq]
    split
    · have := rn_le L most.toNat a (a - (t + 1))
      show ((rn L most.toNat a (a - (t + 1)) : Nat) : Int) ≤ _
      omega
    · exact full_le L most a t

end Go.Proofs.Ytfefbelglohfdaa
