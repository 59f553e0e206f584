/-
  How the laws' arguments open: a quota, a call, a list of calls.
-/
import Derived.Test.YtahohailcmfpjaaRows
import Derived.ProofKit
import Derived.Deep.Slices
namespace Go.Proofs.Ytahohailcmfpjaa
open Go.ChangeShapes Go.WideShapes Go.ChangeAt Go.RowKit Go.Deep

theorem cells39 : Try.prog.cellsOf 39 = 5 := by kernel_rfl
theorem cells23 : Try.prog.cellsOf 23 = 3 := by kernel_rfl
theorem cells3 : Try.prog.cellsOf 3 = 1 := by kernel_rfl
theorem cells4 : Try.prog.cellsOf 4 = 1 := by kernel_rfl

section
variable {H : Type} {enc : TypeId × Value → H} {w : World} {base : Nat} {spare : Nat → Bool} {held : Bool}

/-- One field of a struct, an int. -/
theorem int_field {n : Nat} {cs : List Value} {x : Option (DataW H × List MemPlace)} (hx : x.isSome = true) (h : DataW.trod enc Try.prog w base spare held n 3 cs = x) :
    ∃ k : Int, cs = [.int .i64 k] ∧ (Lit.int .i64 k).wf = true := by
  obtain ⟨y, rfl⟩ := Option.isSome_iff_exists.1 hx
  obtain ⟨k, hk, _, hw⟩ := DataW.trod_int Try.underlying3 h
  exact ⟨k, hk, hw⟩
theorem bool_field {n : Nat} {cs : List Value} {x : Option (DataW H × List MemPlace)} (hx : x.isSome = true) (h : DataW.trod enc Try.prog w base spare held n 4 cs = x) :
    ∃ k : Bool, cs = [.bool k] := by
  obtain ⟨y, rfl⟩ := Option.isSome_iff_exists.1 hx
  obtain ⟨k, hk, _⟩ := DataW.trod_bool Try.underlying4 h
  exact ⟨k, hk⟩

theorem quota_open {r : Reach} {b0 : Nat} {v : Value} {d : DataW H} {p : List MemPlace} (hv : Value.okWide Try.prog w r b0 39 v) (h : DataW.Trod enc Try.prog w base spare held 39 v d p) :
    ∃ q0 q1 q2 q3 q4 : Int, v = .agg #[.int .i64 q0, .int .i64 q1, .int .i64 q2, .int .i64 q3, .int .i64 q4] ∧
      (Lit.int .i64 q0).wf = true ∧ (Lit.int .i64 q1).wf = true ∧ (Lit.int .i64 q2).wf = true ∧ (Lit.int .i64 q3).wf = true ∧ (Lit.int .i64 q4).wf = true := by
  obtain ⟨⟨l⟩, rfl, hsz⟩ := okWide_struct Try.underlying39 hv
  obtain ⟨fuel, hf⟩ := h
  obtain ⟨xs, n, _, _, _, hlen, hg⟩ := DataW.trod_struct Try.underlying39 hf
  match l, hsz.trans cells39 with
  | [c0, c1, c2, c3, c4], _ =>
    have hl : xs.length = 5 := hlen
    obtain ⟨q0, e0, w0⟩ := int_field (x := xs[0]?) (by simp [hl]) (hg 0 _ rfl)
    obtain ⟨q1, e1, w1⟩ := int_field (x := xs[1]?) (by simp [hl]) (hg 1 _ rfl)
    obtain ⟨q2, e2, w2⟩ := int_field (x := xs[2]?) (by simp [hl]) (hg 2 _ rfl)
    obtain ⟨q3, e3, w3⟩ := int_field (x := xs[3]?) (by simp [hl]) (hg 3 _ rfl)
    obtain ⟨q4, e4, w4⟩ := int_field (x := xs[4]?) (by simp [hl]) (hg 4 _ rfl)
    simp [Value.cells, cells3] at e0 e1 e2 e3 e4
    subst e0 e1 e2 e3 e4
    exact ⟨q0, q1, q2, q3, q4, rfl, w0, w1, w2, w3, w4⟩

/-- The cells of a call. -/
theorem act_cells {n : Nat} {cs : List Value} {x : DataW H × List MemPlace} (hf : DataW.trod enc Try.prog w base spare held n 23 cs = some x) :
    ∃ (fr : Bool) (k m : Int), cs = [.bool fr, .int .i64 k, .int .i64 m] ∧ (Lit.int .i64 k).wf = true ∧ (Lit.int .i64 m).wf = true := by
  obtain ⟨xs, n, _, _, hc, hlen, hg⟩ := DataW.trod_struct Try.underlying23 hf
  match cs, hc.trans cells23 with
  | [c0, c1, c2], _ =>
    have hl : xs.length = 3 := hlen
    obtain ⟨q0, e0⟩ := bool_field (x := xs[0]?) (by simp [hl]) (hg 0 _ rfl)
    obtain ⟨q1, e1, w1⟩ := int_field (x := xs[1]?) (by simp [hl]) (hg 1 _ rfl)
    obtain ⟨q2, e2, w2⟩ := int_field (x := xs[2]?) (by simp [hl]) (hg 2 _ rfl)
    simp [cells4] at e0
    simp [cells3] at e1 e2
    subst e0 e1 e2
    exact ⟨q0, q1, q2, rfl, w1, w2⟩

/-- What the walk is told of a list of calls. -/
def IsActs (w : World) (a : Option Addr) (len : Nat) (F : Nat → Bool) (K N : Nat → Int) : Prop :=
  len ≤ 9223372036854775807 ∧ ∀ i, i < len → ∃ b off, a = some ⟨b, off, none⟩ ∧ w.cell? ⟨b, off + i * 3, none⟩ = some (.bool (F i)) ∧ w.cell? ⟨b, off + i * 3 + 1, none⟩ = some (.int .i64 (K i)) ∧
    w.cell? ⟨b, off + i * 3 + 2, none⟩ = some (.int .i64 (N i)) ∧ (Lit.int .i64 (K i)).wf = true ∧ (Lit.int .i64 (N i)).wf = true

theorem acts_open {r : Reach} {b0 : Nat} {v : Value} {d : DataW H} {p : List MemPlace} (hv : Value.okWide Try.prog w r b0 40 v) (h : DataW.Trod enc Try.prog w base spare held 40 v d p) :
    ∃ (a : Option Addr) (len cap : Nat) (F : Nat → Bool) (K N : Nat → Int), v = .slice a len cap ∧ IsActs w a len F K N := by
  obtain ⟨a, len, cap, rfl⟩ := okWide_slice Try.underlying40 hv
  obtain ⟨fuel, hf⟩ := h
  rcases open_slice Try.underlying40 hf with ⟨hcs, _⟩ | ⟨a', len', cap', m, n, D, Pl, hcs, hb, hl, hm, hmm, _, hi⟩
  · simp [Value.cells] at hcs
    obtain ⟨rfl, rfl, rfl⟩ := hcs
    exact ⟨none, 0, 0, fun _ => false, fun _ => 0, fun _ => 0, rfl, by omega, fun i hi => by omega⟩
  · simp [Value.cells] at hcs
    obtain ⟨rfl, rfl, rfl⟩ := hcs
    have hall : ∀ i, i < len → ∃ (fr : Bool) (k m : Int), w.cell? (a'.add (i * 3)) = some (.bool fr) ∧ w.cell? (a'.add (i * 3 + 1)) = some (.int .i64 k) ∧ w.cell? (a'.add (i * 3 + 2)) = some (.int .i64 m) ∧ (Lit.int .i64 k).wf = true ∧ (Lit.int .i64 m).wf = true := by
      intro i hil
      obtain ⟨cs', hc, ht⟩ := hi i (by rw [hmm]; split <;> omega)
      rw [cells23] at hc
      obtain ⟨fr, k, m, rfl, wk, wm⟩ := act_cells ht
      obtain ⟨_, _, hat⟩ := World.cells?_some hc
      have g0 := hat 0 (by omega)
      have g1 := hat 1 (by omega)
      have g2 := hat 2 (by omega)
      rw [Go.Deep.add_add] at g0 g1 g2
      exact ⟨fr, k, m, g0, g1, g2, wk, wm⟩
    obtain ⟨f, hF⟩ := Classical.axiomOfChoice (r := fun (i : Nat) (y : Bool × Int × Int) => i < len → w.cell? (a'.add (i * 3)) = some (.bool y.1) ∧ w.cell? (a'.add (i * 3 + 1)) = some (.int .i64 y.2.1) ∧
      w.cell? (a'.add (i * 3 + 2)) = some (.int .i64 y.2.2) ∧ (Lit.int .i64 y.2.1).wf = true ∧ (Lit.int .i64 y.2.2).wf = true) (fun i => by
        by_cases hil : i < len
        · obtain ⟨fr, k, m, hh⟩ := hall i hil
          exact ⟨(fr, k, m), fun _ => hh⟩
        · exact ⟨(false, 0, 0), fun h => absurd h hil⟩)
    refine ⟨some a', len, cap, fun i => (f i).1, fun i => (f i).2.1, fun i => (f i).2.2, rfl, by unfold maxLen at hm; omega, fun i hil => ?_⟩
    obtain ⟨g0, g1, g2, wk, wm⟩ := hF i hil
    obtain ⟨b, off, spot⟩ := a'
    have hsp : spot = none := by
      simpa [Addr.add] using World.cell?_spot (hF 0 (by omega)).1
    subst hsp
    rw [show (⟨b, off, none⟩ : Addr).add (i * 3) = ⟨b, off + i * 3, none⟩ by simp [Addr.add]] at g0
    rw [show (⟨b, off, none⟩ : Addr).add (i * 3 + 1) = ⟨b, off + i * 3 + 1, none⟩ by simp [Addr.add]; omega] at g1
    rw [show (⟨b, off, none⟩ : Addr).add (i * 3 + 2) = ⟨b, off + i * 3 + 2, none⟩ by simp [Addr.add]; omega] at g2
    exact ⟨b, off, rfl, g0, g1, g2, wk, wm⟩
end
end Go.Proofs.Ytahohailcmfpjaa
