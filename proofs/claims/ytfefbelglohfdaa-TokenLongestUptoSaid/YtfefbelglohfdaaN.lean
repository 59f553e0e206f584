/-
  The finder's state: its three cells, and the places of each pair of bytes.
-/
import Derived.Test.YtfefbelglohfdaaM
import Derived.Test.YtfefbelglohfdaaPa
import Derived.Lib.Hide
namespace Go.Proofs.Ytfefbelglohfdaa
open Go.RowKit Go.Maps Go.MapKept Go.WideElems
open Go.WideMaps (KeyLaw ArrKey)

theorem arr49 : ArrKey Try.prog 49 5 2 := ⟨by kernel_rfl, by kernel_rfl, by kernel_rfl, by kernel_rfl⟩
theorem law49 : KeyLaw Try.prog 49 := arr49.law
theorem und43 : Try.prog.underlying 43 = some (.map 49 48) := by kernel_rfl
theorem und48 : Try.prog.underlying 48 = some (.slice 3) := by kernel_rfl
theorem zero48 (u : World) : (zeroValue 48).run Try.prog u = .ok (.slice none 0 0) u := by kernel_rfl
theorem info3 : (Try.prog.info? 3).map (fun i => (i.zero, i.size, i.bytes)) = some (some (.int .i64 0), 1, 8) := by kernel_rfl

theorem und5 : Try.prog.underlying 5 = some (.int .u8) := by kernel_rfl
theorem kt49 : Try.prog.keyType 49 = true := by kernel_rfl
theorem fm49 (x y : Int) : (Value.agg #[.int .u8 x, .int .u8 y]).formed Try.prog 49 = true := by
  simp [Value.formed, arr49.hu, arr49.size]
theorem tys : Try.prog.types.size + 1 = 66 + 1 + 1 := by kernel_rfl

/-- The pair's key. -/
def pairV (x y : Int) : Value := .agg #[.int .u8 x, .int .u8 y]
theorem key49 {x y : Int} (hx : 0 ≤ x ∧ x < 256) (hy : 0 ≤ y ∧ y < 256) : ∃ l, keyOf Try.prog 49 (pairV x y) = some l := by
  have hwx : (Lit.int .u8 x).wf = true := by
    show (decide ((0 : Int) ≤ x) && decide (x ≤ 255)) = true
    simp; omega
  have hwy : (Lit.int .u8 y).wf = true := by
    show (decide ((0 : Int) ≤ y) && decide (y ≤ 255)) = true
    simp; omega
  refine ⟨.string (keyBytes [.int .u8 x, .int .u8 y]), ?_⟩
  unfold keyOf
  rw [arr49.hu]
  simp only [pairV, kt49, fm49, Bool.and_self, if_true]
  rw [tys]
  unfold Program.keyLits
  rw [arr49.hu]
  unfold Program.keyLits
  simp only [arr49.one, arr49.size, und5, Value.cells, List.range_succ, List.range_zero, List.nil_append, List.cons_append]
  simp [hwx, hwy]

end Go.Proofs.Ytfefbelglohfdaa
