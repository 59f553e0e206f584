/-
  RouteOrders, RouteBetween: the laws' bodies, for texts of moderate length.
-/
import Derived.Test.YtlpgkkaeojnndaaDoorRC
namespace Go.Proofs.YtlpgkkaeojnndaaDoor
open Go.RowKit

theorem names_any (w : World) : Calls Tryd.prog 12 #[] w fun e w' => e = .returned (.bool true) ∧ w = w' := by
  go_enter Tryd.func12, Tryd.ntmps12
  go_wp2
  go_ret
  exact ⟨rfl, rfl⟩

theorem grow {w W V : World} (hB : Hid (Below w.heap.size w W)) (hb : Below W.heap.size W V) : Hid (Below w.heap.size w V) := hB.out.trans (hb.mono hB.out.size)

theorem cmpB_self (a : ByteArray) : (cmpB a a == 0) = true := by unfold cmpB; rw [cmpL_self]; rfl

set_option maxHeartbeats 2000000 in
theorem law_orders (a b : ByteArray) (ha : a.size ≤ 1048576) (hb : b.size ≤ 1048576) (w : World) :
    Calls Tryd.prog 3 #[.string a, .string b] w fun e w' => e = .returned (.bool true) ∧ Below w.heap.size w w' := by
  have hC := Lib.hid fun (x y : ByteArray) (h : x.size ≤ 1048576) (k : y.size ≤ 1048576) (W : World) => compare_any x y (by omega) (by omega) W
  have hD := Lib.hid fun (x y : ByteArray) (h : x.size ≤ 1048576) (k : y.size ≤ 1048576) (W : World) => rcompare_any x y h k W
  have hE := fun W => within_any a b (by omega) (by omega) W
  have hF := fun W => rwithin_any a b W
  have hs := cmpB_self a
  have hB : Hid (Below w.heap.size w w) := Below.refl _ _
  have e1 : (cmpB a b == cmpB a b) = true := beq_self_eq_true _
  have e2 : (cmpB b a == cmpB b a) = true := beq_self_eq_true _
  go_enter Tryd.func3, Tryd.ntmps3
  go_wp2_with (first
    | (go_at_call 8; refine (hC.out _ _ (by assumption) (by assumption) _).mono ?_; rintro e w1 ⟨rfl, hb1⟩; replace hB := grow hB hb1; clear hb1)
    | (go_at_call 9; refine (hD.out _ _ (by assumption) (by assumption) _).mono ?_; rintro e w1 ⟨rfl, hb1⟩; replace hB := grow hB hb1; clear hb1)
    | (go_at_call 10; refine (hE _).mono ?_; rintro e w1 ⟨rfl, hb1⟩; replace hB := grow hB hb1; clear hb1)
    | (go_at_call 11; refine (hF _).mono ?_; rintro e w1 ⟨rfl, hb1⟩; replace hB := grow hB hb1; clear hb1)
    | (go_at_call 12; refine (names_any _).mono ?_; rintro e w1 ⟨rfl, rfl⟩))
  go_ret
  exact ⟨rfl, hB.out⟩

end Go.Proofs.YtlpgkkaeojnndaaDoor
