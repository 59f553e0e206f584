/-
  MeterBack: for every quota and every two numbers the law answers true, and its arguments read as before. No condition beyond the row's own.
-/
import Derived.Test.YtahohailcmfpjaaK
import Derived.Test.YtahohailcmfpjaaO
import Derived.OpenShut
import Derived.ShutString
import Derived.ChangeOld
namespace Go.Proofs.Ytahohailcmfpjaa.MeterBack
open Go.ChangeShapes Go.WideShapes Go.ChangeAt Go.RowKit

theorem own : ownKnob Try.prog.godebug = none := by kernel_rfl
theorem laidOut : laidOutB Try.prog = true := by kernel_rfl

theorem walk (w : World) (q0 q1 q2 q3 q4 n k : Int) (hmax : q3 ≤ 9223372036854775807) :
    Calls Try.prog 6 #[.agg #[.int .i64 q0, .int .i64 q1, .int .i64 q2, .int .i64 q3, .int .i64 q4], .int .i64 n, .int .i64 k] w fun e w' => e = .returned (.bool true) ∧ Below w.heap.size w w' := by
  by_cases hq : q0 < 0 ∨ q1 < 0 ∨ q2 < 0 ∨ q3 < 0 ∨ q4 < 0
  · exact back_bad w q0 q1 q2 q3 q4 n k hq
  · have h0 : 0 ≤ q0 := by omega
    have h1 : 0 ≤ q1 := by omega
    have h2 : 0 ≤ q2 := by omega
    have h3 : 0 ≤ q3 := by omega
    have h4 : 0 ≤ q4 := by omega
    by_cases hn : n < 0
    · exact back_neg w q0 q1 q2 q3 q4 n k h0 h1 h2 h3 h4 hn
    · by_cases hm : q3 < n
      · exact back_more w q0 q1 q2 q3 q4 n k h0 h1 h2 h3 h4 hm hmax
      · by_cases hk : k < 0
        · exact back_arg1 w q0 q1 q2 q3 q4 n k h0 h1 h2 h3 h4 (by omega) (by omega) hmax hk
        · by_cases hkn : n < k
          · exact back_arg2 w q0 q1 q2 q3 q4 n k h0 h1 h2 h3 h4 (by omega) (by omega) hmax hkn
          · exact back_ok w q0 q1 q2 q3 q4 n k h0 h1 h2 h3 h4 (by omega) (by omega) hmax (by omega) (by omega)

set_option maxRecDepth 100000 in
theorem lifted (os : Os) (started : os.Started) (H : Type) (enc : TypeId × Value → H) :
    ReturnsInHanded {} Try.checked os 6 .any (Rows.meterBackSpec.pre6 enc Try.prog Try.f6 Rows.meterBackRow.domain false) (Rows.meterBackSpec.post enc Try.prog Try.f6 false true false false) := by
  refine returnsInHanded_of_change (C := Try.checked) own started (by kernel_rfl) Try.func6
    (ChangeSpec.witness6 (enc := enc) (C := Try.checked) false ⟨#[], #[.agg #[.int .i64 0, .int .i64 0, .int .i64 0, .int .i64 0, .int .i64 0], .int .i64 0, .int .i64 0], []⟩ 8 (by kernel_rfl) (by kernel_rfl) (by kernel_rfl) (by kernel_rfl)) ?_
  intro W base args ds gs before hval0 hW hcnd _
  have hval : ∀ (j : Nat) t v, Try.f6.params[j]? = some t → args[j]? = some v → Value.okWide Try.prog W .any base t v := hval0
  have hW' := hW
  obtain ⟨p, q, hA0, hV, rfl, hfz, hnd⟩ := hW
  have hA : DataW.TrodAll enc Try.prog W 0 (fun _ => true) true Try.f6.params.toList args.toList ds p := hA0
  rw [Try.params6] at hA hval
  obtain ⟨v0, vs0, d0, ds0, p0, q0, hargs, rfl, rfl, h0, r0⟩ := trodAll_cons hA
  obtain ⟨v1, vs1, d1, ds1, p1, q1, rfl, rfl, rfl, h1, r1⟩ := trodAll_cons r0
  obtain ⟨v2, vs2, d2, ds2, p2, q2, rfl, rfl, rfl, h2, r2⟩ := trodAll_cons r1
  obtain ⟨rfl, rfl, rfl⟩ := trodAll_nil r2
  obtain rfl : args = #[v0, v1, v2] := by cases args; simp_all
  obtain ⟨rfl, rfl⟩ := trodVars_none hV
  have k0 := h0
  have lt0 : ∀ x ∈ p0, x.block < W.heap.size := by obtain ⟨m, hm⟩ := k0; exact DataW.trod_lt m _ _ _ hm
  obtain ⟨b0, b1, b2, b3, b4, rfl, w0, w1, w2, w3, w4⟩ := quota_open (hval 0 39 v0 rfl rfl) h0
  obtain ⟨n, rfl, rfl, rfl, wn⟩ := open_int Try.underlying3 (hval 1 3 v1 rfl rfl) h1
  obtain ⟨k, rfl, rfl, rfl, wk⟩ := open_int Try.underlying3 (hval 2 3 v2 rfl rfl) h2
  clear hA0 hval0
  have hmax : b3 ≤ 9223372036854775807 := by have := bounds_i64 w3; omega
  refine (walk W b0 b1 b2 b3 b4 n k hmax).mono fun e W' ⟨he, bel⟩ => ?_
  subst he
  exact ⟨_, rfl, _, _, _, [], _, [], hW', trodAll_mk1 (shut_bool Try.underlying4 _),
    (trodAll_cons_mk (Below.trod laidOut (by kernel_rfl) (of_decide_eq_true (by kernel_rfl)) k0 bel lt0) (trodAll_cons_mk (shut_int Try.underlying3 wn) (trodAll_cons_mk (shut_int Try.underlying3 wk) trodAll_mk0))), rfl, bel.frame _, fun h => by cases h⟩

theorem proved : Rows.MeterBackSaid :=
  OpenClaim.holds_of_wide 6 Try.f6 rfl rfl rfl rfl rfl rfl rfl ⟨rfl, rfl, rfl, rfl, rfl⟩ rfl rfl rfl rfl rfl (by kernel_rfl) Try.func6 (by kernel_rfl)
    (of_decide_eq_true (by kernel_rfl)) (by unfold Func.isWrapper; rw [if_neg (of_decide_eq_false (by kernel_rfl))]; exact ⟨rfl, rfl⟩)
    (fun os started H enc _ => lifted os started H enc)
#print axioms proved
end Go.Proofs.Ytahohailcmfpjaa.MeterBack
