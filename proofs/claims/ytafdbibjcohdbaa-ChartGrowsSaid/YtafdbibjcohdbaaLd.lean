/-
  ChartDraws: the law's body.
-/
import Derived.Test.YtafdbibjcohdbaaJ
import Derived.Test.YtafdbibjcohdbaaBl
import Derived.Test.YtafdbibjcohdbaaRe
import Derived.Deep.QuietTactic
import Derived.BigQuiet
import Derived.Deep.LoopGhost
namespace Go.Proofs.Ytafdbibjcohdbaa
open Go.RowKit Go.Proofs.YtafdbibjcohdbaaW.PrintWords Go.Proofs.YtafdbibjcohdbaaW.PrintLast Go.Proofs.YtafdbibjcohdbaaW.PrintMore Go.Proofs.Ytafdbibjcohdbaa.PChartDraws

theorem names_d (w : World) : Calls Try.prog 13 #[] w fun e w' => e = .returned (.bool true) ∧ w = w' := by
  go_enter Try.func13, Try.ntmps13
  go_wp2
  go_ret
  exact ⟨rfl, rfl⟩

theorem HO_new (W : World) : Kd.R (Kd.int .i64) 3 (W.alloc (.cells #[] 3)) W.heap.size (fun _ => True) (.slice (some ⟨W.heap.size, 0, none⟩) 0 0) [] :=
  ⟨fun _ _ => trivial, [], World.ownsRow_lit (base := W.heap.size) (e := 3) (size := 1) W #[] 0 (Nat.le_refl _) (by unfold maxLen; omega) rfl, Reps.none _ _⟩

theorem HB_new (W : World) : Below W.heap.size W (W.alloc (.cells #[] 3)) := (Below.refl _ W).alloc (Nat.le_refl _) _

set_option maxRecDepth 100000 in
set_option maxHeartbeats 4000000 in
theorem law_draws (A0 : Option Addr) (c0 : Nat) (l0 : List Int) (A1 : Option Addr) (c1 : Nat) (l1 : List Int) (b : Int) (w : World) (hl0 : l0.length ≤ 17592186043904) (hl1 : l1.length ≤ 17592186043904)
    (h0 : Ints w (.slice A0 l0.length c0) l0) (h1 : Ints w (.slice A1 l1.length c1) l1) :
    Calls Try.prog 8 #[.slice A0 l0.length c0, .slice A1 l1.length c1, .int .i64 b] w fun e w' => e = .returned (.bool true) ∧ Below w.heap.size w w' := by
  have hc0 : l0.length ≤ c0 := by obtain ⟨_, _, e, hc, _⟩ := h0; injection e with _ _ e3; omega
  have hc1 : l1.length ≤ c1 := by obtain ⟨_, _, e, hc, _⟩ := h1; injection e with _ _ e3; omega
  obtain ⟨k0, hk0⟩ := draw_ref l0 (by omega)
  obtain ⟨k1, hk1⟩ := blocks_ref l1 hl1 b
  have hd := fun v W h => draw_any v l0 (by omega) W h
  obtain ⟨S, hS⟩ : ∃ S : ByteArray, (⟨(drawB (lettersB l0)).toArray⟩ : ByteArray) = S := ⟨_, rfl⟩
  obtain ⟨E, hE⟩ : ∃ E, lettersE l0 = E := ⟨_, rfl⟩
  obtain ⟨F, hF⟩ : ∃ F, blocksE l1 b = F := ⟨_, rfl⟩
  obtain ⟨R, hR⟩ : ∃ R, blocksL l1 b = R := ⟨_, rfl⟩
  have hb18 := fun v W h => blocks_any v l1 b hl1 W h
  rw [hS, hE] at hd hk0
  rw [hF, hR] at hb18 hk1
  have hr17 := fun W h => hamperref26_Draw.calls k0 A0 c0 l0 S E W h hc0 hk0
  have hr19 := fun W h => hamperref26_Blocks.calls k1 A1 c1 l1 b R F W h hc1 hk1
  replace hd := Lib.hid hd
  replace hb18 := Lib.hid hb18
  replace hr17 := Lib.hid hr17
  replace hr19 := Lib.hid hr19
  replace h0 := Lib.hid h0
  replace h1 := Lib.hid h1
  have hRl : Hid (R.length ≤ 17592186043904) := Lib.hid (by rw [← hR, blocksL]; split <;> simp; omega)
  clear hk0 hk1 hS hE hF hR
  obtain ⟨n0, hn0⟩ : ∃ n, l0.length = n := ⟨_, rfl⟩
  obtain ⟨n1, hn1⟩ : ∃ n, l1.length = n := ⟨_, rfl⟩
  rw [hn0] at hl0 hc0 ⊢
  rw [hn1] at hl1 hc1 ⊢
  replace hn0 := Lib.hid hn0
  replace hn1 := Lib.hid hn1
  have hC0 : ∀ W, Below w.heap.size w W → Kd.C (Kd.int .i64) W A0 n0 l0 := fun W hW => by
    have := C_of_ints (h0.out.below hW) (by rw [hn0.out]; omega)
    rwa [hn0.out] at this
  have hC1 : ∀ W, Below w.heap.size w W → Kd.C (Kd.int .i64) W A1 n1 l1 := fun W hW => by
    have := C_of_ints (h1.out.below hW) (by rw [hn1.out]; omega)
    rwa [hn1.out] at this
  replace hC0 := Lib.hid hC0
  replace hC1 := Lib.hid hC1
  have hB0 : Below w.heap.size w (w.alloc (.cells #[] 3)) := (Below.refl _ w).alloc (Nat.le_refl _) _
  replace hB0 := Lib.hid hB0
  rw [hn0.out] at hr17
  rw [hn1.out] at hr19
  go_enter Try.func8, Try.ntmps8
  go_wp2_with (first
    | (at_builtin; refine Kd.R_append_row (Value.int .i64) 0 (w0 := w) w.heap.size rfl (.tmp 17) (.tmp 18) 37 3 (.int .i64 0) 8 rfl Try.underlying37 info3 rfl (by decide) _ [] l0 A0 n0 c0 (fun _ => True) rfl rfl (fun _ _ => trivial) (HO_new w) (hC0.out _ hB0.out) hB0.out (by simp) (by simp; omega) ?_; intro v1 W1 hv1 hb1 _ _; replace hv1 := Lib.hid hv1; replace hb1 := Lib.hid hb1)
    | (go_at_call 15; refine (hd.out _ _ (ints_of_R hv1.out)).mono ?_; rintro e W2 ⟨rfl, hb2⟩; replace hb2 := Lib.hid (hb1.out.trans (hb2.mono hb1.out.size)))
    | (go_at_call 17; refine (hr17.out _ (hC0.out _ hb2.out)).mono ?_; rintro e W3 ⟨rfl, hb3⟩; replace hb3 := Lib.hid (hb2.out.trans (hb3.mono hb2.out.size)))
    | (at_builtin; refine Kd.R_append_row (Value.int .i64) 0 (w0 := W3) W3.heap.size rfl (.tmp 29) (.tmp 30) 37 3 (.int .i64 0) 8 rfl Try.underlying37 info3 rfl (by decide) _ [] l1 A1 n1 c1 (fun _ => True) rfl rfl (fun _ _ => trivial) (HO_new W3) (hC1.out _ (hb3.out.alloc hb3.out.size _)) (HB_new W3) (by simp) (by simp; omega) ?_; intro v4 W4 hv4 hb4 _ _; replace hv4 := Lib.hid hv4; replace hb4 := Lib.hid (hb3.out.trans (hb4.mono hb3.out.size)))
    | (go_at_call 18; refine (hb18.out _ _ (ints_of_R hv4.out)).mono ?_; rintro e W5 ⟨v5, rfl, hv5, hb5⟩; replace hb5 := Lib.hid (hb4.out.trans (hb5.mono hb4.out.size)); obtain ⟨A5, c5, rfl⟩ := Kd.R_slice hv5; replace hv5 := Lib.hid (ints_of_R hv5))
    | (go_at_call 19; refine (hr19.out _ (hC1.out _ hb5.out)).mono ?_; rintro e W6 ⟨v6, rfl, hv6, hb6⟩; replace hv5 := Lib.hid (hv5.out.below hb6); replace hb6 := Lib.hid (hb5.out.trans (hb6.mono hb5.out.size)); obtain ⟨A6, c6, rfl⟩ := Kd.R_slice hv6; replace hv6 := Lib.hid (ints_of_R hv6)))
  obtain ⟨n, hn⟩ : ∃ n, R.length = n := ⟨_, rfl⟩
  have hnb : n ≤ 17592186043904 := by rw [← hn]; exact hRl.out
  rw [hn] at hv5 hv6 ⊢
  replace hn := Lib.hid hn
  clear hd hb18 hr17 hr19 h0 h1 hC0 hC1 hB0 hRl hb1 hb2 hb3 hb4 hb5 hv1 hv4 hl0 hl1 hc0 hc1
  obtain ⟨B5, _, e5, _, hc5⟩ := hv5.out
  obtain ⟨B6, _, e6, _, hc6⟩ := hv6.out
  obtain rfl : A5 = B5 := by injection e5
  obtain rfl : A6 = B6 := by injection e6
  replace hc5 := Lib.hid hc5
  replace hc6 := Lib.hid hc6
  clear e5 e6 hv5 hv6
  go_loopw [15] (fun s15 wr => ∃ k m : Nat, k ≤ n ∧ s15 = .int .i64 k ∧ wr = W6.drewN m) (fun s15 _ => n - (intOf s15).toNat)
  case atStart => exact ⟨0, 0, Nat.zero_le _, rfl, rfl⟩
  case round =>
    obtain ⟨k, m, hk, rfl, rfl⟩ := hrel
    by_cases hlt : k < n
    · obtain ⟨x, hx⟩ : ∃ x, R[k]? = some x := ⟨R[k]'(by rw [hn.out]; exact hlt), List.getElem?_eq_getElem _⟩
      obtain ⟨g5, o5, rfl, hg5⟩ := hc5.out (by rw [hn.out]; omega)
      obtain ⟨g6, o6, rfl, hg6⟩ := hc6.out (by rw [hn.out]; omega)
      have d1 := hg5 k x hx
      have d2 := hg6 k x hx
      have i1 : (k : Int) < (n : Int) := by omega
      have i0 : (0 : Int) ≤ k := by omega
      clear hx hg5 hg6
      go_wp2_with fail
      go_quiet (fail)
      go_wp2
      go_roundw
      case rel => exact ⟨k + 1, _, by omega, by go_num, rfl⟩
      case measure => simp [intOf]; omega
    · have hkn : k = n := by omega
      go_wp2_with (go_at_call 13; refine (names_d _).mono ?_; rintro e w' ⟨rfl, rfl⟩)
      go_ret
      exact ⟨rfl, pw_below_drewN hb6.out _⟩

theorem draws_walk (A0 : Option Addr) (c0 : Nat) (l0 : List Int) (A1 : Option Addr) (c1 : Nat) (l1 : List Int) (b : Int) (w : World) (hl0 : l0.length ≤ 17592186043904) (hl1 : l1.length ≤ 17592186043904)
    (h0 : Ints w (.slice A0 l0.length c0) l0) (h1 : Ints w (.slice A1 l1.length c1) l1) :
    Calls Try.prog 8 #[.slice A0 l0.length c0, .slice A1 l1.length c1, .int .i64 b] w fun e w' => e = .returned (.bool true) ∧ Below w.heap.size w w' := law_draws A0 c0 l0 A1 c1 l1 b w hl0 hl1 h0 h1

end Go.Proofs.Ytafdbibjcohdbaa
