/-
  RouteJoins: the law's body.
-/
import Derived.Test.YtlpgkkaeojnndaaRJ
import Derived.Deep.AppendSrc
import Derived.Great.BuildSlice
import Derived.Outline
import Derived.Deep.QuietTactic
import Derived.BigQuiet
import Derived.Deep.LoopGhost
namespace Go.Proofs.Ytlpgkkaeojnndaa
open Go.RowKit Go.Proofs.YtlpgkkaeojnndaaW.PrintWords Go.Proofs.YtlpgkkaeojnndaaW.PrintLast Go.Proofs.YtlpgkkaeojnndaaW.PrintMore Go.Proofs.Ytlpgkkaeojnndaa.PRouteJoins

theorem names_any (w : World) : Calls Try.prog 6 #[] w fun e w' => e = .returned (.bool true) ∧ w = w' := by
  go_enter Try.func6, Try.ntmps6
  go_wp2
  go_ret
  exact ⟨rfl, rfl⟩

theorem Strs.below {w W : World} {b o : Nat} {l : List ByteArray} (h : Strs w b o l) (hb : Below w.heap.size w W) : Strs W b o l := fun j x hx => (hb.cell (p := ⟨b, o + j, none⟩) (World.block_lt_of_cell? w _ (h j x hx))).trans (h j x hx)
theorem Strs.drewN {w : World} {b o : Nat} {l : List ByteArray} (h : Strs w b o l) (m : Nat) : Strs (w.drewN m) b o l := fun j x hx => by
  have := h j x hx
  simpa using this

theorem Strs.row {w : World} {b o : Nat} {l : List ByteArray} (h : Strs w b o l) (hl : l.length ≤ 8796093022208) : Kd.C Kd.string w (some ⟨b, o, none⟩) l.length l :=
  ⟨rfl, by omega, fun _ => ⟨_, rfl, fun j x hx => ⟨[.string x], rfl, rfl, fun i u hu => by
    cases i with
    | succ i => simp at hu
    | zero =>
      simp at hu
      subst hu
      have := h j x hx
      show w.cell? ((⟨b, o, none⟩ : Addr).add (j * 1 + 0)) = _
      rw [add_at]
      simpa using this⟩⟩⟩

theorem own_strs {w : World} {base g cap : Nat} {l : List ByteArray} (h : Kd.R Kd.string 9 w base (fun _ => True) (.slice (some ⟨g, 0, none⟩) l.length cap) l) : Strs w g 0 l := fun j x hx => by
  have hj : j < l.length := (List.getElem?_eq_some_iff.1 hx).1
  have := (Kd.R_cell (enc := Value.string) (h1 := fun _ => rfl) ByteArray.empty h (j : Int) (by omega) (by omega)).1
  rw [rd_at hx, Int.toNat_natCast] at this
  simpa using this

theorem new_block {k B n c : Nat} (h : B < k) (e : some k = (Value.slice (some ⟨B, 0, none⟩) n c).ownBlock) : False := by
  have : k = B := by simpa [Value.ownBlock] using e
  omega

set_option maxHeartbeats 4000000 in
theorem law_some (l : List ByteArray) (b o c : Nat) (w : World) (hl : l.length ≤ 8796093022208) (hs : ∀ x ∈ l, x.size ≤ 9223372036854775807) (hc : l.length ≤ c) (hcell : Strs w b o l) (h0 : 1 ≤ l.length) :
    Calls Try.prog 3 #[.slice (some ⟨b, o, none⟩) l.length c] w fun e w' => e = .returned (.bool true) ∧ Below w.heap.size w w' := by
  obtain ⟨k, hk⟩ := rjoin_is l hs hl
  obtain ⟨S, hS⟩ : ∃ S, (joinR l).1 = S := ⟨_, rfl⟩
  obtain ⟨E, hE⟩ : ∃ E, (joinR l).2 = E := ⟨_, rfl⟩
  have hjr : joinR l = (S, E) := by rw [← hS, ← hE]
  rw [hjr] at hk
  have hj1 := fun g cap W => join_some l g 0 cap W hl hs
  rw [hjr] at hj1
  replace hj1 := Lib.hid hj1
  have hr1 := fun W h => hamperref17_Join.calls k (some ⟨b, o, none⟩) c l S E W h hc hk
  replace hr1 := Lib.hid hr1
  clear hk hS hE hjr hs
  replace hcell := Lib.hid hcell
  have HO : Kd.R Kd.string 9 (w.alloc (.cells #[] 9)) w.heap.size (fun _ => True) (.slice (some ⟨w.heap.size, 0, none⟩) 0 0) [] :=
    ⟨fun _ _ => trivial, [], World.ownsRow_lit (base := w.heap.size) (e := 9) (size := 1) w #[] 0 (Nat.le_refl _) (by unfold maxLen; omega) rfl, Reps.none _ _⟩
  have HB0 : Below w.heap.size w (w.alloc (.cells #[] 9)) := (Below.refl _ w).alloc (Nat.le_refl _) _
  have HR : ReadsRow (fun x cs => cs = [Value.string x]) 1 (w.alloc (.cells #[] 9)) (some ⟨b, o, none⟩) l.length l := (hcell.out.below HB0).row hl
  replace HO := Lib.hid HO
  replace HB0 := Lib.hid HB0
  replace HR := Lib.hid HR
  obtain ⟨n, hn⟩ : ∃ n, n = l.length := ⟨_, rfl⟩
  rw [← hn] at hl hc h0
  rw [← hn]
  have hN : Hid (n = l.length) := hn
  clear hn
  go_enter Try.func3, Try.ntmps3
  go_wp2_with (at_builtin; refine Kd.R_append_rows Kd.string (w0 := w) w.heap.size rfl (.tmp 9) (.tmp 10) 22 9 (.string ⟨#[]⟩) 16 rfl Try.underlying22 info9 rfl (by decide) (by decide) _ [] l (some ⟨b, o, none⟩) n c (fun _ => True) (fun k => w.heap.size < k) rfl rfl HO.out (by rw [hN.out]; exact HR.out) (fun x cs hx => hx) (fun k hk => ⟨trivial, fun e => new_block hk e⟩) (fun _ _ => trivial) HB0.out (by simp) (by simp; omega) ?_)
  intro v1 W1 hv1 hB1 _ _
  obtain ⟨g, cap, rfl, hg1, hg2, _⟩ := Kd.R_form hv1 (by show 0 < l.length; have := hN.out; omega)
  have hS1 : Strs W1 g 0 l := own_strs hv1
  replace hS1 := Lib.hid hS1
  have hlc : Hid (l.length ≤ cap) := (Kd.R_reads' hv1).2.1
  replace hB1 := Lib.hid hB1
  clear hv1
  rw [← hN.out]
  go_wp2_with (first
    | (go_at_call 4; rw [hN.out]; refine (hj1.out g cap _ hlc.out hS1.out (by have := hN.out; omega)).mono ?_; rintro e W2 ⟨rfl, hb2⟩; have hB2 := Lib.hid hb2; clear hb2; try rw [← hN.out])
    | (go_at_call 5; rw [hN.out]; refine (hr1.out _ (((hcell.out.below hB1.out).below hB2.out).row (by have := hN.out; omega))).mono ?_; rintro e W3 ⟨rfl, hb3⟩; have hB3 := Lib.hid hb3; clear hb3; try rw [← hN.out]))
  have hSa : Strs W3 b o l := ((hcell.out.below hB1.out).below hB2.out).below hB3.out
  have hSb : Strs W3 g 0 l := (hS1.out.below hB2.out).below hB3.out
  have hB : Below w.heap.size w W3 := (hB1.out.trans (hB2.out.mono hB1.out.size)).trans (hB3.out.mono (Nat.le_trans hB1.out.size hB2.out.size))
  replace hSa := Lib.hid hSa
  replace hSb := Lib.hid hSb
  replace hB := Lib.hid hB
  clear hB1 hB2 hB3 hS1 hcell hj1 hr1 HO HB0 HR
  go_loopw [8] (fun s8 wr => ∃ k m : Nat, k ≤ n ∧ s8 = .int .i64 k ∧ wr = W3.drewN m) (fun s8 _ => n - (intOf s8).toNat)
  case atStart => exact ⟨0, 0, Nat.zero_le _, rfl, rfl⟩
  case round =>
    obtain ⟨k, m, hk, rfl, rfl⟩ := hrel
    by_cases hlt : k < n
    · obtain ⟨x, hx⟩ : ∃ x, l[k]? = some x := ⟨l[k]'(by have := hN.out; omega), List.getElem?_eq_getElem _⟩
      have c1 : W3.cell? ⟨g, 0 + k, none⟩ = some (.string x) := hSb.out k x hx
      have c2 : W3.cell? ⟨b, o + k, none⟩ = some (.string x) := hSa.out k x hx
      rw [Nat.zero_add] at c1
      have i1 : (k : Int) < (n : Int) := by omega
      have i0 : (0 : Int) ≤ k := by omega
      clear hx
      go_wp2_with fail
      go_quiet (fail)
      go_wp2
      go_roundw
      case rel => exact ⟨k + 1, _, by omega, by go_num, rfl⟩
      case measure => simp [intOf]; omega
    · have hkn : k = n := by omega
      go_wp2_with (go_at_call 6; refine (names_any _).mono ?_; rintro e w' ⟨rfl, rfl⟩)
      go_ret
      exact ⟨rfl, pw_below_drewN hB.out _⟩

set_option maxHeartbeats 4000000 in
theorem law_none (A : Option Addr) (c : Nat) (w : World) :
    Calls Try.prog 3 #[.slice A 0 c] w fun e w' => e = .returned (.bool true) ∧ Below w.heap.size w w' := by
  obtain ⟨k, hk⟩ := rjoin_is [] (fun x hx => by cases hx) (by decide)
  obtain ⟨S, hS⟩ : ∃ S, (joinR []).1 = S := ⟨_, rfl⟩
  obtain ⟨E, hE⟩ : ∃ E, (joinR []).2 = E := ⟨_, rfl⟩
  have hjr : joinR [] = (S, E) := by rw [← hS, ← hE]
  rw [hjr] at hk
  have hj1 := fun c A W => join_nil c A W
  rw [hjr] at hj1
  replace hj1 := Lib.hid hj1
  have hr1 := fun W h => hamperref17_Join.calls k A c [] S E W h (Nat.zero_le _) hk
  replace hr1 := Lib.hid hr1
  clear hk hS hE hjr
  have HO : Kd.R Kd.string 9 (w.alloc (.cells #[] 9)) w.heap.size (fun _ => True) (.slice (some ⟨w.heap.size, 0, none⟩) 0 0) [] :=
    ⟨fun _ _ => trivial, [], World.ownsRow_lit (base := w.heap.size) (e := 9) (size := 1) w #[] 0 (Nat.le_refl _) (by unfold maxLen; omega) rfl, Reps.none _ _⟩
  have HB0 : Below w.heap.size w (w.alloc (.cells #[] 9)) := (Below.refl _ w).alloc (Nat.le_refl _) _
  have HR : ∀ W, ReadsRow (fun x cs => cs = [Value.string x]) 1 W A 0 [] := fun W => ⟨rfl, by omega, fun h => absurd h (Nat.lt_irrefl 0)⟩
  replace HO := Lib.hid HO
  replace HB0 := Lib.hid HB0
  replace HR := Lib.hid HR
  go_enter Try.func3, Try.ntmps3
  go_wp2_with (at_builtin; refine Kd.R_append_rows Kd.string (w0 := w) w.heap.size rfl (.tmp 9) (.tmp 10) 22 9 (.string ⟨#[]⟩) 16 rfl Try.underlying22 info9 rfl (by decide) (by decide) _ [] [] A 0 c (fun _ => True) (fun k => w.heap.size < k) rfl rfl HO.out (HR.out _) (fun x cs hx => hx) (fun k hk => ⟨trivial, fun e => new_block hk e⟩) (fun _ _ => trivial) HB0.out (by simp) (by simp) ?_)
  intro v1 W1 hv1 hB1 _ _
  obtain ⟨A1, cap, rfl⟩ := own_slice hv1.2.choose_spec.1
  clear hv1
  replace hB1 := Lib.hid hB1
  rw [show ([] : List ByteArray).length = 0 from rfl]
  go_wp2_with (first
    | (go_at_call 4; refine (hj1.out cap A1 _).mono ?_; rintro e W2 ⟨rfl, hb2⟩; have hB2 := Lib.hid hb2; clear hb2)
    | (go_at_call 5; refine (hr1.out _ (HR.out _)).mono ?_; rintro e W3 ⟨rfl, hb3⟩; have hB3 := Lib.hid hb3; clear hb3))
  have hB : Below w.heap.size w W3 := (hB1.out.trans (hB2.out.mono hB1.out.size)).trans (hB3.out.mono (Nat.le_trans hB1.out.size hB2.out.size))
  replace hB := Lib.hid hB
  clear hB1 hB2 hB3 hj1 hr1 HO HB0 HR
  refine wp_loop_once ?_
  go_wp2_with (go_at_call 6; refine (names_any _).mono ?_; rintro e w' ⟨rfl, rfl⟩)
  go_ret
  exact ⟨rfl, hB.out⟩

end Go.Proofs.Ytlpgkkaeojnndaa
