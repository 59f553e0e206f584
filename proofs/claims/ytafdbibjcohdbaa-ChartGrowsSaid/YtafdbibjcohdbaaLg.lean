/-
  ChartGrows: the law's body.
-/
import Derived.Test.YtafdbibjcohdbaaAl
import Derived.Test.YtafdbibjcohdbaaLc
import Derived.Test.YtafdbibjcohdbaaLd
namespace Go.Proofs.Ytafdbibjcohdbaa
open Go.RowKit Go.Proofs.YtafdbibjcohdbaaW.PrintWords Go.Proofs.YtafdbibjcohdbaaW.PrintLast Go.Proofs.YtafdbibjcohdbaaW.PrintMore Go.Proofs.Ytafdbibjcohdbaa.PChartDraws

theorem over_append (l : List Int) (m : Int) : ∀ left : Int, over left (l ++ [m]) = false → over left l = false := by
  induction l with
  | nil => intro left _; rfl
  | cons x l ih =>
    intro left h
    rw [List.cons_append, over] at h
    rw [over]
    split
    · rename_i hx
      rw [if_pos hx] at h
      cases h
    · rename_i hx
      rw [if_neg hx] at h
      exact ih _ h

theorem grows_ok {l : List Int} {m : Int} (h : lettersE (l ++ [m]) = 0) : lettersE l = 0 := by
  obtain ⟨_, _, hn, ho, hl⟩ := lettersE_len h
  have hn' : anyNeg l = false := by
    unfold anyNeg at hn ⊢
    rw [List.any_append, Bool.or_eq_false_iff] at hn
    exact hn.1
  have ho' := over_append l m 4096 ho
  unfold lettersE
  rw [List.length_append, List.length_singleton] at hl
  rw [hn', ho', if_neg (by decide), if_neg (by omega), if_neg (by decide)]

theorem lettersFrom_ne10 (l : List Int) : ∀ u ∈ lettersFrom 0 l, u ≠ 10 := fun u hu => by
  obtain ⟨c, hc, rfl⟩ := letters_mem l 0 u hu
  exact (letter_not hc).2

theorem along_any (l : List Int) (hE : lettersE l = 0) (n : Nat) (hn : (lettersFrom 0 l).length = n) (w : World) :
    Calls Try.prog 16 #[.string ⟨(drawB (lettersB l)).toArray⟩, .int .i64 n] w fun e w' => e = .returned (.string ⟨(lettersFrom 0 l).toArray⟩) ∧ Below w.heap.size w w' := by
  obtain ⟨h1, h2, _⟩ := lettersE_len hE
  rw [h2]
  exact callsIn_wide.1 (along_in (lettersFrom 0 l) n hn (by omega) (lettersFrom_ne10 l) w)

set_option maxRecDepth 100000 in
set_option maxHeartbeats 4000000 in
theorem grows_bad (A : Option Addr) (c : Nat) (l : List Int) (q : Int) (w : World) (hl : l.length ≤ 17592186043904) (h : Ints w (.slice A l.length c) l) (m : Int) (hm : (wrap64 (q.tmod 20 + 20)).tmod 20 = m)
    (hE : lettersE l ≠ 0) : Calls Try.prog 7 #[.slice A l.length c, .int .i64 q] w fun e w' => e = .returned (.bool true) ∧ Below w.heap.size w w' := by
  have hd1 := draw_any _ l (by omega) w h
  have hd2 := fun v W h => draw_any v (l ++ [m]) (by rw [List.length_append, List.length_singleton]; omega) W h
  have hE2 : lettersE (l ++ [m]) ≠ 0 := fun e => hE (grows_ok e)
  have hB : lettersB l = [] := if_neg hE
  have hB2 : lettersB (l ++ [m]) = [] := if_neg hE2
  rw [hB, show drawB [] = [] from rfl] at hd1
  rw [hB2, show drawB [] = [] from rfl] at hd2
  obtain ⟨E, hEe⟩ : ∃ E, lettersE l = E := ⟨_, rfl⟩
  obtain ⟨F, hFe⟩ : ∃ F, lettersE (l ++ [m]) = F := ⟨_, rfl⟩
  rw [hEe] at hd1 hE
  rw [hFe] at hd2 hE2
  obtain ⟨n, hn⟩ : ∃ n, l.length = n := ⟨_, rfl⟩
  rw [hn] at hd1 hl ⊢
  replace hn := Lib.hid hn
  have hC : ∀ W, Below w.heap.size w W → Kd.C (Kd.int .i64) W A n l := fun W hW => by
    have := C_of_ints (h.below hW) (by rw [hn.out]; omega)
    rwa [hn.out] at this
  replace hC := Lib.hid hC
  replace hd2 := Lib.hid hd2
  have b1 : (E == 0) = false := beq_eq_false_iff_ne.2 hE
  have b2 : (F == 0) = false := beq_eq_false_iff_ne.2 hE2
  have b3 : (E != 0) = true := bne_iff_ne.2 hE
  have b4 : (F != 0) = true := bne_iff_ne.2 hE2
  clear hEe hFe hB hB2 h
  go_enter Try.func7, Try.ntmps7
  go_wp2_with (first
    | (go_at_call 15; (with_reducible refine hd1.mono ?_); clear hd1; rintro e w1 ⟨rfl, hb1⟩; replace hb1 := Lib.hid hb1)
    | (at_builtin; refine Kd.R_append_row (Value.int .i64) 0 (w0 := w1) w1.heap.size rfl (.tmp 25) (.tmp 26) 37 3 (.int .i64 0) 8 rfl Try.underlying37 info3 rfl (by decide) _ [] l A n c (fun _ => True) rfl rfl (fun _ _ => trivial) (HO_new w1) (hC.out _ (hb1.out.alloc hb1.out.size _)) (HB_new w1) (by simp) (by simp; omega) ?_; intro v2 W2 hv2 hb2 _ _; replace hv2 := Lib.hid hv2; replace hb2 := Lib.hid hb2)
    | (at_builtin; refine Kd.R_append (Kd.int .i64) (w0 := w1) w1.heap.size rfl (.tmp 27) (.tmp 29) 37 3 (.int .i64 0) 8 rfl Try.underlying37 info3 rfl (by decide) (by omega) _ ([] ++ l) m [.int .i64 m] (fun _ => True) (fun _ => False) rfl rfl ?aP (fun _ hk => hk.elim) ?aF ?aO ?aB ?aS ?aL ?_; (case aP => exact rfl); (case aB => exact hb2.out); (case aF => exact (fun _ _ => trivial)); (case aO => exact hv2.out); (case aS => exact hb2.out.size); (case aL => rw [List.nil_append, hn.out]; omega); intro v3 W3 hv3 hb3 _ _; replace hv3 := Lib.hid (ints_of_R hv3); replace hb3 := Lib.hid (hb1.out.trans (hb3.mono hb1.out.size)))
    | (go_at_call 15; (with_reducible refine (draw132 _).mono ?_); rintro e w5 ⟨rfl, hb5⟩; replace hb5 := Lib.hid hb5)
    | (go_at_call 15; refine (hd2.out _ _ hv3.out).mono ?_; rintro e w4 ⟨rfl, hb4⟩; replace hb4 := Lib.hid (hb3.out.trans (hb4.mono hb3.out.size))))

  go_ret
  exact ⟨rfl, hb4.out.trans (hb5.out.mono hb4.out.size)⟩

set_option maxRecDepth 100000 in
set_option maxHeartbeats 4000000 in
theorem grows_half (A : Option Addr) (c : Nat) (l : List Int) (q : Int) (w : World) (hl : l.length ≤ 17592186043904) (h : Ints w (.slice A l.length c) l) (m : Int) (hm : (wrap64 (q.tmod 20 + 20)).tmod 20 = m)
    (hE : lettersE l = 0) (hE2 : lettersE (l ++ [m]) ≠ 0) : Calls Try.prog 7 #[.slice A l.length c, .int .i64 q] w fun e w' => e = .returned (.bool true) ∧ Below w.heap.size w w' := by
  have hd1 := draw_any _ l (by omega) w h
  have hd2 := fun v W h => draw_any v (l ++ [m]) (by rw [List.length_append, List.length_singleton]; omega) W h
  have hB2 : lettersB (l ++ [m]) = [] := if_neg hE2
  obtain ⟨S, hS⟩ : ∃ S : ByteArray, (⟨(drawB (lettersB l)).toArray⟩ : ByteArray) = S := ⟨_, rfl⟩
  rw [hE, hS] at hd1
  rw [hB2, show drawB [] = [] from rfl] at hd2
  obtain ⟨F, hFe⟩ : ∃ F, lettersE (l ++ [m]) = F := ⟨_, rfl⟩
  rw [hFe] at hd2 hE2
  obtain ⟨n, hn⟩ : ∃ n, l.length = n := ⟨_, rfl⟩
  rw [hn] at hd1 hl ⊢
  replace hn := Lib.hid hn
  have hC : ∀ W, Below w.heap.size w W → Kd.C (Kd.int .i64) W A n l := fun W hW => by
    have := C_of_ints (h.below hW) (by rw [hn.out]; omega)
    rwa [hn.out] at this
  replace hC := Lib.hid hC
  replace hd2 := Lib.hid hd2
  have b2 : (F == 0) = false := beq_eq_false_iff_ne.2 hE2
  have b4 : (F != 0) = true := bne_iff_ne.2 hE2
  clear hE hS hFe hB2 h
  go_enter Try.func7, Try.ntmps7
  go_wp2_with (first
    | (go_at_call 15; (with_reducible refine hd1.mono ?_); clear hd1; rintro e w1 ⟨rfl, hb1⟩; replace hb1 := Lib.hid hb1)
    | (at_builtin; refine Kd.R_append_row (Value.int .i64) 0 (w0 := w1) w1.heap.size rfl (.tmp 25) (.tmp 26) 37 3 (.int .i64 0) 8 rfl Try.underlying37 info3 rfl (by decide) _ [] l A n c (fun _ => True) rfl rfl (fun _ _ => trivial) (HO_new w1) (hC.out _ (hb1.out.alloc hb1.out.size _)) (HB_new w1) (by simp) (by simp; omega) ?_; intro v2 W2 hv2 hb2 _ _; replace hv2 := Lib.hid hv2; replace hb2 := Lib.hid hb2)
    | (at_builtin; refine Kd.R_append (Kd.int .i64) (w0 := w1) w1.heap.size rfl (.tmp 27) (.tmp 29) 37 3 (.int .i64 0) 8 rfl Try.underlying37 info3 rfl (by decide) (by omega) _ ([] ++ l) m [.int .i64 m] (fun _ => True) (fun _ => False) rfl rfl ?aP (fun _ hk => hk.elim) ?aF ?aO ?aB ?aS ?aL ?_; (case aP => exact rfl); (case aB => exact hb2.out); (case aF => exact (fun _ _ => trivial)); (case aO => exact hv2.out); (case aS => exact hb2.out.size); (case aL => rw [List.nil_append, hn.out]; omega); intro v3 W3 hv3 hb3 _ _; replace hv3 := Lib.hid (ints_of_R hv3); replace hb3 := Lib.hid (hb1.out.trans (hb3.mono hb1.out.size)))
    | (go_at_call 15; (with_reducible refine (draw132 _).mono ?_); rintro e w5 ⟨rfl, hb5⟩; replace hb5 := Lib.hid hb5)
    | (go_at_call 15; refine (hd2.out _ _ hv3.out).mono ?_; rintro e w4 ⟨rfl, hb4⟩; replace hb4 := Lib.hid (hb3.out.trans (hb4.mono hb3.out.size))))

  go_ret
  exact ⟨rfl, hb4.out.trans (hb5.out.mono hb4.out.size)⟩

set_option maxRecDepth 100000 in
set_option maxHeartbeats 4000000 in
theorem grows_good (A : Option Addr) (c : Nat) (l : List Int) (q : Int) (w : World) (hl : l.length ≤ 17592186043904) (h : Ints w (.slice A l.length c) l) (m : Int) (hm : (wrap64 (q.tmod 20 + 20)).tmod 20 = m)
    (hE : lettersE l = 0) (hE2 : lettersE (l ++ [m]) = 0) : Calls Try.prog 7 #[.slice A l.length c, .int .i64 q] w fun e w' => e = .returned (.bool true) ∧ Below w.heap.size w w' := by
  obtain ⟨g1, _, hneg, _, hl6⟩ := lettersE_len hE
  obtain ⟨g2, _, hneg2, _, _⟩ := lettersE_len hE2
  have hm0 : 0 ≤ m := anyNeg_at hneg2 (by simp)
  obtain ⟨mn, rfl⟩ : ∃ mn : Nat, m = mn := ⟨m.toNat, by omega⟩
  obtain ⟨N1, hN1⟩ : ∃ N, (lettersFrom 0 l).length = N := ⟨_, rfl⟩
  have hsn : lettersFrom 0 (l ++ [(mn : Int)]) = lettersFrom 0 l ++ List.replicate mn (97 + l.length % 26).toUInt8 := by rw [lettersFrom_snoc, Nat.zero_add, Int.toNat_natCast]
  have hN2 : (lettersFrom 0 (l ++ [(mn : Int)])).length = N1 + mn := by rw [hsn, List.length_append, List.length_replicate, hN1]
  have ha1 := fun W => along_any l hE N1 hN1 W
  have ha2 := fun W => along_any (l ++ [(mn : Int)]) hE2 (N1 + mn) hN2 W
  obtain ⟨T1, hT1⟩ : ∃ T : ByteArray, (⟨(lettersFrom 0 l).toArray⟩ : ByteArray) = T := ⟨_, rfl⟩
  obtain ⟨T2, hT2⟩ : ∃ T : ByteArray, (⟨(lettersFrom 0 (l ++ [(mn : Int)])).toArray⟩ : ByteArray) = T := ⟨_, rfl⟩
  have hz1 : T1.size = N1 := by rw [← hT1, ← hN1]; rfl
  have hz2 : T2.size = N1 + mn := by rw [← hT2, ← hN2]; rfl
  have hex : T2.extract 0 N1 = T1 := by
    rw [← hT2, ← hT1, hsn, ← hN1]
    apply ByteArray.ext
    rw [ByteArray.data_extract]
    simp
  rw [hT1] at ha1
  rw [hT2] at ha2
  have hd1 := draw_any _ l (by omega) w h
  have hd2 := fun v W h => draw_any v (l ++ [(mn : Int)]) (by rw [List.length_append, List.length_singleton]; omega) W h
  obtain ⟨S, hS⟩ : ∃ S : ByteArray, (⟨(drawB (lettersB l)).toArray⟩ : ByteArray) = S := ⟨_, rfl⟩
  rw [hE, hS] at hd1
  rw [hS] at ha1
  obtain ⟨T, hT⟩ : ∃ T : ByteArray, (⟨(drawB (lettersB (l ++ [(mn : Int)]))).toArray⟩ : ByteArray) = T := ⟨_, rfl⟩
  rw [hE2, hT] at hd2
  rw [hT] at ha2
  obtain ⟨n, hn⟩ : ∃ n, l.length = n := ⟨_, rfl⟩
  rw [hn] at hd1 hl ⊢
  replace hn := Lib.hid hn
  have hC : ∀ W, Below w.heap.size w W → Kd.C (Kd.int .i64) W A n l := fun W hW => by
    have := C_of_ints (h.below hW) (by rw [hn.out]; omega)
    rwa [hn.out] at this
  replace hC := Lib.hid hC
  have hcell : 1 ≤ n → ∃ g o, A = some ⟨g, o, none⟩ ∧ ∀ (j : Nat) (x : Int), l[j]? = some x → w.cell? ⟨g, o + j, none⟩ = some (.int .i64 x) := by
    obtain ⟨A', c', e, _, hc⟩ := h
    injection e with e1 _ _
    subst e1
    rw [← hn.out]
    exact hc
  have j1 : (N1 : Int) ≤ (T2.size : Int) := by omega
  have j2 : (0 : Int) ≤ (N1 : Int) := by omega
  have j3 : (N1 : Int) ≤ 4096 := by omega
  have j4 : (mn : Int) ≤ 4096 := by omega
  rw [show ((N1 + mn : Nat) : Int) = (N1 : Int) + (mn : Int) by omega] at ha2
  replace hd2 := Lib.hid hd2
  replace hcell := Lib.hid hcell
  replace ha1 := Lib.hid ha1
  replace ha2 := Lib.hid ha2
  replace hneg := Lib.hid hneg
  replace hN1 := Lib.hid hN1
  replace hz1 := Lib.hid hz1
  replace hz2 := Lib.hid hz2
  replace hex := Lib.hid hex
  have g1' := Lib.hid g1
  clear hneg2 hsn hN2 hT1 hT2 g1 g2 hE hE2
  clear hS hT h hm0
  go_enter Try.func7, Try.ntmps7
  go_wp2_with (first
    | (go_at_call 15; (with_reducible refine hd1.mono ?_); clear hd1; rintro e w1 ⟨rfl, hb1⟩; replace hb1 := Lib.hid hb1)
    | (at_builtin; refine Kd.R_append_row (Value.int .i64) 0 (w0 := w1) w1.heap.size rfl (.tmp 25) (.tmp 26) 37 3 (.int .i64 0) 8 rfl Try.underlying37 info3 rfl (by decide) _ [] l A n c (fun _ => True) rfl rfl (fun _ _ => trivial) (HO_new w1) (hC.out _ (hb1.out.alloc hb1.out.size _)) (HB_new w1) (by simp) (by simp; omega) ?_; intro v2 W2 hv2 hb2 _ _; replace hv2 := Lib.hid hv2; replace hb2 := Lib.hid hb2)
    | (at_builtin; refine Kd.R_append (Kd.int .i64) (w0 := w1) w1.heap.size rfl (.tmp 27) (.tmp 29) 37 3 (.int .i64 0) 8 rfl Try.underlying37 info3 rfl (by decide) (by omega) _ ([] ++ l) (mn : Int) [.int .i64 (mn : Int)] (fun _ => True) (fun _ => False) rfl rfl ?aP (fun _ hk => hk.elim) ?aF ?aO ?aB ?aS ?aL ?_; (case aP => exact rfl); (case aB => exact hb2.out); (case aF => exact (fun _ _ => trivial)); (case aO => exact hv2.out); (case aS => exact hb2.out.size); (case aL => rw [List.nil_append, hn.out]; omega); intro v3 W3 hv3 hb3 _ _; replace hv3 := Lib.hid (ints_of_R hv3); replace hb3 := Lib.hid (hb1.out.trans (hb3.mono hb1.out.size)))
    | (go_at_call 15; (with_reducible refine (draw132 _).mono ?_); rintro e w5 ⟨rfl, hb5⟩; replace hb5 := Lib.hid hb5)
    | (go_at_call 15; refine (hd2.out _ _ hv3.out).mono ?_; rintro e w4 ⟨rfl, hb4⟩; replace hb4 := Lib.hid (hb3.out.trans (hb4.mono hb3.out.size))))

  have hb := Lib.hid (hb4.out.trans (hb5.out.mono hb4.out.size))
  clear hb1 hb2 hb3 hb4 hb5 hv2 hv3
  go_loop [11, 12] (fun s11 s12 => ∃ k : Nat, k ≤ n ∧ s12 = .int .i64 k ∧ s11 = .int .i64 ((lettersFrom 0 (l.take k)).length : Nat)) (fun _ s12 => n - (intOf s12).toNat)
  case atStart => exact ⟨0, Nat.zero_le _, rfl, rfl⟩
  case round =>
    obtain ⟨k, hk, rfl, rfl⟩ := hrel
    obtain ⟨sm, hsm⟩ : ∃ sm, (lettersFrom 0 (l.take k)).length = sm := ⟨_, rfl⟩
    rw [hsm]
    by_cases hlt : k < n
    · obtain ⟨x, hx⟩ : ∃ x, l[k]? = some x := ⟨l[k]'(by rw [hn.out]; exact hlt), List.getElem?_eq_getElem _⟩
      obtain ⟨g, o, rfl, hg⟩ := hcell.out (by omega)
      have hcx := hg k x hx
      have hcw : w5.cell? ⟨g, o + k, none⟩ = some (.int .i64 x) := (hb.out.cell (p := ⟨g, o + k, none⟩) (World.block_lt_of_cell? w _ hcx)).trans hcx
      have hx0 : 0 ≤ x := anyNeg_at hneg.out (List.mem_of_getElem? hx)
      obtain ⟨xn, rfl⟩ : ∃ xn : Nat, x = xn := ⟨x.toNat, by omega⟩
      have hnx : (lettersFrom 0 (l.take (k + 1))).length = sm + xn := by
        rw [take_snoc_l hx, lettersFrom_snoc, List.length_append, List.length_replicate, hsm, Int.toNat_natCast]
      have hle := lettersFrom_take_le l 0 (k + 1)
      have hle2 : sm + xn ≤ 4096 := by have := g1'.out; omega
      replace hnx := Lib.hid hnx
      clear hg hx hcx hle hsm
      go_wp2
      go_round
      case rel => exact ⟨k + 1, hlt, by go_num, by rw [hnx.out]; go_num⟩
      case measure => simp [intOf]; omega
    · have hkn : k = n := by omega
      have hsn1 : sm = N1 := by rw [← hsm, hkn, List.take_of_length_le (by rw [hn.out]; exact Nat.le_refl _)]; exact hN1.out
      subst hsn1
      have e1 := hz1.out
      have e2 := hz2.out
      have e3 := hex.out
      clear hsm hcell
      go_wp2_with (first
        | (go_at_call 16; (with_reducible refine (ha1.out _).mono ?_); rintro e w6 ⟨rfl, hb6⟩; replace hb6 := Lib.hid hb6)
        | (go_at_call 16; (with_reducible refine (ha2.out _).mono ?_); rintro e w7 ⟨rfl, hb7⟩; replace hb7 := Lib.hid hb7))
      go_ret
      exact ⟨rfl, hb.out.trans ((hb6.out.trans (hb7.out.mono hb6.out.size)).mono hb.out.size)⟩

theorem grows_walk (A : Option Addr) (c : Nat) (l : List Int) (q : Int) (w : World) (hl : l.length ≤ 17592186043904) (h : Ints w (.slice A l.length c) l) :
    Calls Try.prog 7 #[.slice A l.length c, .int .i64 q] w fun e w' => e = .returned (.bool true) ∧ Below w.heap.size w w' := by
  by_cases hE : lettersE l = 0
  · by_cases hE2 : lettersE (l ++ [(wrap64 (q.tmod 20 + 20)).tmod 20]) = 0
    · exact grows_good A c l q w hl h _ rfl hE hE2
    · exact grows_half A c l q w hl h _ rfl hE hE2
  · exact grows_bad A c l q w hl h _ rfl hE

end Go.Proofs.Ytafdbibjcohdbaa
