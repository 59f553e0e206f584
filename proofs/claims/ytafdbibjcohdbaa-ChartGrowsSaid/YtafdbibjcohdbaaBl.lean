/-
  chart.Blocks, and the reference's.
-/
import Derived.Test.YtafdbibjcohdbaaH
import Derived.Test.YtafdbibjcohdbaaPChartDrawsx3
import Derived.Test.YtafdbibjcohdbaaRd
namespace Go.Proofs.Ytafdbibjcohdbaa
open Go.RowKit Go.Proofs.YtafdbibjcohdbaaW.PrintWords Go.Proofs.YtafdbibjcohdbaaW.PrintLast Go.Proofs.YtafdbibjcohdbaaW.PrintMore Go.Proofs.Ytafdbibjcohdbaa.PChartDraws

theorem neg26b (x : Int) (w : World) : Calls Try.prog 26 #[.int .i64 x] w fun e w' => e = .returned (.bool (decide (x < 0))) ∧ w' = w := by
  go_enter Try.func26, Try.ntmps26
  go_wp2
  go_ret
  exact ⟨rfl, rfl⟩

set_option maxHeartbeats 1000000 in
theorem index_neg_b (v : Value) (l : List Int) (hl : l.length ≤ 9223372036854775807) (w : World) (h : Ints w v l) :
    Calls Try.prog 34 #[v, .func (.func 26) #[] #[]] w fun e w' => (∃ r : Int, e = .returned (.int .i64 r) ∧ (0 ≤ r ↔ ∃ x ∈ l, x < 0)) ∧ w' = w := by
  obtain ⟨A, c, rfl, hc, hcell⟩ := h
  replace hcell := Lib.hid hcell
  replace hl := Lib.hid hl
  go_enter Try.func34, Try.ntmps34
  go_wp2
  go_loopw [5, 8] (fun _ s8 wr => ∃ k : Nat, k ≤ l.length ∧ s8 = .int .i64 k ∧ Hid (∀ x ∈ l.take k, ¬ x < 0) ∧ wr = w) (fun _ s8 _ => l.length - (intOf s8).toNat)
  case atStart => exact ⟨0, Nat.zero_le _, rfl, Lib.hid (by simp), rfl⟩
  case round =>
    obtain ⟨k, hk, rfl, hno, rfl⟩ := hrel
    by_cases hlt : k < l.length
    · obtain ⟨x, hx⟩ : ∃ x, l[k]? = some x := ⟨l[k]'hlt, List.getElem?_eq_getElem _⟩
      obtain ⟨g, o, rfl, hg⟩ := hcell.out (by omega)
      have hcx := hg k x hx
      have hx' := Lib.hid hx
      clear hg hx
      have hw := idx_succ hlt hl.out
      have hn := fun W => neg26b x W
      by_cases hneg : x < 0
      · go_wp2_with (go_at_call 26; refine (hn _).mono ?_; rintro e w1 ⟨rfl, rfl⟩)
        clear hw
        go_ret
        exact ⟨⟨_, rfl, ⟨fun _ => ⟨x, List.mem_of_getElem? hx'.out, hneg⟩, fun _ => by omega⟩⟩, rfl⟩
      · go_wp2_with (go_at_call 26; refine (hn _).mono ?_; rintro e w1 ⟨rfl, rfl⟩)
        rw [hw]
        clear hw
        go_roundw
        case rel =>
          refine ⟨k + 1, hlt, rfl, Lib.hid fun y hy => ?_, by first | rfl | trivial⟩
          obtain ⟨hk', e⟩ := List.getElem?_eq_some_iff.1 hx'.out
          rw [List.take_succ_eq_append_getElem hk', List.mem_append, List.mem_singleton, e] at hy
          rcases hy with hy | rfl
          · have := hno.out y hy; first | exact this | omega
          · first | exact hneg | omega
        case measure => simp [intOf]; omega
    · have e : k = l.length := by omega
      subst e
      go_wp2
      go_ret
      refine ⟨⟨_, rfl, ⟨fun h => absurd h (by decide), fun ⟨x, hx, hneg⟩ => ?_⟩⟩, rfl⟩
      have := hno.out
      rw [List.take_length] at this
      exact absurd (this x hx) (by omega)

theorem contains_neg_b (v : Value) (l : List Int) (hl : l.length ≤ 9223372036854775807) (w : World) (h : Ints w v l) :
    Calls Try.prog 25 #[v, .func (.func 26) #[] #[]] w fun e w' => e = .returned (.bool (anyNeg l)) ∧ w' = w := by
  have hi := fun W h => index_neg_b v l hl W h
  obtain ⟨b, hb⟩ : ∃ b, anyNeg l = b := ⟨_, rfl⟩
  have hb' : Hid (anyNeg l = b) := hb
  rw [hb]
  clear hb
  go_enter Try.func25, Try.ntmps25
  go_wp2_with (go_at_call 34; refine (hi _ h).mono ?_; rintro e w1 ⟨⟨r, rfl, hr⟩, rfl⟩; replace hr := Lib.hid hr)
  have hr' := hr.out
  have e : decide (0 ≤ r) = b := by
    rw [← hb'.out, Bool.eq_iff_iff, anyNeg_iff, ← hr']
    simp
  go_ret
  exact ⟨ret_bool e, rfl⟩


def bq (b n : Int) : Int := if Int.tmod n b > 0 then wrap64 (wrap64 (Int.tdiv n b) + 1) else wrap64 (Int.tdiv n b)
def blocksE (l : List Int) (b : Int) : Int := if b < 1 then 2 else if anyNeg l = true then 2 else 0
def blocksL (l : List Int) (b : Int) : List Int := if blocksE l b = 0 then l.map (bq b) else []

theorem rd_at_b {l : List Int} {i : Nat} {a : Int} (h : l[i]? = some a) : rd l (i : Int) = a := by
  unfold rd
  rw [Int.toNat_natCast, List.getD_eq_getElem?_getD, h]
  rfl

theorem blocks_l0 {l : List Int} (hl : l.length ≤ 17592186043904) (b : Int) (hb : 1 ≤ b) (d : Nat) : ∀ i : Nat, i + d = l.length →
    Ev (fun k => hamperref26_Blocks.l0 k l b ((l.take i).map (bq b)) i) (if anyNeg (l.drop i) = true then ([], 2) else (l.map (bq b), 0)) := by
  induction d with
  | zero =>
    intro i hi
    rw [List.drop_of_length_le (by omega), List.take_of_length_le (by omega)]
    refine Ev.step (f := fun _ => some (l.map (bq b), 0)) (fun k => ?_) (Ev.now _)
    simp only [hamperref26_Blocks.l0]
    rw [if_neg (by omega)]
  | succ d ih =>
    intro i hi
    obtain ⟨a, ha⟩ : ∃ a, l[i]? = some a := ⟨l[i]'(by omega), List.getElem?_eq_getElem _⟩
    have hr := rd_at_b ha
    have hn : anyNeg (l.drop i) = (decide (a < 0) || anyNeg (l.drop (i + 1))) := by rw [drop_cons_l ha]; simp [anyNeg]
    rw [hn]
    by_cases hneg : a < 0
    · rw [decide_eq_true hneg, Bool.true_or, if_pos rfl]
      refine Ev.step (f := fun _ => some ([], 2)) (fun k => ?_) (Ev.now _)
      simp only [hamperref26_Blocks.l0]
      rw [if_pos (by omega), if_pos (by omega), hr, if_pos hneg]
    · rw [decide_eq_false hneg, Bool.false_or]
      have ihi := ih (i + 1) (by omega)
      rw [take_snoc_l ha, List.map_append, List.map_singleton] at ihi
      refine Ev.step (f := fun k => hamperref26_Blocks.l0 k l b ((l.take i).map (bq b) ++ [bq b a]) ((i + 1 : Nat) : Int)) (fun k => ?_) ihi
      have hlen : ((l.take i).map (bq b)).length < 17592186044416 := by rw [List.length_map, List.length_take]; omega
      simp only [hamperref26_Blocks.l0]
      rw [if_pos (by omega), if_pos (by omega), hr, if_neg hneg, if_neg (by omega), if_pos hlen, if_pos hlen, show ((i + 1 : Nat) : Int) = (i : Int) + 1 by omega, wsm (a := (i : Int) + 1) (by omega) (by omega)]
      unfold bq
      split <;> rfl

theorem blocks_ref (l : List Int) (hl : l.length ≤ 17592186043904) (b : Int) : ∃ k, hamperref26_Blocks.f k l b = some (blocksL l b, blocksE l b) := by
  refine Ev.rounds (g := fun k => hamperref26_Blocks.f k l b) ?_
  by_cases hb : b < 1
  · refine Ev.congr (f := fun _ => some (blocksL l b, blocksE l b)) (fun k => ?_) (Ev.now _)
    have e : blocksE l b = 2 := if_pos hb
    simp only [hamperref26_Blocks.f]
    rw [if_pos hb, blocksL, e]
    rfl
  · have := blocks_l0 hl b (by omega) l.length 0 (by omega)
    rw [List.drop_zero] at this
    refine Ev.congr (f := fun k => hamperref26_Blocks.l0 k l b ((l.take 0).map (bq b)) ((0 : Nat) : Int)) (fun k => ?_) ?_
    · simp only [hamperref26_Blocks.f]
      rw [if_neg hb]
      rfl
    · have e : (blocksL l b, blocksE l b) = (if anyNeg l = true then ([], 2) else (l.map (bq b), 0)) := by
        unfold blocksL blocksE
        rw [if_neg hb]
        split <;> rfl
      rw [e]
      exact this

theorem add_zero_l (g o j : Nat) : (⟨g, o, none⟩ : Addr).add j = ⟨g, o + j, none⟩ := by
  unfold Addr.add
  split
  · rename_i h; subst h; rfl
  · rfl

theorem C_of_ints {w : World} {A : Option Addr} {c : Nat} {l : List Int} (h : Ints w (.slice A l.length c) l) (hl : l.length ≤ 9223372036854775807) : Kd.C (Kd.int .i64) w A l.length l := by
  obtain ⟨A', c', e, _, hcell⟩ := h
  obtain ⟨rfl, _, rfl⟩ : A = A' ∧ l.length = l.length ∧ c = c' := by injection e with e1 e2 e3; exact ⟨e1, e2, e3⟩
  refine ⟨rfl, hl, fun h1 => ?_⟩
  obtain ⟨g, o, rfl, hg⟩ := hcell h1
  refine ⟨_, rfl, fun j x hx => ⟨[.int .i64 x], rfl, rfl, fun i u hu => ?_⟩⟩
  cases i with
  | succ i => simp at hu
  | zero =>
    simp at hu
    subst hu
    show w.cell? ((⟨g, o, none⟩ : Addr).add (j * 1 + 0)) = _
    rw [add_zero_l, Nat.mul_one, Nat.add_zero]
    exact hg j x hx

theorem ints_of_C {w : World} {A : Option Addr} {c : Nat} {l : List Int} (h : Kd.C (Kd.int .i64) w A l.length l) (hc : l.length ≤ c) : Ints w (.slice A l.length c) l := by
  refine ⟨A, c, rfl, hc, fun h1 => ?_⟩
  obtain ⟨ad, rfl, hcell⟩ := h.2.2 h1
  have hcell' : ∀ j x, l[j]? = some x → w.cell? (ad.add j) = some (.int .i64 x) := fun j x hx => by
    obtain ⟨cs, _, hr, hu⟩ := hcell j x hx
    have e : cs = [.int .i64 x] := hr
    subst e
    have := hu 0 (.int .i64 x) rfl
    rw [show j * (Kd.int .i64).sz + 0 = j by show j * 1 + 0 = j; omega] at this
    exact this
  obtain ⟨g, o, sp⟩ := ad
  have hsp : sp = none := by
    cases sp with
    | none => rfl
    | some q =>
      obtain ⟨x, hx⟩ : ∃ x, l[0]? = some x := ⟨l[0]'(by omega), List.getElem?_eq_getElem _⟩
      have := hcell' 0 x hx
      simp [Addr.add, World.cell?] at this
      split at this <;> cases this
  subst hsp
  exact ⟨g, o, rfl, fun j x hx => by have := hcell' j x hx; rwa [add_zero_l] at this⟩

theorem ints_of_R {w : World} {base : Nat} {v : Value} {l : List Int} (h : Kd.R (Kd.int .i64) 3 w base (fun _ => True) v l) : Ints w v l := by
  obtain ⟨A, c, rfl, hc, hC⟩ := Kd.R_reads h
  exact ints_of_C hC hc

set_option maxHeartbeats 2000000 in
set_option maxRecDepth 100000 in
theorem blocks_any (v : Value) (l : List Int) (b : Int) (hl : l.length ≤ 17592186043904) (w : World) (h : Ints w v l) :
    Calls Try.prog 18 #[v, .int .i64 b] w fun e w' => ∃ v0, e = .returned (.tuple #[v0, .int .i64 (blocksE l b)]) ∧ Kd.R (Kd.int .i64) 3 w' w.heap.size (fun _ => True) v0 (blocksL l b) ∧ Below w.heap.size w w' := by
  have hcon := fun W h => contains_neg_b v l (by omega) W h
  by_cases hb : b < 1
  · have e1 : blocksE l b = 2 := if_pos hb
    have e2 : blocksL l b = [] := by rw [blocksL, e1]; rfl
    rw [e1, e2]
    clear hcon e1 e2
    go_enter Try.func18, Try.ntmps18
    go_wp2
    go_ret2
    exact ⟨_, rfl, Kd.R_nil _ _ _ _ _, Below.refl _ _⟩
  · obtain ⟨q, hq⟩ : ∃ q, anyNeg l = q := ⟨_, rfl⟩
    rw [hq] at hcon
    cases q with
    | true =>
      have e1 : blocksE l b = 2 := by unfold blocksE; rw [if_neg hb, if_pos hq]
      have e2 : blocksL l b = [] := by rw [blocksL, e1]; rfl
      rw [e1, e2]
      clear e1 e2 hq
      go_enter Try.func18, Try.ntmps18
      go_wp2_with (go_at_call 25; refine (hcon _ h).mono ?_; rintro e w1 ⟨rfl, rfl⟩)
      go_ret2
      exact ⟨_, rfl, Kd.R_nil _ _ _ _ _, Below.refl _ _⟩
    | false =>
      have e1 : blocksE l b = 0 := by unfold blocksE; rw [if_neg hb, hq]; rfl
      have e2 : blocksL l b = l.map (bq b) := by rw [blocksL, e1]; rfl
      rw [e1, e2]
      replace hq := Lib.hid hq
      clear e1 e2
      obtain ⟨A, c, rfl, hc, hcell0⟩ := id h
      have hcell := Lib.hid hcell0
      have hh := Lib.hid h
      clear hcell0 h
      have hb0 : decide (b < 1) = false := decide_eq_false hb
      have hb1 : (b == 0) = false := beq_eq_false_iff_ne.2 (by omega)
      have hb2 : (b != 0) = true := bne_iff_ne.2 (by omega)
      have hb3 : ¬ b = 0 := by omega
      clear hb
      obtain ⟨n, hn⟩ : ∃ n, l.length = n := ⟨_, rfl⟩
      rw [hn] at hl hc ⊢
      have hh' : ∀ W, Ints W (.slice A n c) l → Calls Try.prog 25 #[.slice A n c, .func (.func 26) #[] #[]] W fun e w' => e = .returned (.bool false) ∧ w' = W := by rw [← hn]; exact hcon
      have hh2 : Hid (Ints w (.slice A n c) l) := by rw [← hn]; exact hh
      clear hcon hh
      replace hn := Lib.hid hn
      replace hh' := Lib.hid hh'
      go_enter Try.func18, Try.ntmps18
      go_wp2_with (go_at_call 25; refine (hh'.out _ hh2.out).mono ?_; rintro e w1 ⟨rfl, rfl⟩)
      go_loopg [6, 8, 9, 18] n (fun gq s6 _ _ s18 wr => ∃ k : Nat, k + gq = n ∧ s18 = .int .i64 k ∧ Hid (Kd.R (Kd.int .i64) 3 wr w1.heap.size (fun _ => True) s6 ((l.take k).map (bq b)) ∧ Below w1.heap.size w1 wr))
      case atStart => exact ⟨0, Nat.zero_add _, rfl, Kd.R_nil _ _ _ _ _, Below.refl _ _⟩
      case round =>
        obtain ⟨k, hk, rfl, hR⟩ := hrel
        by_cases hlt : k < n
        · obtain ⟨x, hx⟩ : ∃ x, l[k]? = some x := ⟨l[k]'(by rw [hn.out]; exact hlt), List.getElem?_eq_getElem _⟩
          obtain ⟨g, o, rfl, hg⟩ := hcell.out (by rw [hn.out]; omega)
          have hcx := hg k x hx
          have hcw : wr.cell? ⟨g, o + k, none⟩ = some (.int .i64 x) := (hR.out.2.cell (p := ⟨g, o + k, none⟩) (World.block_lt_of_cell? w1 _ hcx)).trans hcx
          have hx' := Lib.hid hx
          have hlen : ((l.take k).map (bq b)).length = k := by rw [List.length_map, List.length_take, hn.out]; omega
          have hnext : ∀ W V, Kd.R (Kd.int .i64) 3 W w1.heap.size (fun _ => True) V ((l.take k).map (bq b) ++ [bq b x]) → Kd.R (Kd.int .i64) 3 W w1.heap.size (fun _ => True) V ((l.take (k + 1)).map (bq b)) := fun W V hV => by
            rw [take_snoc_l hx'.out, List.map_append, List.map_singleton]
            exact hV
          replace hnext := Lib.hid hnext
          replace hlen := Lib.hid hlen
          clear hg hx hcx
          by_cases ht : Int.tmod x b > 0
          · have ht0 : decide (0 < Int.tmod x b) = true := decide_eq_true ht
            have hbq : bq b x = wrap64 (wrap64 (Int.tdiv x b) + 1) := if_pos ht
            rw [hbq] at hnext
            clear ht hbq
            go_wp2_with (at_builtin; refine Kd.R_append (Kd.int .i64) (w0 := w1) w1.heap.size rfl (.tmp 31) (.tmp 33) 37 3 (.int .i64 0) 8 rfl Try.underlying37 info3 rfl (by decide) (by omega) _ ((l.take k).map (bq b)) (wrap64 (wrap64 (Int.tdiv x b) + 1)) [.int .i64 (wrap64 (wrap64 (Int.tdiv x b) + 1))] (fun _ => True) (fun _ => False) rfl rfl ?aP (fun _ hk => hk.elim) ?aF ?aO ?aB ?aS ?aL ?_; (case aP => exact rfl); (case aB => exact hR.out.2); (case aF => exact (fun _ _ => trivial)); (case aO => exact hR.out.1); (case aS => exact hR.out.2.size); (case aL => rw [hlen.out]; omega); intro v1 W1 ho hB _ _; replace ho := Lib.hid ho; replace hB := Lib.hid hB)
            go_roundg (n - (k + 1))
            case rel => exact ⟨k + 1, by omega, by go_num, hnext.out _ _ ho.out, hB.out⟩
            case measure => omega
          · have ht0 : decide (0 < Int.tmod x b) = false := decide_eq_false ht
            have hbq : bq b x = wrap64 (Int.tdiv x b) := if_neg ht
            rw [hbq] at hnext
            clear ht hbq
            go_wp2_with (at_builtin; refine Kd.R_append (Kd.int .i64) (w0 := w1) w1.heap.size rfl (.tmp 31) (.tmp 33) 37 3 (.int .i64 0) 8 rfl Try.underlying37 info3 rfl (by decide) (by omega) _ ((l.take k).map (bq b)) (wrap64 (Int.tdiv x b)) [.int .i64 (wrap64 (Int.tdiv x b))] (fun _ => True) (fun _ => False) rfl rfl ?aP (fun _ hk => hk.elim) ?aF ?aO ?aB ?aS ?aL ?_; (case aP => exact rfl); (case aB => exact hR.out.2); (case aF => exact (fun _ _ => trivial)); (case aO => exact hR.out.1); (case aS => exact hR.out.2.size); (case aL => rw [hlen.out]; omega); intro v1 W1 ho hB _ _; replace ho := Lib.hid ho; replace hB := Lib.hid hB)
            go_roundg (n - (k + 1))
            case rel => exact ⟨k + 1, by omega, by go_num, hnext.out _ _ ho.out, hB.out⟩
            case measure => omega
        · have e : k = n := by omega
          subst e
          have hfin : Kd.R (Kd.int .i64) 3 wr w1.heap.size (fun _ => True) u6 (l.map (bq b)) := by
            have := hR.out.1
            rwa [List.take_of_length_le (by rw [hn.out]; exact Nat.le_refl _)] at this
          replace hfin := Lib.hid hfin
          go_wp2
          go_ret2
          exact ⟨_, rfl, hfin.out, hR.out.2⟩

end Go.Proofs.Ytafdbibjcohdbaa
