/-
  ChartCounts: the law's body.
-/
import Derived.Test.YtafdbibjcohdbaaJ
import Derived.Test.YtafdbibjcohdbaaCo
import Derived.WalkKit
import Derived.WalkSpells
import Derived.WalkLawsBesides
import Derived.Handy
import Derived.ChangeKeysEq
namespace Go.Proofs.Ytafdbibjcohdbaa
open Go.RowKit

theorem ints132 (W : World) : Ints (W.alloc (.cells #[.int .i64 1, .int .i64 3, .int .i64 2] 3)) (.slice (some ⟨W.heap.size, 0, none⟩) 3 3) [1, 3, 2] := by
  refine ⟨_, _, rfl, Nat.le_refl _, fun _ => ⟨_, _, rfl, fun j x hx => ?_⟩⟩
  have hb := Blk.new W 3 #[.int .i64 1, .int .i64 3, .int .i64 2]
  rw [Nat.zero_add]
  refine hb.cell j ?_
  rcases j with _ | _ | _ | j
  · cases hx; rfl
  · cases hx; rfl
  · cases hx; rfl
  · simp at hx

theorem draw132 (W : World) : Calls Try.prog 15 #[.slice (some ⟨W.heap.size, 0, none⟩) 3 3] (W.alloc (.cells #[.int .i64 1, .int .i64 3, .int .i64 2] 3)) fun e w' => e = .returned (.tuple #[.string ⟨#[99, 98, 98, 10, 99, 97, 98, 10]⟩, .int .i64 0]) ∧ Below W.heap.size W w' := by
  have := draw_any _ [1, 3, 2] (by decide) _ (ints132 W)
  rw [pic132.1, pic132.2] at this
  exact this.mono fun e w' ⟨he, hb⟩ => ⟨he, ((Below.refl _ W).alloc (Nat.le_refl _) _).trans (hb.mono (by simp))⟩

set_option maxRecDepth 100000 in
set_option maxHeartbeats 4000000 in
theorem counts_bad (A : Option Addr) (c : Nat) (l : List Int) (w : World) (hl : l.length ≤ 17592186043904) (h : Ints w (.slice A l.length c) l) (hE : lettersE l ≠ 0) :
    Calls Try.prog 6 #[.slice A l.length c] w fun e w' => e = .returned (.bool true) ∧ Below w.heap.size w w' := by
  have hd := draw_any _ l (by omega) w h
  have hB : lettersB l = [] := if_neg hE
  rw [hB, show drawB [] = [] from rfl] at hd
  obtain ⟨E, hEe⟩ : ∃ E, lettersE l = E := ⟨_, rfl⟩
  rw [hEe] at hd hE
  obtain ⟨n, hn⟩ : ∃ n, l.length = n := ⟨_, rfl⟩
  rw [hn] at hd ⊢
  clear hEe hB h hl hn
  go_enter Try.func6, Try.ntmps6
  go_wp2_with (first
    | (go_at_call 15; (with_reducible refine hd.mono ?_); clear hd; rintro e w1 ⟨rfl, hb1⟩; replace hb1 := Lib.hid hb1)
    | (go_at_call 15; (with_reducible refine (draw132 _).mono ?_); rintro e w2 ⟨rfl, hb2⟩; replace hb2 := Lib.hid hb2))
  go_ret
  exact ⟨rfl, hb1.out.trans (hb2.out.mono hb1.out.size)⟩

theorem wpList_taken {P : Program} {ops : Array Oper} {Q : Exit → Act → World → Prop} {rest : List Oper} {o : Oper} {a : Act} {w : World} (hw : Region.wanted o (yielded ops a.tmps) = true)
    (h : o.wp P a w (wpList P ops Q rest) Q) : wpList P ops Q (o :: rest) a w := by
  unfold wpList; rw [if_pos hw]; exact .inl h

/-- An array that is known whole, loaded. -/
theorem wpList_load_arr {P : Program} {ops : Array Oper} {rest : List Oper} {o : Oper} {a : Act} {w : World} {Q : Exit → Act → World → Prop} (hw : Region.wanted o (yielded ops a.tmps) = true) (ty : TypeId) (x : Operand) (ho : o.op = .load ty x)
    (g : Nat) (hx : a.eval x = .pointer (some ⟨g, 0, none⟩)) (t : TypeId) (cs : Array Value) (fr : Nat × Nat) (d : TypeDesc) (hg : w.heap[g]? = some (.cells cs t fr))
    (hu : P.underlying ty = some d) (hd : (match d with | .struct _ | .array _ _ => true | _ => false) = true) (hi : (P.info? ty).map (·.size) = some cs.size)
    (h : wpList P ops Q rest (a.put o.dst (.agg cs)) w) : wpList P ops Q (o :: rest) a w :=
  wpList_taken hw (wp_load_row ty x ho g hx t cs fr d hg hu hd hi h)

theorem eq_items (d : Nat) (B : List UInt8) (w : World) : ∀ is : List Nat, (∀ j ∈ is, j < 26) → (Op.eqItems (d + 1) 3 1 (cntA B) (cntA B) is).run Try.prog w = .ok true w
  | [], _ => by simp [Op.eqItems]
  | j :: is, h => by
    have hj := h j (List.mem_cons_self ..)
    have hp : (part 3 (cntA B) (j * 1)).run Try.prog w = .ok (.int .i64 (cnt1 B j)) w := by
      have := cntA_at B hj
      simp [part, Nat.mul_one, this, go_sem]
    simp only [Op.eqItems, Sem.run_bind, hp, Result.andThen_ok, run_equalIn_int w d 3 .i64 .i64 _ _ Try.underlying3]
    simpa using eq_items d B w is (fun i hi => h i (List.mem_cons_of_mem _ hi))

theorem run_eq_cnt (B : List UInt8) (w : World) : (Op.equalIn 10000 40 (.agg (cntA B)) (.agg (cntA B))).run Try.prog w = .ok true w := by
  obtain ⟨i, hi, _⟩ := Option.map_eq_some_iff.1 (show (Try.prog.info? 3).map (·.size) = some 1 by kernel_rfl)
  rw [show (10000 : Nat) = 9998 + 1 + 1 from rfl, run_equalIn_array w (9998 + 1) (cntA B) (cntA B) (show Try.prog.underlying 40 = some (.array 26 3) by kernel_rfl) hi, show Try.prog.cellsOf 3 = 1 by kernel_rfl, eq_items 9998 B w _ (fun j hj => List.mem_range.1 hj)]

set_option maxRecDepth 100000 in
set_option maxHeartbeats 4000000 in
theorem counts_good (A : Option Addr) (c : Nat) (l : List Int) (w : World) (hl : l.length ≤ 17592186043904) (h : Ints w (.slice A l.length c) l) (hE : lettersE l = 0) :
    Calls Try.prog 6 #[.slice A l.length c] w fun e w' => e = .returned (.bool true) ∧ Below w.heap.size w w' := by
  have hd := draw_any _ l (by omega) w h
  obtain ⟨hL1, hL2, hneg, _, hl6⟩ := lettersE_len hE
  have hmem : ∀ u ∈ drawB (lettersB l), u = 46 ∨ u = 10 ∨ ∃ c, c < 26 ∧ u = (97 + c).toUInt8 := fun u hu => draw_mem hu
  have hcnt : cntA (drawB (lettersB l)) = cntA (lettersFrom 0 l) := by rw [draw_cnt, hL2]
  have hSl : (drawB (lettersB l)).length ≤ 1073741824 := by
    unfold drawB
    split
    · simp
    · rw [layB_length]
      exact pic_bd (by rw [hL2]; exact hL1)
  rw [hE] at hd
  obtain ⟨D, hD⟩ : ∃ D, drawB (lettersB l) = D := ⟨_, rfl⟩
  rw [hD] at hd hmem hcnt hSl
  obtain ⟨S, hS⟩ : ∃ S : ByteArray, (⟨D.toArray⟩ : ByteArray) = S := ⟨_, rfl⟩
  have hSn : S.size = D.length := by rw [← hS]; rfl
  rw [hS] at hd
  obtain ⟨n, hn⟩ : ∃ n, l.length = n := ⟨_, rfl⟩
  rw [hn] at hl hl6 hd ⊢
  have hcell : 1 ≤ n → ∃ g o, A = some ⟨g, o, none⟩ ∧ ∀ (j : Nat) (x : Int), l[j]? = some x → w.cell? ⟨g, o + j, none⟩ = some (.int .i64 x) := by
    obtain ⟨A', c', e, _, hc⟩ := h
    injection e with e1 _ _
    subst e1
    rw [← hn]
    exact hc
  replace hcell := Lib.hid hcell
  replace hn := Lib.hid hn
  replace hmem := Lib.hid hmem
  replace hcnt := Lib.hid hcnt
  replace hS := Lib.hid hS
  replace hSn := Lib.hid hSn
  replace hSl := Lib.hid hSl
  replace hneg := Lib.hid hneg
  replace hL1 := Lib.hid hL1
  clear hE hD h hL2
  go_enter Try.func6, Try.ntmps6
  go_wp2_with (first
    | (go_at_call 15; (with_reducible refine hd.mono ?_); clear hd; rintro e w1 ⟨rfl, hb1⟩; replace hb1 := Lib.hid hb1)
    | (go_at_call 15; (with_reducible refine (draw132 _).mono ?_); rintro e w2 ⟨rfl, hb2⟩; replace hb2 := Lib.hid hb2))
  obtain ⟨M, hM⟩ : ∃ M, w2.heap.size = M := ⟨_, rfl⟩
  have hz0 : (#[Value.int .i64 0, Value.int .i64 0, Value.int .i64 0, Value.int .i64 0, Value.int .i64 0, Value.int .i64 0, Value.int .i64 0, Value.int .i64 0, Value.int .i64 0, Value.int .i64 0, Value.int .i64 0, Value.int .i64 0, Value.int .i64 0, Value.int .i64 0, Value.int .i64 0, Value.int .i64 0, Value.int .i64 0, Value.int .i64 0, Value.int .i64 0, Value.int .i64 0, Value.int .i64 0, Value.int .i64 0, Value.int .i64 0, Value.int .i64 0, Value.int .i64 0, Value.int .i64 0] : Array Value) = cntA [] := by rfl
  rw [hz0]
  clear hz0
  obtain ⟨W0, hW0⟩ : ∃ W0, (w2.alloc (Obj.cells (cntA []) 40)).alloc (Obj.cells (cntA []) 40) = W0 := ⟨_, rfl⟩
  have c1 : Blk W0 M 40 (cntA []) := by rw [← hW0, ← hM]; exact (Blk.new _ _ _).alloc _
  have c2 : Blk W0 (M + 1) 40 (cntA []) := by
    have := Blk.new (w2.alloc (Obj.cells (cntA []) 40)) 40 (cntA [])
    rw [hW0, World.size_alloc, hM] at this
    exact this
  have z2 : w.heap.size ≤ M := by have e1 := hb1.out.size; have e2 := hb2.out.size; omega
  have b0 : Below w.heap.size w W0 := by
    rw [← hW0]
    exact ((hb1.out.trans (hb2.out.mono hb1.out.size)).alloc (by omega) _).alloc (by simp; omega) _
  rw [hW0, hM]
  replace hM := Lib.hid hM
  have hI0 : Hid (Blk W0 M 40 (cntA []) ∧ Blk W0 (M + 1) 40 (cntA []) ∧ Below w.heap.size w W0) := Lib.hid ⟨c1, c2, b0⟩
  clear hW0 c1 c2 b0 hb1 hb2
  go_loopw [9] (fun s9 wr => ∃ k : Nat, k ≤ n ∧ s9 = .int .i64 k ∧ Hid (Blk wr M 40 (cntA (lettersFrom 0 (l.take k))) ∧ Blk wr (M + 1) 40 (cntA []) ∧ Below w.heap.size w wr)) (fun s9 _ => n - (intOf s9).toNat)
  case atStart => exact ⟨0, Nat.zero_le _, rfl, hI0.out⟩
  case round =>
    obtain ⟨k, hk, rfl, hI⟩ := hrel
    by_cases hlt : k < n
    · obtain ⟨x, hx⟩ : ∃ x, l[k]? = some x := ⟨l[k]'(by rw [hn.out]; exact hlt), List.getElem?_eq_getElem _⟩
      obtain ⟨g, o, rfl, hg⟩ := hcell.out (by omega)
      have hcx := hg k x hx
      have hcw : wr.cell? ⟨g, o + k, none⟩ = some (.int .i64 x) := (hI.out.2.2.cell (p := ⟨g, o + k, none⟩) (World.block_lt_of_cell? w _ hcx)).trans hcx
      have hx0 : 0 ≤ x := anyNeg_at hneg.out (List.mem_of_getElem? hx)
      obtain ⟨xn, rfl⟩ : ∃ xn : Nat, x = xn := ⟨x.toNat, by omega⟩
      obtain ⟨q, hq⟩ : ∃ q, k % 26 = q := ⟨_, rfl⟩
      have hq26 : q < 26 := by omega
      have hsn : lettersFrom 0 (l.take (k + 1)) = lettersFrom 0 (l.take k) ++ List.replicate xn (97 + q).toUInt8 := by
        rw [take_snoc_l hx, lettersFrom_snoc, List.length_take, hn.out, Nat.min_eq_left hk, Nat.zero_add, hq]
        rfl
      have hb4 := lettersFrom_take_le l 0 (k + 1)
      rw [hsn, List.length_append, List.length_replicate] at hb4
      obtain ⟨m, hm⟩ : ∃ m, cnt1 (lettersFrom 0 (l.take k)) q = m := ⟨_, rfl⟩
      have hmb : m + xn ≤ 4096 := by
        have := cnt1_le (lettersFrom 0 (l.take k)) q
        have := hL1.out
        omega
      have hnew := cntA_rep (lettersFrom 0 (l.take k)) hq26 xn
      rw [hm, ← hsn] at hnew
      have d1 := hI.out.1.cell q (cntA_at _ hq26)
      rw [hm] at d1
      have f1 := hI.out.1.free q
      have i1 : (0 : Int) ≤ (k : Int) := by omega
      have i2 : (k : Int) < (n : Int) := by omega
      have i3 : (0 : Int) ≤ (q : Int) := by omega
      have i4 : (q : Int) < 26 := by omega
      have i5 : IntKind.i64.wrap ((m : Int) + (xn : Int)) = (m : Int) + (xn : Int) := IntWalk.i64_in _ (by omega)
      have i6 : (k : Int).tmod 26 = (q : Int) := by rw [Int.tmod_eq_emod_of_nonneg (by omega)]; omega
      have i7 : (k : Int) % 26 = (q : Int) := by omega
      replace hnew := Lib.hid hnew
      replace hsn := Lib.hid hsn
      replace hm := Lib.hid hm
      clear hg hx hcx hq hb4
      go_wp2_with fail
      go_still_tail 12, (by kernel_rfl)
      change wpList _ _ _ _ _ wr.drew
      go_wp2
      obtain ⟨h1, h2, h3⟩ := hI.out
      have hI2 : Hid (Blk (wr.setCell ⟨M, q, none⟩ (.int .i64 ((m : Int) + xn))).drew M 40 (cntA (lettersFrom 0 (l.take (k + 1)))) ∧ Blk (wr.setCell ⟨M, q, none⟩ (.int .i64 ((m : Int) + xn))).drew (M + 1) 40 (cntA []) ∧ Below w.heap.size w (wr.setCell ⟨M, q, none⟩ (.int .i64 ((m : Int) + xn))).drew) := by
        refine Lib.hid ⟨?_, ?_, ?_⟩
        · rw [← hnew.out]
          exact h1.set (j := q) (.int .i64 ((m : Int) + xn))
        · exact h2.other (b' := M) (j := q) _ (by omega)
        · exact (h3.setCell (p := ⟨M, q, none⟩) (by show w.heap.size ≤ M; omega) _).drew
      clear h1 h2 h3 hI d1 f1 i5 i6 i7
      go_roundw
      case rel => exact ⟨k + 1, hlt, by go_num, hI2.out⟩
      case measure => simp [intOf]; omega
    · have e : k = n := by omega
      subst e
      rw [List.take_of_length_le (by rw [hn.out]; exact Nat.le_refl _)] at hI
      obtain ⟨N, hN⟩ : ∃ N, S.size = N := ⟨_, rfl⟩
      have hDN : D.length = N := by rw [← hN]; exact hSn.out.symm
      have hNb : N ≤ 1073741824 := by rw [← hDN]; exact hSl.out
      replace hDN := Lib.hid hDN
      replace hN := Lib.hid hN
      clear hI0
      go_wp2
      go_loopw [10] (fun s10 wr => ∃ k : Nat, k ≤ N ∧ s10 = .int .i64 k ∧ Hid (Blk wr M 40 (cntA (lettersFrom 0 l)) ∧ Blk wr (M + 1) 40 (cntA (D.take k)) ∧ Below w.heap.size w wr)) (fun s10 _ => N - (intOf s10).toNat)
      case atStart => exact ⟨0, Nat.zero_le _, rfl, hI.out⟩
      case round =>
        clear hI
        obtain ⟨k2, hk2, rfl, hI⟩ := hrel
        by_cases hlt2 : k2 < N
        · have j4 : k2 < S.size := by rw [hN.out]; exact hlt2
          obtain ⟨u, hu⟩ : ∃ u, D[k2]? = some u := ⟨D[k2]'(by rw [hDN.out]; exact hlt2), List.getElem?_eq_getElem _⟩
          have hSk : (S[k2]'j4) = u := by rw [str_at hS.out j4, List.getD_eq_getElem?_getD, hu]; rfl
          have htk : D.take (k2 + 1) = D.take k2 ++ [u] := by
            obtain ⟨hp, e⟩ := List.getElem?_eq_some_iff.1 hu
            rw [List.take_succ_eq_append_getElem hp, e]
          have j5 : (k2 : Int) < (S.size : Int) := by omega
          have j6 : (0 : Int) ≤ (k2 : Int) := by omega
          rcases hmem.out u (List.mem_of_getElem? hu) with rfl | rfl | ⟨q, hq, rfl⟩
          · have hv : (S[k2]'j4).toNat = 46 := by rw [hSk]; rfl
            have hI2 : Hid (Blk wr M 40 (cntA (lettersFrom 0 l)) ∧ Blk wr (M + 1) 40 (cntA (D.take (k2 + 1))) ∧ Below w.heap.size w wr) := by
              rw [htk, cntA_other _ (.inl rfl)]
              exact hI
            clear hSk htk hu hI
            go_wp2
            go_roundw
            case rel => exact ⟨k2 + 1, hlt2, by go_num, hI2.out⟩
            case measure => simp [intOf]; omega
          · have hv : (S[k2]'j4).toNat = 10 := by rw [hSk]; rfl
            have hI2 : Hid (Blk wr M 40 (cntA (lettersFrom 0 l)) ∧ Blk wr (M + 1) 40 (cntA (D.take (k2 + 1))) ∧ Below w.heap.size w wr) := by
              rw [htk, cntA_other _ (.inr rfl)]
              exact hI
            clear hSk htk hu hI
            go_wp2
            go_roundw
            case rel => exact ⟨k2 + 1, hlt2, by go_num, hI2.out⟩
            case measure => simp [intOf]; omega
          · have hv : (S[k2]'j4).toNat = 97 + q := by
              rw [hSk]
              show (97 + q) % 256 = 97 + q
              omega
            obtain ⟨m, hm⟩ : ∃ m, cnt1 (D.take k2) q = m := ⟨_, rfl⟩
            have hmb : m ≤ 1073741824 := by
              have := cnt1_le (D.take k2) q
              rw [List.length_take, hDN.out] at this
              omega
            have hnew := cntA_one (D.take k2) hq
            rw [hm, ← htk] at hnew
            have d1 := hI.out.2.1.cell q (cntA_at _ hq)
            rw [hm] at d1
            have f1 := hI.out.2.1.free q
            have i3 : 97 ≤ (S[k2]'j4).toNat := by omega
            have i4 : (S[k2]'j4).toNat ≤ 122 := by omega
            have i5 : q = (S[k2]'j4).toNat - 97 := by omega
            rw [i5] at d1 f1
            replace i5 := Lib.hid i5
            replace hnew := Lib.hid hnew
            replace hm := Lib.hid hm
            clear hSk htk hu hv
            go_wp2
            obtain ⟨h1, h2, h3⟩ := hI.out
            have hI2 : Hid (Blk (wr.setCell ⟨M + 1, (S[k2]'j4).toNat - 97, none⟩ (.int .i64 ((m : Int) + 1))) M 40 (cntA (lettersFrom 0 l)) ∧ Blk (wr.setCell ⟨M + 1, (S[k2]'j4).toNat - 97, none⟩ (.int .i64 ((m : Int) + 1))) (M + 1) 40 (cntA (D.take (k2 + 1))) ∧ Below w.heap.size w (wr.setCell ⟨M + 1, (S[k2]'j4).toNat - 97, none⟩ (.int .i64 ((m : Int) + 1)))) := by
              rw [← i5.out]
              refine Lib.hid ⟨?_, ?_, ?_⟩
              · exact h1.other (b' := M + 1) (j := q) _ (by omega)
              · rw [← hnew.out]
                exact h2.set (j := q) (.int .i64 ((m : Int) + 1))
              · exact h3.setCell (p := ⟨M + 1, q, none⟩) (by show w.heap.size ≤ M + 1; omega) _
            clear h1 h2 h3 hI d1 f1
            go_roundw
            case rel => exact ⟨k2 + 1, hlt2, by go_num, hI2.out⟩
            case measure => simp [intOf]; omega
        · have e : k2 = N := by omega
          subst e
          have hfin : Blk wr M 40 (cntA D) ∧ Blk wr (M + 1) 40 (cntA D) ∧ Below w.heap.size w wr := by
            have := hI.out
            rw [← hcnt.out, List.take_of_length_le (by rw [hDN.out]; exact Nat.le_refl _)] at this
            exact this
          replace hfin := Lib.hid hfin
          have heq := run_eq_cnt D wr
          have j7 : ¬ k2 < S.size := by rw [hN.out]; exact hlt2
          clear hI
          go_wp2_with (first
            | (refine wpList_load_arr rfl 40 (.tmp 7) rfl M rfl 40 _ (0, 0) _ hfin.out.1 (show Try.prog.underlying 40 = some (.array 26 3) by kernel_rfl) rfl (by rw [cntA_size]; kernel_rfl) ?_)
            | (refine wpList_load_arr rfl 40 (.tmp 8) rfl (M + 1) rfl 40 _ (0, 0) _ hfin.out.2.1 (show Try.prog.underlying 40 = some (.array 26 3) by kernel_rfl) rfl (by rw [cntA_size]; kernel_rfl) ?_))
          go_ret
          exact ⟨rfl, hfin.out.2.2⟩

theorem counts_walk (A : Option Addr) (c : Nat) (l : List Int) (w : World) (hl : l.length ≤ 17592186043904) (h : Ints w (.slice A l.length c) l) :
    Calls Try.prog 6 #[.slice A l.length c] w fun e w' => e = .returned (.bool true) ∧ Below w.heap.size w w' := by
  by_cases hE : lettersE l = 0
  · exact counts_good A c l w hl h hE
  · exact counts_bad A c l w hl h hE

end Go.Proofs.Ytafdbibjcohdbaa
