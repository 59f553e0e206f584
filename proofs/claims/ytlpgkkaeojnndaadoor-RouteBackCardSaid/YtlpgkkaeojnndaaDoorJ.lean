/-
  route.Join: the path of names, for every list of texts.
-/
import Derived.Test.YtlpgkkaeojnndaaDoorN
import Derived.Test.YtlpgkkaeojnndaaDoorShelf
import Derived.OwnWalk
namespace Go.Proofs.YtlpgkkaeojnndaaDoor
open Go.RowKit

def Strs (w : World) (b o : Nat) (l : List ByteArray) : Prop := ∀ (j : Nat) (x : ByteArray), l[j]? = some x → w.cell? ⟨b, o + j, none⟩ = some (.string x)
def sumN (l : List ByteArray) : Nat := (l.map fun x => 1 + x.size).sum
theorem sumN_snoc (l : List ByteArray) (x : ByteArray) : sumN (l ++ [x]) = sumN l + (1 + x.size) := by simp [sumN]
def datas (l : List ByteArray) : List (List UInt8) := l.map fun x => x.data.toList
def allNames (l : List ByteArray) : Prop := ∀ x ∈ l, nameL x.data.toList
def joinOk (l : List ByteArray) : Prop := allNames l ∧ sumN l ≤ 1025 ∧ 1 ≤ l.length ∧ l.length ≤ 64
open Classical in
noncomputable def joinR (l : List ByteArray) : ByteArray × Int := if joinOk l then (⟨(Lib.join (datas l) [47]).toArray⟩, 0) else (⟨#[]⟩, 20)
theorem joinR_yes {l : List ByteArray} (h : joinOk l) : joinR l = (⟨(Lib.join (datas l) [47]).toArray⟩, 0) := by unfold joinR; rw [if_pos h]
theorem joinR_no {l : List ByteArray} (h : ¬ joinOk l) : joinR l = (⟨#[]⟩, 20) := by unfold joinR; rw [if_neg h]

theorem sumN_le (l : List ByteArray) (h : allNames l) : sumN l ≤ 256 * l.length := by
  induction l with
  | nil => simp [sumN]
  | cons x l ih =>
    have h1 := (h x (by simp)).2.1
    rw [size_data] at h1
    have h2 := ih fun y hy => h y (by simp [hy])
    simp only [sumN, List.map_cons, List.sum_cons, List.length_cons] at h2 ⊢
    omega

theorem join_length : ∀ l : List ByteArray, l ≠ [] → (Lib.join (datas l) [47]).length + 1 = sumN l
  | [], h => absurd rfl h
  | [x], _ => by simp [datas, Lib.join_one, sumN]; omega
  | x :: y :: l, _ => by
    have ih := join_length (y :: l) (by simp)
    simp only [datas, List.map_cons] at ih ⊢
    rw [join_cons2]
    simp only [sumN, List.map_cons, List.sum_cons, List.length_append, List.length_cons] at ih ⊢
    have e : x.data.toList.length = x.size := size_data x
    omega

theorem take_snoc_at {α : Type} (l : List α) (k : Nat) (x : α) (h : l[k]? = some x) : l.take (k + 1) = l.take k ++ [x] := by
  obtain ⟨hk, rfl⟩ := List.getElem?_eq_some_iff.1 h
  exact List.take_succ_eq_append_getElem hk

theorem name_true {s : ByteArray} (h : nameL s.data.toList) (w : World) :
    Calls Tryd.prog 29 #[.string s] w fun e w' => e = .returned (.bool true) ∧ Below w.heap.size w w' :=
  (name_any s w).mono fun e w' ⟨he, hw⟩ => ⟨by rw [he]; unfold nameB; rw [decide_eq_true h], hw⟩
theorem name_false {s : ByteArray} (h : ¬ nameL s.data.toList) (w : World) :
    Calls Tryd.prog 29 #[.string s] w fun e w' => e = .returned (.bool false) ∧ Below w.heap.size w w' :=
  (name_any s w).mono fun e w' ⟨he, hw⟩ => ⟨by rw [he]; unfold nameB; rw [decide_eq_false h], hw⟩

theorem ret_pair {s s' : ByteArray} {a b : Int} (h1 : s = s') (h2 : a = b) : Ending.returned (.tuple #[.string s, .int .i64 a]) = .returned (.tuple #[.string s', .int .i64 b]) := by rw [h1, h2]

theorem join_nil (c : Nat) (A : Option Addr) (w : World) :
    Calls Tryd.prog 23 #[.slice A 0 c] w fun e w' => e = .returned (.tuple #[.string (joinR []).1, .int .i64 (joinR []).2]) ∧ Below w.heap.size w w' := by
  have h : joinR [] = (⟨#[]⟩, 20) := joinR_no fun h => by have := h.2.2.1; simp at this
  rw [h]
  clear h
  go_enter Tryd.func23, Tryd.ntmps23
  go_wp2
  refine wp_loop_once ?_
  go_wp2
  go_ret2
  exact ⟨rfl, Below.refl _ _⟩

set_option maxHeartbeats 2000000 in
theorem join_some (l : List ByteArray) (b o c : Nat) (w : World) (hl : l.length ≤ 8796093022208) (hs : ∀ x ∈ l, x.size ≤ 9223372036854775807) (hc : l.length ≤ c) (hcell : Strs w b o l) (h0 : 1 ≤ l.length) :
    Calls Tryd.prog 23 #[.slice (some ⟨b, o, none⟩) l.length c] w fun e w' => e = .returned (.tuple #[.string (joinR l).1, .int .i64 (joinR l).2]) ∧ Below w.heap.size w w' := by
  have hcell := Lib.hid hcell
  have hs := Lib.hid hs
  obtain ⟨n, hn⟩ : ∃ n, n = l.length := ⟨_, rfl⟩
  rw [← hn] at hl hc h0
  rw [← hn]
  have hN : Hid (n = l.length) := hn
  have hbk : b < w.heap.size := by
    obtain ⟨x, hx⟩ : ∃ x, l[0]? = some x := ⟨l[0]'(by omega), List.getElem?_eq_getElem _⟩
    exact World.block_lt_of_cell? w _ (hcell.out 0 x hx)
  clear hn
  go_enter Tryd.func23, Tryd.ntmps23
  go_wp2
  go_loopw [4, 9] (fun s4 s9 wr => ∃ k S : Nat, k ≤ n ∧ s9 = .int .i64 k ∧ s4 = .int .i64 S ∧ Hid (S = sumN (l.take k)) ∧ S ≤ 256 * k ∧ Hid (allNames (l.take k)) ∧ Hid (Below w.heap.size w wr)) (fun _ s9 _ => n - (intOf s9).toNat)
  case atStart => exact ⟨0, 0, Nat.zero_le _, rfl, rfl, (rfl : 0 = sumN []), Nat.zero_le _, fun x hx => by simp at hx, Below.refl _ _⟩
  case round =>
    obtain ⟨k, S, hk, rfl, rfl, hS, hSb, hal, hB⟩ := hrel
    by_cases hlt : k < n
    · obtain ⟨x, hx⟩ : ∃ x, l[k]? = some x := ⟨l[k]'(by have := hN.out; omega), List.getElem?_eq_getElem _⟩
      have hxs : x.size ≤ 9223372036854775807 := hs.out x (List.mem_of_getElem? hx)
      have hcx : wr.cell? ⟨b, o + k, none⟩ = some (.string x) := (hB.out.cell (p := ⟨b, o + k, none⟩) hbk).trans (hcell.out k x hx)
      have hx' := Lib.hid hx
      clear hx
      by_cases hnm : nameL x.data.toList
      · have hcall := fun W => name_true (s := x) hnm W
        have hx5 : x.size ≤ 255 := by have := hnm.2.1; rwa [size_data] at this
        have hS2 : Hid (S + (1 + x.size) = sumN (l.take (k + 1))) := by
          show _ = _
          rw [take_snoc_at l k x hx'.out, sumN_snoc, hS.out]
        have hal2 : Hid (allNames (l.take (k + 1))) := fun y hy => by
          rw [take_snoc_at l k x hx'.out] at hy
          rcases List.mem_append.1 hy with hy | hy
          · exact hal.out y hy
          · rw [List.mem_singleton] at hy; subst hy; exact hnm
        have hnm' := Lib.hid hnm
        clear hnm hS hal
        go_wp2_with (go_at_call 29; refine (hcall _).mono ?_; clear hcall; rintro e w' ⟨rfl, hb⟩; have hbb := Lib.hid hb; clear hb)
        go_roundw
        case rel => exact ⟨k + 1, S + (1 + x.size), by omega, by go_num, by go_num, hS2, by omega, hal2, hB.out.trans (hbb.out.mono hB.out.size)⟩
        case measure => simp [intOf]; omega
      · have hcall := fun W => name_false (s := x) hnm W
        have hR : Hid (joinR l = (⟨#[]⟩, 20)) := joinR_no fun h => hnm (h.1 x (List.mem_of_getElem? hx'.out))
        clear hnm hS hal
        go_wp2_with (go_at_call 29; refine (hcall _).mono ?_; clear hcall; rintro e w' ⟨rfl, hb⟩; have hbb := Lib.hid hb; clear hb)
        go_ret2
        exact ⟨ret_pair (by rw [hR.out]) (by rw [hR.out]), hB.out.trans (hbb.out.mono hB.out.size)⟩
    · have hkn : k = n := by omega
      have hSl : Hid (S = sumN l) := by
        have := hS.out
        rw [hkn, hN.out, List.take_of_length_le (Nat.le_refl _)] at this
        exact this
      have hall : Hid (allNames l) := by
        have := hal.out
        rw [hkn, hN.out, List.take_of_length_le (Nat.le_refl _)] at this
        exact this
      clear hS hal
      by_cases hok : S ≤ 1025 ∧ n ≤ 64
      · obtain ⟨o1, o2⟩ := hok
        have hR : Hid (joinR l = (⟨(Lib.join (datas l) [47]).toArray⟩, 0)) := joinR_yes ⟨hall.out, by have := hSl.out; omega, by have := hN.out; omega, by have := hN.out; omega⟩
        have hlen : (Lib.join (l.map (·.data.toList)) (⟨#[47]⟩ : ByteArray).data.toList).length ≤ 140737488355328 := by
          have h := join_length l (fun e => by have := hN.out; rw [e] at this; simp at this; omega)
          have := hSl.out
          show (Lib.join (datas l) [47]).length ≤ _
          omega
        have hj := fun (W : World) (hW : Below w.heap.size w W) => Tryd.strings_Join b o c l ⟨#[47]⟩ W (fun j x hx => (hW.cell (p := ⟨b, o + j, none⟩) hbk).trans (hcell.out j x hx)) (Nat.lt_of_lt_of_le hbk hW.size) (by have := hN.out; omega) (by have := hN.out; omega) hlen
        have hj := Lib.hid hj
        have d1 : decide (1025 < (S : Int)) = false := decide_eq_false (by omega)
        have d2 : decide ((n : Int) < 1) = false := decide_eq_false (by omega)
        have d3 : decide (64 < (n : Int)) = false := decide_eq_false (by omega)
        have hN' : Hid (l.length = n) := hN.out.symm
        clear hlen
        go_wp2_with (go_at_call 35; rw [← hN'.out]; refine (hj.out _ hB.out).mono ?_; rintro e w' ⟨rfl, hb⟩; have hbb := Lib.hid hb; clear hb)
        go_ret2
        exact ⟨ret_pair (by rw [hR.out]; rfl) (by rw [hR.out]), hB.out.trans (hbb.out.mono hB.out.size)⟩
      · have hR : Hid (joinR l = (⟨#[]⟩, 20)) := joinR_no fun h => hok ⟨by have := h.2.1; have := hSl.out; omega, by have := h.2.2.2; have := hN.out; omega⟩
        by_cases c1 : 1025 < S
        · have d1 : decide (1025 < (S : Int)) = true := decide_eq_true (by omega)
          clear hok
          go_wp2
          go_ret2
          exact ⟨ret_pair (by rw [hR.out]) (by rw [hR.out]), hB.out⟩
        · have d1 : decide (1025 < (S : Int)) = false := decide_eq_false (by omega)
          have d2 : decide ((n : Int) < 1) = false := decide_eq_false (by omega)
          have d3 : decide (64 < (n : Int)) = true := decide_eq_true (by omega)
          clear hok
          go_wp2
          go_ret2
          exact ⟨ret_pair (by rw [hR.out]) (by rw [hR.out]), hB.out⟩

end Go.Proofs.YtlpgkkaeojnndaaDoor
