/-
  RouteDeep: the law's body.
-/
import Derived.Test.YtlpgkkaeojnndaaDoorPA
namespace Go.Proofs.YtlpgkkaeojnndaaDoor
open Go.RowKit

theorem inP_trans {a b c : List UInt8} (h : inP a b) (k : inP b c) : inP a c := by
  obtain ⟨va, _, q, hq, e⟩ := h
  obtain ⟨_, vc, r, _, e2⟩ := k
  exact ⟨va, vc, r ++ q, by simp [hq], by rw [e, e2, List.append_assoc]⟩

theorem within_in {s f : ByteArray} (h : withinB s f = true) : inP s.data.toList f.data.toList := by
  by_cases hi : inP s.data.toList f.data.toList
  · exact hi
  · rw [within_not hi] at h; cases h

theorem within_trans {a b c : ByteArray} (h : withinB a b = true) (k : withinB b c = true) : withinB a c = true := within_yes (inP_trans (within_in h) (within_in k))

/-- The first k names of a path are a path. -/
def upTo (a : ByteArray) (k : Nat) : ByteArray := bs (Lib.join ((pieces a.data.toList).take k) [47])

theorem upTo_pieces (a : ByteArray) (k : Nat) (h1 : 1 ≤ k) : pieces (upTo a k).data.toList = (pieces a.data.toList).take k := by
  show pieces (Lib.join ((pieces a.data.toList).take k) [47]) = _
  obtain ⟨p, ps, e⟩ := pieces_cons a.data.toList
  refine pieces_join _ ?_ fun x hx => pieces_no a.data.toList x (List.mem_of_mem_take hx)
  rw [e]
  obtain ⟨k, rfl⟩ : ∃ m, k = m + 1 := ⟨k - 1, by omega⟩
  simp

theorem upTo_all (a : ByteArray) (k : Nat) (h : (pieces a.data.toList).length ≤ k) : upTo a k = a := by
  unfold upTo
  rw [List.take_of_length_le h, join_pieces, data_bs]

theorem upTo_len (a : ByteArray) (k : Nat) (h1 : 1 ≤ k) : (upTo a k).size ≤ a.size := by
  by_cases h : (pieces a.data.toList).length ≤ k
  · rw [upTo_all a k h]; exact Nat.le_refl _
  · have e := join_append ((pieces a.data.toList).take k) ((pieces a.data.toList).drop k) (fun e => by
      have := congrArg List.length e
      rw [List.length_take, List.length_nil] at this
      omega) (fun e => by
      have := congrArg List.length e
      rw [List.length_drop, List.length_nil] at this
      omega)
    rw [List.take_append_drop, join_pieces] at e
    have e2 := congrArg List.length e
    rw [List.length_append, size_data] at e2
    have e3 : (upTo a k).size = (Lib.join ((pieces a.data.toList).take k) [47]).length := by rw [← size_data]; rfl
    omega

theorem upTo_valid {a : ByteArray} (h : validB a = true) (k : Nat) (h1 : 1 ≤ k) : validB (upTo a k) = true := by
  have hv : validL a.data.toList := of_decide_eq_true h
  refine valid_yes ⟨?_, ?_, ?_⟩
  · rw [size_data]
    have := upTo_len a k h1
    have := hv.1
    rw [size_data] at this
    omega
  · rw [upTo_pieces a k h1]
    exact fun p hp => hv.2.1 p (List.mem_of_mem_take hp)
  · rw [upTo_pieces a k h1, List.length_take]
    have := hv.2.2
    omega

theorem upTo_parent {a : ByteArray} (h : validB a = true) (k : Nat) (h1 : 1 ≤ k) (h2 : k < (pieces a.data.toList).length) : parentB (upTo a (k + 1)) = (upTo a k, true) := by
  have hp := upTo_pieces a (k + 1) (by omega)
  rw [parentB_yes (upTo_valid h _ (by omega)) (by rw [hp, List.length_take]; omega), hp]
  unfold upTo
  rw [List.dropLast_eq_take, List.length_take, List.take_take, show min (min (k + 1) (pieces a.data.toList).length - 1) (k + 1) = k by omega]

theorem upTo_end {a : ByteArray} : parentB (upTo a 1) = (⟨#[]⟩, false) := parentB_not fun hh => by
  have := hh.2
  rw [upTo_pieces a 1 (by omega), List.length_take] at this
  omega

theorem upTo_in {a : ByteArray} (h : validB a = true) (k : Nat) (h1 : 1 ≤ k) (h2 : k < (pieces a.data.toList).length) : withinB a (upTo a k) = true := by
  refine within_yes ⟨of_decide_eq_true h, of_decide_eq_true (upTo_valid h k h1), (pieces a.data.toList).drop k, fun e => ?_, ?_⟩
  · have := congrArg List.length e
    rw [List.length_drop, List.length_nil] at this
    omega
  · rw [upTo_pieces a k h1, List.take_append_drop]

theorem upTo_out {a : ByteArray} (k : Nat) (h1 : 1 ≤ k) (h2 : k < (pieces a.data.toList).length) : withinB (upTo a k) a = false := within_not fun h => by
  obtain ⟨_, _, q, hq, e⟩ := h
  rw [upTo_pieces a k h1] at e
  have := congrArg List.length e
  rw [List.length_take, List.length_append] at this
  have : 1 ≤ q.length := by cases q with | nil => exact absurd rfl hq | cons => simp
  omega

theorem cmpL_take : ∀ (l : List (List UInt8)) (k : Nat), k < l.length → cmpL (l.take k) l = -1
  | [], _, h => by simp at h
  | x :: l, 0, _ => rfl
  | x :: l, k + 1, h => by
    rw [List.take_succ_cons, cmpL, if_pos (cmpS_self x)]
    exact cmpL_take l k (by simpa using h)

theorem upTo_less {a : ByteArray} (k : Nat) (h1 : 1 ≤ k) (h2 : k < (pieces a.data.toList).length) : cmpB (upTo a k) a = -1 := by
  unfold cmpB
  rw [upTo_pieces a k h1]
  exact cmpL_take _ k h2

theorem ab_in : withinB ⟨#[97, 47, 98]⟩ ⟨#[97]⟩ = true := within_yes ⟨by decide, by decide, [[98]], by simp, by decide⟩

set_option maxHeartbeats 8000000 in
theorem law_deep (a b c : ByteArray) (ha : a.size ≤ 140737488351232) (hb : b.size ≤ 140737488351232) (hc : c.size ≤ 140737488351232) (w : World) :
    Calls Tryd.prog 6 #[.string a, .string b, .string c] w fun e w' => e = .returned (.bool true) ∧ Below w.heap.size w w' := by
  have hab := ab_in
  have s1 : (⟨#[97, 47, 98]⟩ : ByteArray).size ≤ 140737488351232 := by decide
  have s2 : (⟨#[97]⟩ : ByteArray).size ≤ 140737488351232 := by decide
  have hW := Lib.hid fun (x y : ByteArray) (h : x.size ≤ 140737488351232) (k : y.size ≤ 140737488351232) (W : World) => within_any x y (by omega) (by omega) W
  have hB : Hid (Below w.heap.size w w) := Below.refl _ _
  obtain ⟨P, hP⟩ : ∃ P, withinB a b = P := ⟨_, rfl⟩
  obtain ⟨Q, hQ⟩ : ∃ Q, withinB b c = Q := ⟨_, rfl⟩
  obtain ⟨R, hR⟩ : ∃ R, withinB a c = R := ⟨_, rfl⟩
  have ht : P = true → Q = true → R = true := fun h k => by rw [← hR]; exact within_trans (by rw [hP, h]) (by rw [hQ, k])
  have htt : (P && Q && !R) = false := by cases P <;> cases Q <;> cases R <;> simp_all
  have hu := Lib.hid fun (s : ByteArray) (h : s.size ≤ 140737488351232) (W : World) => parent_any s (by omega) W
  have hC := Lib.hid fun (x y : ByteArray) (h : x.size ≤ 1048576) (k : y.size ≤ 1048576) (W : World) => compare_any x y (by omega) (by omega) W
  cases hv : validB a with
  | false =>
    have hV := fun W => valid_is (s := a) (by omega) hv W
    have hpar : parentB a = (⟨#[]⟩, false) := parentB_not fun h => by rw [h.1] at hv; cases hv
    have hpa := fun W => parent_any a (by omega) W
    rw [hpar] at hpa
    replace hpa := Lib.hid hpa
    clear hv hpar hu hC
    cases P <;> cases Q <;> cases R
    all_goals first
      | (exfalso; simp at htt; done)
      | skip
    all_goals
      clear ht htt
      go_enter Tryd.func6, Tryd.ntmps6
      go_wp2_with (first
        | (go_at_call 10; refine (hW.out _ _ (by assumption) (by assumption) _).mono ?_; rintro e w1 ⟨rfl, hb1⟩; replace hB := grow hB hb1; clear hb1))
      refine wp_loop_once ?_
      go_wp2_with (first
        | (go_at_call 17; refine (hpa.out _).mono ?_; rintro e w1 ⟨rfl, hb1⟩; replace hB := grow hB hb1; clear hb1)
        | (go_at_call 13; refine (hV _).mono ?_; rintro e w1 ⟨rfl, hb1⟩; replace hB := grow hB hb1; clear hb1))
      go_ret
      exact ⟨rfl, hB.out⟩
  | true =>
    have hV := fun W => valid_is (s := a) (by omega) hv W
    have hasz := valid_size hv
    have hL0 : 1 ≤ (pieces a.data.toList).length := by
      obtain ⟨p, ps, e⟩ := pieces_cons a.data.toList
      rw [e]
      simp
    have hL1 : (pieces a.data.toList).length ≤ 64 := (of_decide_eq_true hv : validL a.data.toList).2.2
    have hA1 := Lib.hid fun k (h1 : 1 ≤ k) (h2 : k < (pieces a.data.toList).length) => upTo_parent hv k h1 h2
    have hA2 := Lib.hid fun k (h1 : 1 ≤ k) (h2 : k < (pieces a.data.toList).length) => upTo_in hv k h1 h2
    have hA3 := Lib.hid fun k (h1 : 1 ≤ k) (h2 : k < (pieces a.data.toList).length) => upTo_out (a := a) k h1 h2
    have hA4 := Lib.hid fun k (h1 : 1 ≤ k) (h2 : k < (pieces a.data.toList).length) => upTo_less (a := a) k h1 h2
    have hA5 := Lib.hid fun k (h1 : 1 ≤ k) => upTo_len a k h1
    have hst : upTo a (pieces a.data.toList).length = a := upTo_all a _ (Nat.le_refl _)
    obtain ⟨L, hL⟩ : ∃ L, (pieces a.data.toList).length = L := ⟨_, rfl⟩
    rw [hL] at hL0 hL1 hA1 hA2 hA3 hA4 hst
    replace hst := Lib.hid hst
    clear hv hL
    cases P <;> cases Q <;> cases R
    all_goals first
      | (exfalso; simp at htt; done)
      | skip
    all_goals
      clear ht htt
      go_enter Tryd.func6, Tryd.ntmps6
      go_wp2_with (first
        | (go_at_call 10; refine (hW.out _ _ (by assumption) (by assumption) _).mono ?_; rintro e w1 ⟨rfl, hb1⟩; replace hB := grow hB hb1; clear hb1))
      clear hab s1 s2 hP hQ hR hb hc
      go_loopw [7, 8] (fun s7 s8 wr => ∃ (n k : Nat) (s : ByteArray), Hid (s = upTo a k) ∧ n + k = L ∧ 1 ≤ k ∧ s7 = .string s ∧ s8 = .int .i64 n ∧ Hid (Below w.heap.size w wr)) (fun _ s8 _ => 64 - (intOf s8).toNat)
      case atStart => exact ⟨0, L, a, hst.out.symm, by omega, hL0, rfl, rfl, hB⟩
      case round =>
        clear hB
        obtain ⟨n, k, s, hs, hk, hk1, rfl, rfl, hB⟩ := hrel
        have n63 : n ≤ 63 := by omega
        have hsz : s.size ≤ 1024 := by have := hA5.out k hk1; rw [← hs.out] at this; omega
        by_cases h1 : 2 ≤ k
        · obtain ⟨k, rfl⟩ : ∃ m, k = m + 1 := ⟨k - 1, by omega⟩
          have e1 := hA1.out k (by omega) (by omega)
          have e2 := hA2.out k (by omega) (by omega)
          have e3 := hA3.out k (by omega) (by omega)
          have e4 := hA4.out k (by omega) (by omega)
          have e5 := hA5.out k (by omega)
          have hpa := fun W => hu.out s (by omega) W
          rw [hs.out, e1] at hpa
          rw [← hs.out] at hpa
          obtain ⟨p, hp⟩ : ∃ p, upTo a k = p := ⟨_, rfl⟩
          rw [hp] at e2 e3 e4 e5 hpa
          have hp' : Hid (p = upTo a k) := hp.symm
          replace hpa := Lib.hid hpa
          have b1 : a.size ≤ 140737488351232 := by omega
          have b2 : p.size ≤ 140737488351232 := by omega
          have b3 : a.size ≤ 1048576 := by omega
          have b4 : p.size ≤ 1048576 := by omega
          clear e1 hp
          go_wp2_with (first
            | (go_at_call 17; refine (hpa.out _).mono ?_; rintro e w1 ⟨rfl, hb1⟩; replace hB := grow hB hb1; clear hb1)
            | (go_at_call 10; refine (hW.out _ _ (by assumption) (by assumption) _).mono ?_; rintro e w1 ⟨rfl, hb1⟩; replace hB := grow hB hb1; clear hb1)
            | (go_at_call 8; refine (hC.out _ _ (by assumption) (by assumption) _).mono ?_; rintro e w1 ⟨rfl, hb1⟩; replace hB := grow hB hb1; clear hb1))
          go_roundw
          case rel => exact ⟨n + 1, k, p, hp', by omega, by omega, rfl, by go_num, hB⟩
          case measure => simp [intOf]; omega
        · obtain rfl : k = 1 := by omega
          have hpa := fun W => hu.out s (by omega) W
          have d64 : decide ((n : Int) < 64) = true := decide_eq_true (by omega)
          rw [hs.out, upTo_end] at hpa
          rw [← hs.out] at hpa
          replace hpa := Lib.hid hpa
          go_wp2_with (first
            | (go_at_call 17; refine (hpa.out _).mono ?_; rintro e w1 ⟨rfl, hb1⟩; replace hB := grow hB hb1; clear hb1)
            | (go_at_call 13; refine (hV _).mono ?_; rintro e w1 ⟨rfl, hb1⟩; replace hB := grow hB hb1; clear hb1))
          go_ret
          exact ⟨rfl, hB.out⟩

end Go.Proofs.YtlpgkkaeojnndaaDoor
