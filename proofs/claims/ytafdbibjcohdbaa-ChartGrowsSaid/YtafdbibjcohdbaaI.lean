/-
  slices.Repeat of bytes.
-/
import Derived.Test.YtafdbibjcohdbaaH
import Derived.Laws.CopyOwn
import Derived.Deep.OwnRows
import Derived.Lib.RepeatB
import Derived.Deep.RegionLaw
import Derived.Deep.Heap
namespace Go.Proofs.Ytafdbibjcohdbaa
open Go.RowKit

/-- q copies in a row of N bytes, zeros behind them. -/
def fillL (xs : List UInt8) (N q : Nat) : List Value := Lib.byteCells (Lib.repeatL xs q) ++ List.replicate (N - q * xs.length) (.int .u8 0)
theorem fillL_length {xs : List UInt8} {N q : Nat} (h : q * xs.length ≤ N) : (fillL xs N q).length = N := by
  unfold fillL
  rw [List.length_append, Lib.byteCells_length, Lib.repeatL_length, List.length_replicate]
  omega
theorem fillL_zero (xs : List UInt8) (N : Nat) : fillL xs N 0 = List.replicate N (.int .u8 0) := by simp [fillL, Lib.repeatL, Lib.byteCells]
theorem fillL_full {xs : List UInt8} {c : Nat} : fillL xs (c * xs.length) c = Lib.byteCells (Lib.repeatL xs c) := by simp [fillL]
theorem fill_step {xs : List UInt8} {N q k m : Nat} (hm : m = q * xs.length) (h : (q + k) * xs.length ≤ N) : splice (fillL xs N q) m (Lib.byteCells (Lib.repeatL xs k)) = fillL xs N (q + k) := by
  subst hm
  have e1 : (Lib.byteCells (Lib.repeatL xs q)).length = q * xs.length := by rw [Lib.byteCells_length, Lib.repeatL_length]
  have e2 : (Lib.byteCells (Lib.repeatL xs k)).length = k * xs.length := by rw [Lib.byteCells_length, Lib.repeatL_length]
  have e3 : (q + k) * xs.length = q * xs.length + k * xs.length := Nat.add_mul ..
  unfold splice fillL
  rw [List.take_append_of_le_length (by omega), List.take_of_length_le (by omega), e2, List.drop_append, List.drop_of_length_le (by omega), List.nil_append, List.drop_replicate, e1,
    Lib.repeatL_add, Lib.byteCells_append, List.append_assoc]
  congr 3
  omega

theorem byte_at {l : List UInt8} {j : Nat} {v : Value} (h : (Lib.byteCells l)[j]? = some v) : ∃ b, l[j]? = some b ∧ v = .int .u8 b.toNat := by
  unfold Lib.byteCells at h
  rw [List.getElem?_map] at h
  cases e : l[j]? with
  | none => rw [e] at h; cases h
  | some b => rw [e] at h; cases h; exact ⟨b, rfl, rfl⟩
theorem one_bytes (l : List UInt8) : ∀ v ∈ Lib.byteCells l, v.oneCell' = true := by
  intro v hv
  simp only [Lib.byteCells, List.mem_map] at hv
  obtain ⟨b, _, rfl⟩ := hv
  rfl
theorem ib5 : (Try.prog.info? 5).map (fun i => (i.zero, i.size, i.bytes)) = some (some (.int .u8 0), 1, 1) := by kernel_rfl
theorem ib5s : (Try.prog.info? 5).map (·.size) = some 1 := by kernel_rfl

theorem made_one (z : Value) (n : Nat) : madeCells #[z] n = (List.replicate n z).toArray := by
  apply Array.ext_getElem?
  intro i
  by_cases h : i < n
  · simp [madeCells, h, Nat.mod_one]
  · simp [madeCells, h]

set_option maxHeartbeats 2000000 in
set_option maxRecDepth 100000 in
theorem srep_any (g cap c : Nat) (xs : List UInt8) (w : World) (hx : ∀ j b, xs[j]? = some b → w.cell? ⟨g, j, none⟩ = some (.int .u8 b.toNat)) (h1 : 1 ≤ xs.length) (hc : 1 ≤ c) (hbd : c * xs.length ≤ 1073741824) :
    Calls Try.prog 23 #[.slice (some ⟨g, 0, none⟩) xs.length cap, .int .i64 c] w fun e w' => e = .returned (.slice (some ⟨w.heap.size, 0, none⟩) (c * xs.length) (c * xs.length)) ∧
      w'.heap[w.heap.size]? = some (.cells (Lib.byteCells (Lib.repeatL xs c)).toArray 5 (0, 0)) ∧ Below w.heap.size w w' := by
  obtain ⟨n, hn⟩ : ∃ n, xs.length = n := ⟨_, rfl⟩
  obtain ⟨N, hN⟩ : ∃ N, c * xs.length = N := ⟨_, rfl⟩
  obtain ⟨H, hH⟩ : ∃ H, w.heap.size = H := ⟨_, rfl⟩
  have hNn : n ≤ N := by rw [← hN, ← hn]; exact Nat.le_mul_of_pos_left _ hc
  have hcN : c ≤ N := by rw [← hN]; exact Nat.le_mul_of_pos_right _ h1
  rw [hN] at hbd ⊢
  rw [hn] at h1 ⊢
  have hmul : ∀ W, Calls Try.prog 30 #[.int .u64 n, .int .u64 c] W fun e w' => e = .returned (.tuple #[.int .u64 0, .int .u64 N]) ∧ w' = W := fun W => by
    have := Try.bits_Mul n c (by omega) (by omega) W
    rw [Nat.mul_comm n c, ← hn, hN, Nat.div_eq_of_lt (by omega), Nat.mod_eq_of_lt (by omega), hn] at this
    exact this
  replace hn := Lib.hid hn
  replace hN := Lib.hid hN
  replace hx := Lib.hid hx
  obtain ⟨i0, hi, hz0, hz1, hz2⟩ := info_parts ib5
  replace hz2 : i0.bytes ≤ 1 := by rw [hz2]; exact Nat.le_refl _
  have hA : (w.alloc (.cells (madeCells #[.int .u8 0] N) 5)).heap[H]? = some (.cells (fillL xs N 0).toArray 5 (0, 0)) := by
    rw [fillL_zero, ← hH]
    rw [made_one]
    exact Deep.blk_alloc_new _ _
  replace hA := Lib.hid hA
  have hB0 : Below H w (w.alloc (.cells (madeCells #[.int .u8 0] N) 5)) := (Below.refl _ _).alloc (by omega) _
  have hsrc : ∀ (j : Nat) (v : Value), (Lib.byteCells (Lib.repeatL xs 1))[j]? = some v → (w.alloc (.cells (madeCells #[.int .u8 0] N) 5)).cell? (Addr.add ⟨g, 0, none⟩ j) = some v := fun j v hv => by
    rw [Lib.repeatL_one] at hv
    obtain ⟨b, hb, rfl⟩ := byte_at hv
    have e := hx.out j b hb
    have e2 : Addr.add ⟨g, 0, none⟩ j = ⟨g, j, none⟩ := by unfold Addr.add; split <;> simp_all
    rw [e2]
    exact (World.cell?_alloc_lt w _ _ (World.block_lt_of_cell? w _ e)).trans e
  replace hsrc := Lib.hid hsrc
  have hlen1 : (Lib.byteCells (Lib.repeatL xs 1)).length = n := by rw [Lib.byteCells_length, Lib.repeatL_length, hn.out]; omega
  have hf0 : splice (fillL xs N 0) 0 (Lib.byteCells (Lib.repeatL xs 1)) = fillL xs N 1 := by
    have := fill_step (xs := xs) (N := N) (q := 0) (k := 1) (m := 0) (by omega) (by rw [hn.out]; omega)
    simpa using this
  obtain ⟨C1, hC1⟩ : ∃ C1, Lib.byteCells (Lib.repeatL xs 1) = C1 := ⟨_, rfl⟩
  have hone : ∀ v ∈ C1, v.oneCell' = true := by rw [← hC1]; exact one_bytes _
  rw [hC1] at hsrc hlen1 hf0
  have hfl : (fillL xs N 0).length = N := fillL_length (by omega)
  obtain ⟨F0, hF0⟩ : ∃ F, fillL xs N 0 = F := ⟨_, rfl⟩
  obtain ⟨F1, hF1⟩ : ∃ F, fillL xs N 1 = F := ⟨_, rfl⟩
  rw [hF0] at hA hf0 hfl
  rw [hF1] at hf0
  replace hlen1 := Lib.hid hlen1
  replace hf0 := Lib.hid hf0
  replace hfl := Lib.hid hfl
  replace hF1 := Lib.hid hF1
  replace hone := Lib.hid hone
  clear hC1 hF0
  obtain ⟨n1, n2⟩ : n ≤ 9223372036854775807 ∧ N ≤ 9223372036854775807 := by omega
  have hmin : C1.length = Nat.min n N := by rw [hlen1.out]; exact (Nat.min_eq_left hNn).symm
  replace hmin := Lib.hid hmin
  replace hH := Lib.hid hH
  go_enter Try.func23, Try.ntmps23
  go_wp2_with (first
    | (go_at_call 30; refine (hmul _).mono ?_; clear hmul; rintro e w1 ⟨rfl, rfl⟩)
    | (refine wpList_make_row _ rfl _ _ 55 rfl 5 i0 (.int .u8 0) bu55 hi hz0 hz1 rfl .i64 .i64 N rfl rfl (Nat.le_trans (Nat.mul_le_mul hz2 (Nat.le_refl N)) (by omega)) (by omega) ?_)
    | (rw [hH.out]; refine wpList_copy_splice rfl (.tmp 31) (.tmp 32) 55 55 rfl 5 bu55 ib5s _ _ _ _ _ _ rfl rfl H 0 F0 5 hA.out C1 hmin.out (fun _ => ⟨rfl, _, rfl, hsrc.out⟩) (by rw [hfl.out, hlen1.out]; omega) hone.out H _ hB0 (Nat.le_refl _) ?_; intro w2 hg2 hb2; rw [hlen1.out]; replace hg2 : Hid (w2.heap[H]? = some (.cells F1.toArray 5 (0, 0))) := by rw [← hf0.out]; exact hg2))
  clear hB0 hA hsrc hone hf0 hlen1 hmin hfl
  go_loopw [8] (fun s8 wr => ∃ q m : Nat, 1 ≤ m ∧ m ≤ N ∧ s8 = .int .i64 m ∧ Hid (q ≤ c ∧ m = q * xs.length ∧ wr.heap[H]? = some (.cells (fillL xs N q).toArray 5 (0, 0)) ∧ Below H w1 wr)) (fun s8 _ => N - (intOf s8).toNat)
  case atStart => exact ⟨1, n, h1, hNn, rfl, hc, by rw [hn.out]; omega, by rw [hF1.out]; exact hg2.out, hb2⟩
  case round =>
    obtain ⟨q, m, hm1, hm2, rfl, hI⟩ := hrel
    by_cases hlt : m < N
    · obtain ⟨k, hk⟩ : ∃ k, min (c - q) q = k := ⟨_, rfl⟩
      obtain ⟨hq1, hq2, hq3, hq4⟩ := hI.out
      have hqc : q < c := by
        rcases Nat.lt_or_ge q c with h | h
        · exact h
        · have : q = c := by omega
          subst this
          rw [hN.out] at hq2
          omega
      have hq0 : 1 ≤ q := by
        rcases Nat.eq_zero_or_pos q with h | h
        · subst h; omega
        · exact h
      have hk1 : 1 ≤ k := by omega
      have hkc : q + k ≤ c := by omega
      have hlen : (Lib.byteCells (Lib.repeatL xs k)).length = Nat.min m (N - m) := by
        rw [Lib.byteCells_length, Lib.repeatL_length, ← hk, hq2, ← hN.out, ← Nat.sub_mul]
        show _ = min _ _
        rw [Lib.min_mul, Nat.min_comm]
      have hle : (q + k) * xs.length ≤ N := by rw [← hN.out]; exact Nat.mul_le_mul_right _ hkc
      have hst := fill_step (xs := xs) (N := N) (q := q) (k := k) hq2 hle
      have hfl : (fillL xs N q).length = N := fillL_length (by rw [← hq2]; exact hm2)
      obtain ⟨t, ht⟩ : ∃ t, (Lib.byteCells (Lib.repeatL xs k)).length = t := ⟨_, rfl⟩
      have htv : t = k * xs.length := by rw [← ht, Lib.byteCells_length, Lib.repeatL_length]
      have ht1 : 1 ≤ t := by rw [htv, hn.out]; exact Nat.le_trans h1 (Nat.le_mul_of_pos_left _ hk1)
      have ht2 : m + t ≤ N := by rw [htv, hq2, ← Nat.add_mul]; exact hle
      have hmt : m + t = (q + k) * xs.length := by rw [htv, hq2, ← Nat.add_mul]
      have hsrc : ∀ (j : Nat) (v : Value), (Lib.byteCells (Lib.repeatL xs k))[j]? = some v → wr.cell? (Addr.add ⟨H, 0, none⟩ j) = some v := fun j v hv => by
        have e2 : Addr.add ⟨H, 0, none⟩ j = ⟨H, j, none⟩ := by unfold Addr.add; split <;> simp_all
        have hj : j < (Lib.byteCells (Lib.repeatL xs k)).length := (List.getElem?_eq_some_iff.1 hv).1
        rw [e2]
        simp only [World.cell?, hq3, List.getElem?_toArray]
        have hqk : q = k + (q - k) := by omega
        have : fillL xs N q = Lib.byteCells (Lib.repeatL xs k) ++ (Lib.byteCells (Lib.repeatL xs (q - k)) ++ List.replicate (N - q * xs.length) (.int .u8 0)) := by
          unfold fillL
          rw [← List.append_assoc, ← Lib.byteCells_append, ← Lib.repeatL_add, ← hqk]
        rw [this, List.getElem?_append_left hj]
        exact hv
      obtain ⟨C1, hC1⟩ : ∃ C1, Lib.byteCells (Lib.repeatL xs k) = C1 := ⟨_, rfl⟩
      have hone : ∀ v ∈ C1, v.oneCell' = true := by rw [← hC1]; exact one_bytes _
      obtain ⟨F0, hF0⟩ : ∃ F, fillL xs N q = F := ⟨_, rfl⟩
      obtain ⟨F2, hF2⟩ : ∃ F, fillL xs N (q + k) = F := ⟨_, rfl⟩
      rw [hC1] at hsrc hlen hst ht
      rw [hF0] at hq3 hst hfl
      rw [hF2] at hst
      replace hsrc := Lib.hid hsrc
      replace hlen := Lib.hid hlen
      replace hst := Lib.hid hst
      replace hfl := Lib.hid hfl
      replace hone := Lib.hid hone
      replace hF2 := Lib.hid hF2
      replace ht := Lib.hid ht
      replace hq3 := Lib.hid hq3
      replace hmt := Lib.hid hmt
      clear hC1 hF0 hk hle htv hq2 hI
      obtain ⟨n3, n4⟩ : m ≤ 9223372036854775807 ∧ N ≤ 9223372036854775807 := by omega
      have i1 : (0 : Int) ≤ (m : Int) := by omega
      have i2 : (m : Int) ≤ (N : Int) := by omega
      have i3 : ¬ N = m := by omega
      have i4 : IntKind.i64.wrap ((m : Int) + (t : Int)) = (m : Int) + (t : Int) := IntWalk.i64_in _ (by omega)
      go_wp2
      go_region_law ((refine step_copy_splice rfl (.tmp 41) (.tmp 44) 55 55 rfl 5 bu55 ib5s (some ⟨H, m, none⟩) (some ⟨H, 0, none⟩) (N - m) (N - m) m N (by kernel_rfl) (by kernel_rfl) H m F0 5 hq3.out C1 hlen.out (fun _ => ⟨rfl, _, rfl, hsrc.out⟩) (by rw [hfl.out, ht.out]; omega) hone.out H _ hq4.drew (Nat.le_refl _) ?_; intro w3 hg3 hb3; rw [ht.out]; replace hg3 : Hid (w3.heap[H]? = some (.cells F2.toArray 5 (0, 0))) := by rw [← hst.out]; exact hg3))
      go_wp2
      go_simp
      go_roundw
      case rel =>
        have hnew : q + k ≤ c ∧ m + t = (q + k) * xs.length ∧ w3.heap[H]? = some (.cells (fillL xs N (q + k)).toArray 5 (0, 0)) := ⟨hkc, hmt.out, by rw [hF2.out]; exact hg3.out⟩
        exact ⟨q + k, m + t, by omega, ht2, by omega, hnew⟩
      case measure => simp [intOf]; omega
    · have e : m = N := by omega
      subst e
      obtain ⟨hq1, hq2, hq3, hq4⟩ := hI.out
      have hqc : q = c := by
        rw [← hN.out] at hq2
        exact (Nat.eq_of_mul_eq_mul_right (by rw [hn.out]; omega) hq2).symm
      subst hqc
      have hcells : fillL xs m q = Lib.byteCells (Lib.repeatL xs q) := by
        have := fillL_full (xs := xs) (c := q)
        rwa [← hq2] at this
      rw [hcells] at hq3
      clear hcells
      replace hq2 := Lib.hid hq2
      replace hq3 := Lib.hid hq3
      clear hI
      go_wp2
      go_ret
      refine ⟨?_, ?_, ?_⟩
      · show Ending.returned _ = _; rw [hH.out]; rfl
      · rw [hH.out]; exact hq3.out
      · rw [hH.out]; exact hq4

end Go.Proofs.Ytafdbibjcohdbaa
