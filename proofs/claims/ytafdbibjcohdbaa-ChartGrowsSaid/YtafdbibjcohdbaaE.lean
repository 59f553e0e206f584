/-
  The iterator of chart.Walk: which places it hands over.
-/
import Derived.Test.YtafdbibjcohdbaaD
import Derived.RangeFuncMany
import Derived.RangeFuncLeaves
import Derived.TacticsInMore
import Derived.LoopNIn
import Derived.LoopIn
import Derived.BigFrameIn
namespace Go.Proofs.Ytafdbibjcohdbaa
open Go.RowKit

attribute [local go_sem] Oper.semAt_some

/-- The first k places. -/
def places (k : Nat) : List (Int × Int) := (List.range k).map spot
theorem places_zero : places 0 = [] := rfl
theorem places_succ (k : Nat) : places (k + 1) = places k ++ [spot k] := by simp [places, List.range_succ]
theorem places_length (k : Nat) : (places k).length = k := by simp [places]

/-- How many places a walk of n has. -/
def cnt (n : Int) : Nat := (min n 1048576).toNat

abbrev pairE (p : Int × Int) : Array Value := #[.int .i64 p.1, .int .i64 p.2]

@[simp, go_sem] theorem wide_fn (f : FuncId) : Fence.wide.fn f = True := rfl
@[simp, go_sem] theorem wide_depth : Fence.wide.depth = none := rfl

/-- The first k of a sequence. -/
def seqF {α : Type} (f : Nat → α) (k : Nat) : List α := (List.range k).map f
theorem seqF_succ {α : Type} (f : Nat → α) (k : Nat) : seqF f (k + 1) = seqF f k ++ [f k] := by simp [seqF, List.range_succ]
theorem seqF_length {α : Type} (f : Nat → α) (k : Nat) : (seqF f k).length = k := by simp [seqF]

set_option maxRecDepth 100000 in
set_option maxHeartbeats 4000000 in
theorem walk_stops_g {α : Type} (f : Nat → α) (enc : α → Array Value) (N : Int) (c : Nat) (hf : ∀ k, k < c → enc (f k) = pairE (spot k)) (hcn : (c : Int) = max 0 (min N 1048576)) (B n : Nat) (w : World) (hB : B < w.heap.size) (hc : w.cell? ⟨B, 0, none⟩ = some (.int .i64 N)) :
    SeqStopsA Fence.wide n Try.prog 20 #[.pointer (some ⟨B, 0, none⟩)] enc (fun xs => xs = seqF f c) (fun pre => ∃ k, k ≤ c ∧ pre = seqF f k) c w := fun l J Jx W hW _ _ hY h0 => by
  have hc' := (hW.cell (p := ⟨B, 0, none⟩) hB).trans hc
  clear hc hW hB
  refine callsIn_of_wp Try.func20 rfl trivial ?_ rfl
  simp only [Try.ntmps20, List.size_toArray, List.length_cons, List.length_nil, Nat.reduceAdd, Nat.reduceSub, Array.replicate_succ, Array.replicate_zero, List.push_toArray, List.append_toArray, List.nil_append, List.cons_append]
  gi_wp2
  all_goals
    gi_loopw [3, 4, 5, 6, 9] (fun s3 s4 s5 s6 s9 wr => ∃ (k lf lg : Nat) (L x y dx dy : Int) (p q p' q' : Nat), k ≤ c ∧ s3 = .complex .f64 p q ∧ s4 = .complex .f64 p' q' ∧ s5 = .int .i64 L ∧ s6 = .int .i64 ((lg : Int) + 2) ∧ s9 = .int .i64 k ∧
        CI p q x y ∧ CI p' q' dx dy ∧ Hid (WalkAt k x y dx dy lf lg) ∧ Hid (L = lf) ∧ lg ≤ k ∧ J (seqF f k) wr)
      (fun _ _ _ _ s9 _ => c - (intOf s9).toNat)
    case atStart => exact ⟨0, 1, 0, 1, 0, 0, 1, 0, _, _, _, _, Nat.zero_le _, rfl, rfl, rfl, rfl, rfl, ⟨isI_zero, isI_zero⟩, ⟨isI_one, isI_zero⟩, WalkAt.start, (rfl : (1 : Int) = (1 : Nat)), Nat.le_refl _, h0⟩
    case round =>
      obtain ⟨k, lf, lg, L, x, y, dx, dy, p, q, p', q', hk, rfl, rfl, rfl, rfl, rfl, hC, hD, hWk, hLf, hlg, hJk⟩ := hrel
      have hlf : L ≤ (lg : Int) + 1 := by have := hWk.out.lim; have := hLf.out; omega
      have hlf1 : 1 ≤ L := by have := hWk.out.pos; have := hLf.out; omega
      by_cases hlt : k < c
      · have hk1 : (k : Int) < 1048576 := by omega
        have hk2 : (k : Int) < N := by omega
        have bx := hWk.out.bx
        have byy := hWk.out.byy
        have hU := hWk.out.un
        have s0 : Sm 0 := by unfold Sm; omega
        have s1 : Sm 1 := by unfold Sm; omega
        have sx : Sm x := by unfold Sm; omega
        have sy : Sm y := by unfold Sm; omega
        have sdx : Sm dx := by unfold Sm; unfold Un at hU; omega
        have sdy : Sm dy := by unfold Sm; unfold Un at hU; omega
        have hi : CI 0 4607182418800017408 0 1 := ⟨isI_zero, isI_one⟩
        have hpl := fun w => place_any hC sx sy w
        obtain ⟨fn, tmps, assign, body, hy, hR⟩ := hY _ (f k) wr hJk (by rw [seqF_length]; exact hlt)
        have hap : Hid (seqF f k ++ [f k] = seqF f (k + 1)) := (seqF_succ f k).symm
        rw [hap.out] at hR
        rw [hf k hlt, hWk.out.here] at hy
        dsimp only [pairE] at hy
        gi_wp2_with (first | (gi_at_call 21; refine callsIn_wide.2 ((hpl _).mono ?_); rintro e w' ⟨rfl, rfl⟩))
        refine hR.mono ?_
        clear hR hy hpl
        rintro e W3 (⟨rfl, hJ3, _⟩ | ⟨rfl, hx3⟩)
        · by_cases h1 : L = 1
          · have hlf2 : lf = 1 := by have := hLf.out; omega
            subst h1
            subst hlf2
            have hW2 : Hid (WalkAt (k + 1) (x + dx) (y + dy) (-dy) dx ((lg + 1) / 2 + 1) (lg + 1)) := hWk.out.turn
            clear hWk
            gi_wp2_with (first
              | (refine wpListIn_cmul 51 51 _ (.const (.complex .f64 0 4607182418800017408)) rfl rfl rfl rfl hD hi sdx sdy s0 s1 ?_; intro r5 r6 hC5)
              | (refine wpListIn_cadd 51 51 _ _ rfl rfl rfl rfl hC hD sx sy sdx sdy ?_; intro r3 r4 hC3))
            go_roundw
            case rel => exact ⟨k + 1, (lg + 1) / 2 + 1, lg + 1, _, x + dx, y + dy, -dy, dx, r3, r4, r5, r6, by omega, rfl, rfl, rfl, int_eq (by omega), int_eq (by omega), hC3, by simpa using hC5, hW2, by show _ = _; omega, by omega, hJ3⟩
            case measure => simp [intOf]; omega
          · have hlf2 : 2 ≤ L := by omega
            clear h1
            obtain ⟨m, rfl⟩ : ∃ m, lf = m + 1 := ⟨lf - 1, by have := hLf.out; omega⟩
            have hW2 : Hid (WalkAt (k + 1) (x + dx) (y + dy) dx dy m lg) := hWk.out.next (by have := hLf.out; omega)
            clear hWk
            have hL7 : L ≤ 1048577 := by omega
            have hpk : Hid (k < c ∧ lg ≤ k) := ⟨hlt, hlg⟩
            have hw1 : wrap64 ((k : Int) + 1) = (k : Int) + 1 := by unfold wrap64; omega
            obtain ⟨M, hM⟩ : ∃ M, wrap64 (L - 1) = M := ⟨_, rfl⟩
            have hMv : Hid (M = L - 1) := by show M = L - 1; rw [← hM]; unfold wrap64; omega
            have hw3 : ¬ M = 0 := by have := hMv.out; omega
            have hw4 : (M == 0) = false := by simpa using hw3
            clear hlf hlf1 hlf2 hL7 hcn bx byy hU hk hlt hlg hk1 hk2
            gi_wp2_with (first
              | (refine wpListIn_cadd 51 51 _ _ rfl rfl rfl rfl hC hD sx sy sdx sdy ?_; intro r3 r4 hC3))
            try simp only [hw1, hM]
            clear hw1 hM hw3 hw4
            have hpk1 := hpk.out.1
            have hpk2 := hpk.out.2
            go_roundw
            case rel => exact ⟨k + 1, m, lg, _, x + dx, y + dy, dx, dy, r3, r4, p', q', by omega, rfl, rfl, rfl, rfl, int_eq (by omega), hC3, hD, hW2, by have := hLf.out; have := hMv.out; show _ = _; omega, by omega, hJ3⟩
            case measure => simp [intOf]; omega
        · gi_wp2
          refine bodyPost_ret (results_none rfl _ _ _) rfl ?_
          exact ⟨⟨_, rfl⟩, .inr ⟨_, ⟨k + 1, by omega, rfl⟩, hx3⟩⟩
      · have he : k = c := by omega
        have hk3 : ¬ ((k : Int) < 1048576 ∧ (k : Int) < N) := by omega
        first
          | (have hk4 : (1048576 : Int) ≤ k := by omega
             gi_wp2
             go_end0
             exact ⟨⟨_, rfl⟩, .inl ⟨_, rfl, he ▸ hJk⟩⟩)
          | (have hk4 : N ≤ (k : Int) := by omega
             gi_wp2
             go_end0
             exact ⟨⟨_, rfl⟩, .inl ⟨_, rfl, he ▸ hJk⟩⟩)

theorem walk_stops_c (N : Int) (c : Nat) (hcn : (c : Int) = max 0 (min N 1048576)) (B n : Nat) (w : World) (hB : B < w.heap.size) (hc : w.cell? ⟨B, 0, none⟩ = some (.int .i64 N)) :
    SeqStopsA Fence.wide n Try.prog 20 #[.pointer (some ⟨B, 0, none⟩)] pairE (fun xs => xs = places c) (fun pre => ∃ k, k ≤ c ∧ pre = places k) c w :=
  walk_stops_g spot pairE N c (fun _ _ => rfl) hcn B n w hB hc

theorem walk_stops (N : Int) (B n : Nat) (w : World) (hB : B < w.heap.size) (hc : w.cell? ⟨B, 0, none⟩ = some (.int .i64 N)) :
    SeqStopsA Fence.wide n Try.prog 20 #[.pointer (some ⟨B, 0, none⟩)] pairE (fun xs => xs = places (cnt N)) (fun pre => ∃ k, k ≤ cnt N ∧ pre = places k) (cnt N) w :=
  walk_stops_c N (cnt N) (by unfold cnt; omega) B n w hB hc

end Go.Proofs.Ytafdbibjcohdbaa
