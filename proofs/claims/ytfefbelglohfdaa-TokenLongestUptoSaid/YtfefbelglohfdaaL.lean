/-
  token.finder.learn.
-/
import Derived.Test.YtfefbelglohfdaaO
import Derived.StillTailTactics
import Derived.IntWalk
import Derived.Laws.Cover3
namespace Go.Proofs.Ytfefbelglohfdaa
open Go.RowKit Go.Maps Go.MapKept
open Go.Proofs.YtfefbelglohfdaaW.PrintWords

/-- The finder's three cells. -/
abbrev fcs (A0 : Option Addr) (n c0 M u : Nat) : Array Value := #[.slice A0 n c0, .map (some M), .int .i64 (u : Int)]

set_option maxHeartbeats 8000000 in
set_option maxRecDepth 100000 in
theorem learn_any (L : List Int) (A0 : Option Addr) (n c0 F M : Nat) (No : Nat → Prop) (u0 at_ : Nat) (w : World) (hn : L.length = n) (hnc : n ≤ c0) (hb : n < 17592186043904)
    (hwf : ∀ i : Int, 0 ≤ i → i < n → 0 ≤ rd L i ∧ rd L i < 256) (hC : Kd.C (Kd.int .u8) w A0 n L) (hA : 0 < n → ∀ ad, A0 = some ad → No ad.block ∧ ad.block ≠ F)
    (hF : Blk w F 45 (fcs A0 n c0 M u0)) (hG : GrpT w M No (plc L u0)) (hNF : No F) (hNM : ¬ No M) (hlt : ∀ g, No g → g < w.heap.size) (hu0 : u0 ≤ at_) (hat : at_ ≤ n) :
    Calls Try.prog 14 #[.pointer (some ⟨F, 0, none⟩), .int .i64 (at_ : Int)] w fun e w' => e = .returned (.tuple #[]) ∧
      ∃ u1, Blk w' F 45 (fcs A0 n c0 M u1) ∧ GrpT w' M No (plc L u1) ∧ u1 ≤ at_ ∧ (at_ ≤ u1 ∨ n ≤ u1 + 1) ∧ Kp (fun k => No k ∧ k ≠ F) w w' := by
  replace hF := Aside0.mk hF
  replace hG := Aside0.mk hG
  replace hC := Aside0.mk hC
  replace hA := Aside0.mk hA
  replace hwf := Aside0.mk hwf
  replace hlt := Aside0.mk hlt
  replace hNF := Aside0.mk hNF
  replace hNM := Aside0.mk hNM
  go_enter Try.func14, Try.ntmps14
  go_wp2
  go_loopg [4] (at_ - u0) (fun g v4 wr => ∃ u : Nat, at_ - u = g ∧ u ≤ at_ ∧ Aside0 (Blk wr F 45 (fcs A0 n c0 M u)) ∧ Aside0 (GrpT wr M No (plc L u)) ∧ Aside0 (Kp (fun k => No k ∧ k ≠ F) w wr))
  case atStart => exact ⟨u0, rfl, hu0, hF, hG, ⟨Kp.refl _ _⟩⟩
  case round =>
    obtain ⟨u, hg, h2, hF', hG', hK⟩ := hrel
    have k0 := hF'.out.cell 0 rfl
    have k1 := hF'.out.cell 1 rfl
    have k2 := hF'.out.cell 2 rfl
    have kf := hF'.out.free 2
    have hw1 : IntKind.i64.wrap ((u : Int) + 1) = (u : Int) + 1 := IntWalk.i64_in _ (by omega)
    by_cases ha : u < at_
    · have ha' : decide ((u : Int) < (at_ : Int)) = true := decide_eq_true (by omega)
      by_cases hbn : u + 1 < n
      · have hb' : decide ((u : Int) + 1 < (n : Int)) = true := decide_eq_true (by omega)
        go_wp2
        go_quiet (fail)
        have hlen : u < n := by omega
        have hw2 : IntKind.i64.wrap ((u : Int) + 2) = (u : Int) + 2 := IntWalk.i64_in _ (by omega)
        obtain ⟨g, o, rfl, hgw, hx⟩ := byt_of_C hC.out (by omega)
        replace hF' := Aside0.mk (show Blk (wr.drewN nq) F 45 (fcs (some ⟨g, o, none⟩) n c0 M u) from hF'.out)
        replace hG' := Aside0.mk (show GrpT (wr.drewN nq) M No (plc L u) from hG'.out)
        replace hK := Aside0.mk (hK.out.drewN nq)
        clear k0 k1 k2 kf
        generalize wr.drewN nq = W1 at hF' hG' hK ⊢
        have k0 : W1.cell? ⟨F, 0, none⟩ = some (.slice (some ⟨g, o, none⟩) n c0) := hF'.out.cell 0 rfl
        have k1 : W1.cell? ⟨F, 1, none⟩ = some (.map (some M)) := hF'.out.cell 1 rfl
        have k2 : W1.cell? ⟨F, 2, none⟩ = some (.int .i64 (u : Int)) := hF'.out.cell 2 rfl
        have hst : ∀ j, W1.cell? ⟨g, j, none⟩ = w.cell? ⟨g, j, none⟩ := fun j => World.cell?_of_block (hK.out.block g hgw (hA.out (by omega) _ rfl))
        have y0 : W1.cell? ⟨g, o + u, none⟩ = some (.int .u8 (rd L (u : Int))) := (hst _).trans (hx u hlen)
        have y1 : W1.cell? ⟨g, o + u + 1, none⟩ = some (.int .u8 (rd L ((u : Int) + 1))) := (hst _).trans (hx (u + 1) hbn)
        clear hx hst
        have b0 : (0 : Int) ≤ (u : Int) := by omega
        have b1 : (u : Int) ≤ (u : Int) + 2 := by omega
        have b2 : (u : Int) + 2 ≤ (c0 : Int) := by omega
        have e2 : ((u : Int) + 2).toNat - u = 2 := by omega
        have hat2 : ∀ W, (Instr.arrayAt 49 (.slice (some ⟨g, o + u, none⟩) 2 (c0 - u))).run Try.prog W = .ok (.pointer (some ⟨g, o + u, none⟩)) W := fun W => run_arrayAt W 49 _ 2 _ _ _ arr49.hu (Nat.le_refl _)
        go_wp2_with fail
        go_region_held3 (fun W => W.cell? ⟨F, 0, none⟩ = some (.slice (some ⟨g, o, none⟩) n c0) ∧ W.cell? ⟨F, 2, none⟩ = some (.int .i64 (u : Int)) ∧ W.cell? ⟨g, o + u, none⟩ = some (.int .u8 (rd L (u : Int))) ∧ W.cell? ⟨g, o + u + 1, none⟩ = some (.int .u8 (rd L ((u : Int) + 1)))) (go_keep) (fail)
        all_goals
          have hF2 := Aside0.mk (show Blk (W1.alloc (.cells #[.int .u8 (rd L (u : Int)), .int .u8 (rd L ((u : Int) + 1))] 49)).drew F 45 (fcs (some ⟨g, o, none⟩) n c0 M u) from ((Kp.refl (fun _ => True) W1).alloc _).blk hF'.out trivial)
          have hG2 := Aside0.mk (show GrpT (W1.alloc (.cells #[.int .u8 (rd L (u : Int)), .int .u8 (rd L ((u : Int) + 1))] 49)).drew M (fun j => No j ∨ j = W1.heap.size) (plc L u) from (hG'.out.more (fun j hj => hj.imp id (fun e => Nat.le_of_eq e.symm))).kept (row := none) (grown_drew (World.grownBy_alloc _ _ _)) (by simp) (by simp))
          have hMT := Aside0.mk (Nat.ne_of_lt hG'.out.lt)
          have hTz := Aside0.mk (show W1.heap.size < (W1.alloc (.cells #[.int .u8 (rd L (u : Int)), .int .u8 (rd L ((u : Int) + 1))] 49)).drew.heap.size from by simp)
          have hK2 := Aside0.mk (hK.out.alloc (.cells #[.int .u8 (rd L (u : Int)), .int .u8 (rd L ((u : Int) + 1))] 49)).drew
          have hT := Blk.new W1 49 #[.int .u8 (rd L (u : Int)), .int .u8 (rd L ((u : Int) + 1))]
          have t0 : (W1.alloc (.cells #[.int .u8 (rd L (u : Int)), .int .u8 (rd L ((u : Int) + 1))] 49)).drew.cell? ⟨W1.heap.size, 0, none⟩ = some (.int .u8 (rd L (u : Int))) := hT.cell 0 rfl
          have t1 : (W1.alloc (.cells #[.int .u8 (rd L (u : Int)), .int .u8 (rd L ((u : Int) + 1))] 49)).drew.cell? ⟨W1.heap.size, 1, none⟩ = some (.int .u8 (rd L ((u : Int) + 1))) := hT.cell 1 rfl
          clear k0 k1 k2 y0 y1 hT hF' hG' hK
          generalize (W1.alloc (.cells #[.int .u8 (rd L (u : Int)), .int .u8 (rd L ((u : Int) + 1))] 49)).drew = W2 at hF2 hG2 hK2 hTz t0 t1 ⊢
          generalize W1.heap.size = T at hG2 hMT hTz t0 t1 ⊢
          have k0 : W2.cell? ⟨F, 0, none⟩ = some (.slice (some ⟨g, o, none⟩) n c0) := hF2.out.cell 0 rfl
          have k1 : W2.cell? ⟨F, 1, none⟩ = some (.map (some M)) := hF2.out.cell 1 rfl
          have k2 : W2.cell? ⟨F, 2, none⟩ = some (.int .i64 (u : Int)) := hF2.out.cell 2 rfl
          go_wp2_with fail
          obtain ⟨v, st, Wa, v', Wb, Wc, r1, r2, r3, hG3, q1, q2, q3⟩ := learn_step (W := W2.drew) hG2.out (fun h => h.elim hNM.out hMT.out) (fun j hj => hj.elim (fun h => Nat.lt_of_lt_of_le (hlt.out j h) hK2.out.size) (fun e => by subst e; exact hTz.out)) (by omega) (hwf.out _ (by omega) (by omega)) (hwf.out _ (by omega) (by omega))
          replace hG3 := Aside0.mk hG3
          replace r1 : (Instr.mapEntry 43 (.map (some M)) (.agg #[.int .u8 (rd L (u : Int)), .int .u8 (rd L ((u : Int) + 1))])).run Try.prog (W2.alloc (.cells #[.int .i64 (u : Int)] 3)).drew = .ok (.tuple #[v, .int .i64 st]) Wa := r1
          replace r2 : (Builtin.append_ #[48, 48] 48 #[v, .slice (some ⟨W2.heap.size, 0, none⟩) 1 1]).run Try.prog Wa = .ok v' Wb := r2
          have x1 : ∀ Wi, Kp (fun j => No j ∨ j = T) W2.drew Wi → Wi.cell? ⟨F, 1, none⟩ = some (.map (some M)) := fun Wi h => (World.cell?_of_block (show Wi.heap[F]? = W2.heap[F]? from h.block F hF2.out.lt (Or.inl hNF.out))).trans k1
          have x2 : ∀ Wi, Kp (fun j => No j ∨ j = T) W2.drew Wi → Wi.cell? ⟨F, 2, none⟩ = some (.int .i64 (u : Int)) := fun Wi h => (World.cell?_of_block (show Wi.heap[F]? = W2.heap[F]? from h.block F hF2.out.lt (Or.inl hNF.out))).trans k2
          have x3 : ∀ Wi, Kp (fun j => No j ∨ j = T) W2.drew Wi → Wi.cell? ⟨T, 0, none⟩ = some (.int .u8 (rd L (u : Int))) := fun Wi h => (World.cell?_of_block (show Wi.heap[T]? = W2.heap[T]? from h.block T hTz.out (Or.inr rfl))).trans t0
          have x4 : ∀ Wi, Kp (fun j => No j ∨ j = T) W2.drew Wi → Wi.cell? ⟨T, 1, none⟩ = some (.int .u8 (rd L ((u : Int) + 1))) := fun Wi h => (World.cell?_of_block (show Wi.heap[T]? = W2.heap[T]? from h.block T hTz.out (Or.inr rfl))).trans t1
          have a1 := x1 _ q1
          have a2 := x2 _ q1
          have a3 := x3 _ q1
          have a4 := x4 _ q1
          have b1' := x1 _ q2
          have b2' := x2 _ q2
          have b3' := x3 _ q2
          have b4' := x4 _ q2
          have c1' := x1 _ q3
          have c2' := x2 _ q3
          have c3' := x3 _ q3
          have c4' := x4 _ q3
          replace q3 := Aside0.mk q3
          clear x1 x2 x3 x4 q1 q2
          go_region_held3 (fun W => W.cell? ⟨F, 1, none⟩ = some (.map (some M)) ∧ W.cell? ⟨F, 2, none⟩ = some (.int .i64 (u : Int)) ∧ W.cell? ⟨T, 0, none⟩ = some (.int .u8 (rd L (u : Int))) ∧ W.cell? ⟨T, 1, none⟩ = some (.int .u8 (rd L ((u : Int) + 1)))) (go_keep) (refine step_append_run rfl (.tmp 52) (.tmp 57) 48 48 rfl rfl rfl rfl r2 ?_)
          have hF3 := Aside0.mk (q3.out.blk (show Blk W2.drew F 45 (fcs (some ⟨g, o, none⟩) n c0 M u) from hF2.out) (Or.inl hNF.out))
          have kf := hF3.out.free 2
          clear a1 a2 a3 a4 b1' b2' b3' b4' c1' c3' c4' r1 r2 r3
          go_wp2
          go_roundg (gk - 1)
          case measure => omega
          case rel =>
            refine ⟨u + 1, by omega, by omega, ⟨?_⟩, ⟨?_⟩, ⟨?_⟩⟩
            · have := hF3.out.set (j := 2) (.int .i64 ((u : Int) + 1))
              simpa [fcs] using this
            · exact (hG3.out.more (fun j hj => Or.inl (Or.inl hj))).kept (row := some F) ⟨rfl, rfl, rfl, by simp [World.setCell], fun k _ hk => Below.heap_setCell _ _ _ k (fun e => hk (by rw [e]))⟩ (fun e => by simp only [Option.some.injEq] at e; exact hNM.out (e ▸ hNF.out)) (fun j hj => by cases hj; exact Or.inl hNF.out)
            · exact (hK2.out.drew.trans ((q3.out.mono (fun k hk => Or.inl hk.1) : Kp (fun k => No k ∧ k ≠ F) W2.drew Wc))).set (fun h => h.2 rfl) _
      · have hb' : decide ((u : Int) + 1 < (n : Int)) = false := decide_eq_false (by omega)
        go_wp2
        go_quiet (fail)
        go_wp2
        go_end0
        exact ⟨rfl, u, hF'.out, hG'.out, h2, Or.inr (by omega), hK.out.drewN _⟩
    · have ha' : decide ((u : Int) < (at_ : Int)) = false := decide_eq_false (by omega)
      go_wp2
      go_quiet (fail)
      go_wp2
      go_end0
      exact ⟨rfl, u, hF'.out, hG'.out, h2, Or.inl (by omega), hK.out.drewN _⟩

end Go.Proofs.Ytfefbelglohfdaa
