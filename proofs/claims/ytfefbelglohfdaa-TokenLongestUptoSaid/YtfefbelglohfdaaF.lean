/-
  token.finder.find.
-/
import Derived.Test.YtfefbelglohfdaaB
import Derived.Test.YtfefbelglohfdaaQ
namespace Go.Proofs.Ytfefbelglohfdaa
open Go.RowKit Go.Maps Go.MapKept Go.WideElems
open Go.WideMaps (KeyLaw)
open Go.Proofs.YtfefbelglohfdaaW.PrintWords

theorem Grp.look_all {P : Program} {k t E e : TypeId} {q : IntKind} {w : World} {b : Nat} {No : Nat → Prop} {G : Value → List Int} (h : Grp P k e q w b No G) (K : KeyLaw P k) (ht : P.underlying t = some (.map k E)) (hz : ∀ u : World, (zeroValue E).run P u = .ok (.slice none 0 0) u)
    {key : Value} {kl : Lit} (hkey : keyOf P k key = some kl) :
    ∃ v, (∀ W : World, W.heap = w.heap → (Instr.lookup t (.map (some b)) key false).run P W = .ok v W) ∧ w.ownsInts 0 e q v (G key) ∧ ∀ g, v.ownBlock = some g → ¬ No g := by
  obtain ⟨es, clock, hb, hst, hks, hrow, habs, hap, hno⟩ := h
  by_cases hex : ∃ e0 ∈ es.toList, e0.key = key
  · obtain ⟨e0, hm, he⟩ := hex
    refine ⟨e0.val, fun W hW => ?_, by rw [← he]; exact hrow e0 hm, hno e0 hm⟩
    have hb' : W.heap[b]? = some (.map es clock) := by rw [hW]; exact hb
    rcases K.find W hkey es.toList hks with ⟨_, h2⟩ | ⟨j, e1, h1, h2, h3⟩
    · exact absurd he (h2 e0 hm)
    · have : e1 = e0 := by
        obtain ⟨i, hi⟩ := List.mem_iff_getElem?.1 hm
        have hi' : (es.toList.map (·.key))[i]? = some key := by rw [List.getElem?_map, hi]; simp [he]
        have hj' : (es.toList.map (·.key))[j]? = some key := by rw [List.getElem?_map, h2]; simp [h3]
        obtain ⟨a1, a2⟩ := List.getElem?_eq_some_iff.1 hi'
        obtain ⟨a3, a4⟩ := List.getElem?_eq_some_iff.1 hj'
        have := (List.getElem_inj hst.2.2).1 (a2.trans a4.symm)
        subst this
        rw [h2] at hi
        exact Option.some.inj hi
      subst this
      simp [Instr.lookup, run_underlying ht, MapKept.run_getObj_map hb', K.check W _ hkey, h1, Result.andThen]
  · have h2 : ∀ x ∈ es.toList, x.key ≠ key := fun x hx hk => hex ⟨x, hx, hk⟩
    refine ⟨.slice none 0 0, fun W hW => ?_, by rw [habs key h2]; exact World.ownsInts_nil _ _ _ _, by simp [Value.ownBlock]⟩
    have hb' : W.heap[b]? = some (.map es clock) := by rw [hW]; exact hb
    rcases K.find W hkey es.toList hks with ⟨h1, _⟩ | ⟨j, e1, h1, h3, h4⟩
    · simp [Instr.lookup, run_underlying ht, MapKept.run_getObj_map hb', K.check W _ hkey, h1, hz, Result.andThen]
    · exact absurd h4 (h2 e1 (List.mem_of_getElem? h3))

theorem ints_slice {w : World} {v : Value} {zs : List Int} (h : w.ownsInts 0 3 .i64 v zs) : ∃ A c, v = .slice A zs.length c ∧ zs.length ≤ c ∧ (0 < zs.length → ∃ g, A = some ⟨g, 0, none⟩ ∧ v.ownBlock = some g ∧ g < w.heap.size ∧ ∀ j z, zs[j]? = some z → w.cell? ⟨g, j, none⟩ = some (.int .i64 z)) := by
  rcases h.1.2 with ⟨rfl, h0⟩ | ⟨g, cap, cur, rfl, hg, hh, hn, _, _, ht⟩
  · exact ⟨none, 0, by rw [h0], by omega, fun h1 => by omega⟩
  · refine ⟨_, cap, rfl, hn, fun _ => ⟨g, rfl, rfl, (Array.getElem?_eq_some_iff.1 hh).1, fun j z hz => ?_⟩⟩
    have hj : (zs.map (Value.int .i64))[j]? = some (.int .i64 z) := by simp [hz]
    rw [← ht, List.getElem?_take] at hj
    split at hj
    · simp only [World.cell?, hh]
      simpa using hj
    · cases hj

/-- The world behind find's five boxes. -/
abbrev boxed (w : World) (F at_ : Nat) (most : Int) : World := ((((w.alloc (.cells #[.pointer (some ⟨F, 0, none⟩)] 39)).alloc (.cells #[.int .i64 (at_ : Int)] 3)).alloc (.cells #[.int .i64 most] 3)).alloc (.cells #[.int .i64 0] 3)).alloc (.cells #[.int .i64 0] 3)

theorem C_block {w W : World} {A : Option Addr} {n : Nat} {L : List Int} (h : Kd.C (Kd.int .u8) w A n L) (hb : 0 < n → ∀ ad, A = some ad → W.heap[ad.block]? = w.heap[ad.block]?) : Kd.C (Kd.int .u8) W A n L := by
  refine ⟨h.1, h.2.1, fun hn => ?_⟩
  obtain ⟨ad, e, hc⟩ := h.2.2 hn
  refine ⟨ad, e, fun j p hj => ?_⟩
  obtain ⟨cs, hl, hK, hu⟩ := hc j p hj
  exact ⟨cs, hl, hK, fun i u hi => (World.cell?_of_block (by rw [add_block]; exact hb hn ad e)).trans (hu i u hi)⟩
def P2 (L : List Int) (most : Int) (a D : Nat) (r1 r2 : Int) (t : Nat) (ln ds : Int) : Prop := (ln = 0 ∧ ds = 0 ∧ full L most a t = (0, 0) ∧ t ≤ D) ∨ (ln ≠ 0 ∧ ln = r1 ∧ ds = r2)
theorem P2.step {L : List Int} {most : Int} {a D t p : Nat} {r1 r2 ln ds : Int} (h : P2 L most a D r1 r2 t ln ds) (hln : ln = 0) (hD : full L most a D = (r1, r2)) (hle : (full L most a D).1 ≤ 1) (ht : t + 1 ≤ D) (hp : (p : Int) = (a : Int) - 1 - t) :
    P2 L most a D r1 r2 (t + 1) (if ln < rI L most a (a - p) then rI L most a (a - p) else ln) (if ln < rI L most a (a - p) then (a : Int) - p else ds) := by
  rcases h with ⟨_, rfl, h2, h3⟩ | ⟨h1, _⟩
  · subst hln
    have e : a - p = t + 1 := by omega
    have ef : full L most a (t + 1) = stp L most a (full L most a t) (t + 1) := rfl
    rw [h2, stp_eq] at ef
    rw [e]
    by_cases hr : (0 : Int) < rI L most a (t + 1)
    · rw [if_pos hr] at ef
      rw [if_pos hr, if_pos hr]
      have hf := full_first hle (t := t + 1) (by rw [ef]; exact hr) ht
      rw [ef, hD] at hf
      injection hf with e1 e2
      exact Or.inr ⟨by omega, e1.symm, by rw [e2]; omega⟩
    · rw [if_neg hr] at ef
      rw [if_neg hr, if_neg hr]
      exact Or.inl ⟨rfl, rfl, ef, ht⟩
  · exact absurd hln h1
theorem P2.exit {L : List Int} {most window : Int} {a t : Nat} {r1 r2 ln ds : Int} (h : P2 L most a (min a window.toNat) r1 r2 t ln ds) (hD : full L most a (min a window.toNat) = (r1, r2)) (he : t = a ∨ window < (t : Int) + 1 ∨ L.length ≤ a ∨ ln ≠ 0) : ln = r1 ∧ ds = r2 := by
  rcases h with ⟨rfl, rfl, h2, h3⟩ | ⟨_, h1, h2⟩
  · rcases he with he | he | he | he
    · rw [show min a window.toNat = t by omega, h2] at hD
      injection hD with e1 e2
      exact ⟨e1, e2⟩
    · rw [show min a window.toNat = t by omega, h2] at hD
      injection hD with e1 e2
      exact ⟨e1, e2⟩
    · rw [full_none he] at hD
      injection hD with e1 e2
      exact ⟨e1, e2⟩
    · exact absurd rfl he
  · exact ⟨h1, h2⟩
theorem results_two {fn : Func} {p p' : Tmp} (h : fn.results = #[.cell p 3, .cell p' 3]) (tmps : Array Value) (w : World) (g g' : Nat) (x y : Int) (hp : tmps.getD p undef = .pointer (some ⟨g, 0, none⟩)) (hg : w.cell? ⟨g, 0, none⟩ = some (.int .i64 x))
    (hp' : tmps.getD p' undef = .pointer (some ⟨g', 0, none⟩)) (hg' : w.cell? ⟨g', 0, none⟩ = some (.int .i64 y)) : (results fn tmps).run Try.prog w = .ok (.tuple #[.int .i64 x, .int .i64 y]) w := by
  have h1 : tmps[p]?.getD undef = .pointer (some ⟨g, 0, none⟩) := by simpa using hp
  have h2 : tmps[p']?.getD undef = .pointer (some ⟨g', 0, none⟩) := by simpa using hp'
  have hu3 := Try.underlying3
  have l1 : (loadVar 3 ⟨g, 0, none⟩).run Try.prog w = .ok (.int .i64 x) w := by go_simp
  have l2 : (loadVar 3 ⟨g', 0, none⟩).run Try.prog w = .ok (.int .i64 y) w := by go_simp
  simp [results, h, h1, h2, asAddr, l1, l2, Result.andThen]

theorem Grp.kp {P : Program} {k e : TypeId} {q : IntKind} {w w' : World} {b : Nat} {No K : Nat → Prop} {G : Value → List Int} (h : Grp P k e q w b No G) (hk : Kp K w w') (hb : K b) (hK : ∀ g, ¬ No g → K g) : Grp P k e q w' b No G := by
  have hlt := h.lt
  obtain ⟨es, clock, hh, hst, hks, hrow, habs, hap, hno⟩ := h
  exact ⟨es, clock, (hk.block b hlt hb).trans hh, hst, hks, fun x hx => ⟨own_move (hrow x hx).1 (fun g hg => hk.block g ((hrow x hx).1.lt g hg).2 (hK g (hno x hx g hg))), (hrow x hx).2⟩, habs, hap, hno⟩

structure Bx (W : World) (S F at_ : Nat) (most ln ds : Int) : Prop where
  b4 : Blk W S 39 #[.pointer (some ⟨F, 0, none⟩)]
  b5 : Blk W (S + 1) 3 #[.int .i64 (at_ : Int)]
  b7 : Blk W (S + 1 + 1) 3 #[.int .i64 most]
  b8 : Blk W (S + 1 + 1 + 1) 3 #[.int .i64 ln]
  b9 : Blk W (S + 1 + 1 + 1 + 1) 3 #[.int .i64 ds]
theorem Bx.kept {No : Nat → Prop} {W W' : World} {S F at_ : Nat} {most ln ds : Int} (h : Bx W S F at_ most ln ds) (hk : Kp No W W') (hn : ∀ j, S ≤ j → j < S + 5 → No j) : Bx W' S F at_ most ln ds :=
  ⟨hk.blk h.b4 (hn _ (by omega) (by omega)), hk.blk h.b5 (hn _ (by omega) (by omega)), hk.blk h.b7 (hn _ (by omega) (by omega)), hk.blk h.b8 (hn _ (by omega) (by omega)), hk.blk h.b9 (hn _ (by omega) (by omega))⟩
theorem Bx.made (w : World) (F at_ : Nat) (most : Int) : Bx (boxed w F at_ most) w.heap.size F at_ most 0 0 := by
  have t : ∀ (a : World) (o : Obj), Kp (fun _ => True) a (a.alloc o) := fun a o => (Kp.refl _ a).alloc o
  have z : ∀ (a : World) (o : Obj), (a.alloc o).heap.size = a.heap.size + 1 := fun a o => by simp
  refine ⟨?_, ?_, ?_, ?_, ?_⟩
  · exact (((t _ _).trans ((t _ _).trans ((t _ _).trans (t _ _)))).blk (Blk.new w 39 _) trivial)
  · have := Blk.new (w.alloc (.cells #[.pointer (some ⟨F, 0, none⟩)] 39)) 3 #[.int .i64 (at_ : Int)]
    rw [z] at this
    exact ((t _ _).trans ((t _ _).trans (t _ _))).blk this trivial
  · have := Blk.new ((w.alloc (.cells #[.pointer (some ⟨F, 0, none⟩)] 39)).alloc (.cells #[.int .i64 (at_ : Int)] 3)) 3 #[.int .i64 most]
    rw [z, z] at this
    exact ((t _ _).trans (t _ _)).blk this trivial
  · have := Blk.new (((w.alloc (.cells #[.pointer (some ⟨F, 0, none⟩)] 39)).alloc (.cells #[.int .i64 (at_ : Int)] 3)).alloc (.cells #[.int .i64 most] 3)) 3 #[.int .i64 0]
    rw [z, z, z] at this
    exact (t _ _).blk this trivial
  · have := Blk.new ((((w.alloc (.cells #[.pointer (some ⟨F, 0, none⟩)] 39)).alloc (.cells #[.int .i64 (at_ : Int)] 3)).alloc (.cells #[.int .i64 most] 3)).alloc (.cells #[.int .i64 0] 3)) 3 #[.int .i64 0]
    rw [z, z, z, z] at this
    exact this

theorem Bx.same8 {W : World} {S F at_ : Nat} {most ln ds : Int} (h : Bx W S F at_ most ln ds) : Bx (W.setCell ⟨S + 1 + 1 + 1, 0, none⟩ (.int .i64 ln)) S F at_ most ln ds := by
  have o : ∀ j, j ≠ S + 1 + 1 + 1 → (W.setCell ⟨S + 1 + 1 + 1, 0, none⟩ (.int .i64 ln)).heap[j]? = W.heap[j]? := fun j hj => Below.heap_setCell _ _ _ j hj
  exact ⟨(o _ (by omega)).trans h.b4, (o _ (by omega)).trans h.b5, (o _ (by omega)).trans h.b7, h.b8.set (j := 0) _, (o _ (by omega)).trans h.b9⟩
theorem Bx.same9 {W : World} {S F at_ : Nat} {most ln ds : Int} (h : Bx W S F at_ most ln ds) : Bx (W.setCell ⟨S + 1 + 1 + 1 + 1, 0, none⟩ (.int .i64 ds)) S F at_ most ln ds := by
  have o : ∀ j, j ≠ S + 1 + 1 + 1 + 1 → (W.setCell ⟨S + 1 + 1 + 1 + 1, 0, none⟩ (.int .i64 ds)).heap[j]? = W.heap[j]? := fun j hj => Below.heap_setCell _ _ _ j hj
  exact ⟨(o _ (by omega)).trans h.b4, (o _ (by omega)).trans h.b5, (o _ (by omega)).trans h.b7, (o _ (by omega)).trans h.b8, h.b9.set (j := 0) _⟩

set_option maxHeartbeats 16000000 in
set_option maxRecDepth 100000 in
theorem find_any (L : List Int) (A0 : Option Addr) (n c0 F M : Nat) (No : Nat → Prop) (u0 at_ : Nat) (window most : Int) (w : World) (hn : L.length = n) (hnc : n ≤ c0) (hb : n < 17592186043904)
    (hwf : ∀ i : Int, 0 ≤ i → i < n → 0 ≤ rd L i ∧ rd L i < 256) (hC : Kd.C (Kd.int .u8) w A0 n L) (hA : 0 < n → ∀ ad, A0 = some ad → No ad.block ∧ ad.block ≠ F)
    (hF : Blk w F 45 (fcs A0 n c0 M u0)) (hG : GrpT w M No (plc L u0)) (hNF : No F) (hNM : ¬ No M) (hlt : ∀ g, No g → g < w.heap.size) (hu0 : u0 ≤ at_) (hat : at_ ≤ n) (hw : 1 ≤ window)
    (hrun : ∀ pl, at_ < n → pl < at_ → ∃ k, PTok.token_run.f k (L.drop at_) (L.drop pl) most = some (rI L most at_ (at_ - pl))) (r1 r2 : Int) (hr : full L most at_ (min at_ window.toNat) = (r1, r2)) :
    Calls Try.prog 12 #[.pointer (some ⟨F, 0, none⟩), .int .i64 (at_ : Int), .int .i64 window, .int .i64 most] w fun e w' => e = .returned (.tuple #[.int .i64 r1, .int .i64 r2]) ∧
      ∃ u1, Blk w' F 45 (fcs A0 n c0 M u1) ∧ GrpT w' M No (plc L u1) ∧ u1 ≤ at_ ∧ Kp (fun k => No k ∧ k ≠ F) w w' := by
  obtain ⟨S, hS⟩ : ∃ S, w.heap.size = S := ⟨_, rfl⟩
  obtain ⟨No', hNo'⟩ : ∃ N : Nat → Prop, N = fun j => No j ∨ (S ≤ j ∧ j < S + 5) := ⟨_, rfl⟩
  have hMS : M < S := hS ▸ hG.lt
  have hFS : F < S := hS ▸ hF.lt
  have q0 : Kp (fun _ => True) w (boxed w F at_ most) := (((((Kp.refl _ w).alloc _).alloc _).alloc _).alloc _).alloc _
  have hz5 : (boxed w F at_ most).heap.size = S + 5 := by simp [hS]
  have hb5 := hS ▸ Bx.made w F at_ most
  have hG5 : GrpT (boxed w F at_ most) M No' (plc L u0) := (hG.more (No' := No') (by rw [hNo', hS]; exact fun g hg => hg.imp id (fun h => h.1))).kept (row := none) ⟨q0.os, q0.tape, q0.output, q0.size, fun k hk _ => q0.block k hk trivial⟩ (by simp) (by simp)
  have hB0 : Below w.heap.size w (boxed w F at_ most) := ⟨q0.os, q0.tape, q0.output, q0.size, fun k hk => q0.block k hk trivial⟩
  have hlearn := learn_any L A0 n c0 F M No' u0 at_ (boxed w F at_ most) hn hnc hb hwf (Kd.C_below hC hB0) (fun h0 ad h => ⟨by rw [hNo']; exact Or.inl (hA h0 ad h).1, (hA h0 ad h).2⟩) (q0.blk hF trivial) hG5 (by rw [hNo']; exact Or.inl hNF)
    (by rw [hNo']; exact fun h => h.elim hNM (fun h => by omega)) (by rw [hNo', hz5]; exact fun g h => h.elim (fun h => by have := hlt g h; omega) (fun h => h.2)) hu0 hat
  replace hlearn := Aside0.mk hlearn
  replace hb5 := Aside0.mk hb5
  replace q0 := Aside0.mk q0
  replace hG := Aside0.mk hG
  replace hF := Aside0.mk hF
  replace hC := Aside0.mk hC
  replace hA := Aside0.mk hA
  replace hwf := Aside0.mk hwf
  replace hlt := Aside0.mk hlt
  replace hNF := Aside0.mk hNF
  replace hNM := Aside0.mk hNM
  replace hrun := Aside0.mk hrun
  replace hr := Aside0.mk hr
  replace hNo' := Aside0.mk hNo'
  replace hB0 := Aside0.mk hB0
  clear hG5 hz5
  go_enter Try.func12, Try.ntmps12
  go_wp2_with (first | (go_at_call 14; (with_reducible refine hlearn.out.mono ?_); rintro e wL ⟨rfl, u1, hF1, hG1, hu1, hu2, hK1⟩))
  · have hN : ∀ j, S ≤ j → j < S + 5 → No' j := by rw [hNo'.out]; exact fun j h1 h2 => Or.inr ⟨h1, h2⟩
    have hB1 : Bx wL S F at_ most 0 0 := hb5.out.kept hK1 (fun j h1 h2 => ⟨hN j h1 h2, by omega⟩)
    have hpost : ∀ W', Kp (fun j => j ≠ S + 1 + 1 + 1 ∧ j ≠ S + 1 + 1 + 1 + 1) wL W' → ∃ u1, Blk W' F 45 (fcs A0 n c0 M u1) ∧ GrpT W' M No (plc L u1) ∧ u1 ≤ at_ ∧ Kp (fun k => No k ∧ k ≠ F) w W' := fun W' hk =>
      ⟨u1, hk.blk hF1 ⟨by omega, by omega⟩, (hG1.kp hk ⟨by omega, by omega⟩ (fun g hg => by rw [hNo'.out] at hg; exact ⟨fun e => hg (Or.inr ⟨by omega, by omega⟩), fun e => hg (Or.inr ⟨by omega, by omega⟩)⟩)).more (fun g hg => Or.inl (by rw [hNo'.out]; exact Or.inl hg)), hu1,
        ((q0.out.mono (fun _ _ => trivial)).trans (hK1.mono (fun k hk => ⟨by rw [hNo'.out]; exact Or.inl hk.1, hk.2⟩))).trans (hk.mono (fun k hk' => by have := hlt.out k hk'.1; exact ⟨by omega, by omega⟩))⟩
    have hCL : Kd.C (Kd.int .u8) wL A0 n L := C_block hC.out (fun h0 ad e => (hK1.block ad.block (by have := hlt.out _ (hA.out h0 ad e).1; exact Nat.lt_of_lt_of_le this q0.out.size) ⟨by rw [hNo'.out]; exact Or.inl (hA.out h0 ad e).1, (hA.out h0 ad e).2⟩).trans (q0.out.block _ (hlt.out _ (hA.out h0 ad e).1) trivial))
    have hAL : Aside0 (0 < n → ∀ ad, A0 = some ad → ad.block < wL.heap.size ∧ ad.block < S) := ⟨fun h0 ad e => ⟨Nat.lt_of_lt_of_le (hlt.out _ (hA.out h0 ad e).1) (Nat.le_trans q0.out.size hK1.size), by have := hlt.out _ (hA.out h0 ad e).1; omega⟩⟩
    replace hpost := Aside0.mk hpost
    replace hCL := Aside0.mk hCL
    replace hB1 := Aside0.mk hB1
    replace hF1 := Aside0.mk hF1
    replace hG1 := Aside0.mk hG1
    replace hK1 := Aside0.mk hK1
    replace hN := Aside0.mk hN
    have k0 : wL.cell? ⟨F, 0, none⟩ = some (.slice A0 n c0) := hF1.out.cell 0 rfl
    have k4 : wL.cell? ⟨S, 0, none⟩ = some (.pointer (some ⟨F, 0, none⟩)) := hB1.out.b4.cell 0 rfl
    have k5 : wL.cell? ⟨S + 1, 0, none⟩ = some (.int .i64 (at_ : Int)) := hB1.out.b5.cell 0 rfl
    have k7 : wL.cell? ⟨S + 1 + 1, 0, none⟩ = some (.int .i64 most) := hB1.out.b7.cell 0 rfl
    have hw1 : IntKind.i64.wrap ((at_ : Int) + 1) = (at_ : Int) + 1 := IntWalk.i64_in _ (by omega)
    by_cases hg : 1 < most ∧ at_ + 1 < n
    · obtain ⟨hm, hm2⟩ := hg
      have hu : u1 = at_ := by omega
      have hG2 : GrpT wL M No' (plc L at_) := by
        have := hG1.out
        rwa [hu] at this
      obtain ⟨kl, hkey⟩ := key49 (hwf.out (at_ : Int) (by omega) (by omega)) (hwf.out ((at_ : Int) + 1) (by omega) (by omega))
      obtain ⟨v, hv, hoi, hvn⟩ := hG2.look_all law49 und43 zero48 hkey
      have hzl := plc_length L at_ (pairV (rd L (at_ : Int)) (rd L ((at_ : Int) + 1)))
      obtain ⟨zs, hzs⟩ : ∃ zs, plc L at_ (pairV (rd L (at_ : Int)) (rd L ((at_ : Int) + 1))) = zs := ⟨_, rfl⟩
      rw [hzs] at hoi hzl
      obtain ⟨Av, cv, rfl, hcv, hcell⟩ := ints_slice hoi
      obtain ⟨g, o, rfl, hgw, hx⟩ := byt_of_C hCL.out (by omega)
      have y0 : wL.cell? ⟨g, o + at_, none⟩ = some (.int .u8 (rd L (at_ : Int))) := hx at_ (by omega)
      have y1 : wL.cell? ⟨g, o + at_ + 1, none⟩ = some (.int .u8 (rd L ((at_ : Int) + 1))) := hx (at_ + 1) hm2
      have k1 : wL.cell? ⟨F, 1, none⟩ = some (.map (some M)) := hF1.out.cell 1 rfl
      have d1 : decide ((1 : Int) < most) = true := decide_eq_true hm
      have d2 : decide ((at_ : Int) + 1 < (n : Int)) = true := decide_eq_true (by omega)
      have hw2 : IntKind.i64.wrap ((at_ : Int) + 2) = (at_ : Int) + 2 := IntWalk.i64_in _ (by omega)
      have hw5 : IntKind.i64.wrap ((zs.length : Int) - 1) = (zs.length : Int) - 1 := IntWalk.i64_in _ (by omega)
      have hne : ¬ c0 = at_ := by omega
      have b0 : (0 : Int) ≤ (at_ : Int) := by omega
      have b1 : (at_ : Int) ≤ (at_ : Int) + 2 := by omega
      have b2 : (at_ : Int) + 2 ≤ (c0 : Int) := by omega
      have e2 : ((at_ : Int) + 2).toNat - at_ = 2 := by omega
      have hat2 : ∀ W, (Instr.arrayAt 49 (.slice (some ⟨g, o + at_, none⟩) 2 (c0 - at_))).run Try.prog W = .ok (.pointer (some ⟨g, o + at_, none⟩)) W := fun W => run_arrayAt W 49 _ 2 _ _ _ arr49.hu (Nat.le_refl _)
      replace hv : ∀ W : World, W.heap = wL.heap → (Instr.lookup 43 (.map (some M)) (.agg #[.int .u8 (rd L (at_ : Int)), .int .u8 (rd L ((at_ : Int) + 1))]) false).run Try.prog W = .ok (.slice Av zs.length cv) W := hv
      replace hv := Aside0.mk hv
      replace hcell := Aside0.mk hcell
      replace hvn := Aside0.mk hvn
      replace hzs := Aside0.mk hzs
      clear hx hoi hkey hG2
      go_quiet (fail)
      have hB := Aside0.mk (show Bx (wL.drewN nq) S F at_ most 0 0 from hB1.out.kept ((Kp.refl (fun _ => True) wL).drewN nq) (fun _ _ _ => trivial))
      have hKW := Aside0.mk ((Kp.refl (fun j => j ≠ S + 1 + 1 + 1 ∧ j ≠ S + 1 + 1 + 1 + 1) wL).drewN nq)
      have hWh := Aside0.mk (show (wL.drewN nq).heap = wL.heap from rfl)
      replace y0 : (wL.drewN nq).cell? ⟨g, o + at_, none⟩ = some (.int .u8 (rd L (at_ : Int))) := y0
      replace y1 : (wL.drewN nq).cell? ⟨g, o + at_ + 1, none⟩ = some (.int .u8 (rd L ((at_ : Int) + 1))) := y1
      replace k0 : (wL.drewN nq).cell? ⟨F, 0, none⟩ = some (.slice (some ⟨g, o, none⟩) n c0) := k0
      replace k1 : (wL.drewN nq).cell? ⟨F, 1, none⟩ = some (.map (some M)) := k1
      replace k4 : (wL.drewN nq).cell? ⟨S, 0, none⟩ = some (.pointer (some ⟨F, 0, none⟩)) := k4
      replace k5 : (wL.drewN nq).cell? ⟨S + 1, 0, none⟩ = some (.int .i64 (at_ : Int)) := k5
      clear k7 d1 d2
      generalize wL.drewN nq = W at hB hKW hWh y0 y1 k0 k1 k4 k5 ⊢
      go_wp2_with fail
      go_still_tail 14, (by kernel_rfl)
      change wpList _ _ _ _ _ W.drew
      go_upto_block 0 with (at_lookup; refine wpList_lookup_run rfl _ _ 43 rfl rfl rfl (hv.out _ hWh.out) ?_)
      replace hB := Aside0.mk (show Bx W.drew S F at_ most 0 0 from hB.out.kept ((Kp.refl (fun _ => True) W).drew) (fun _ _ _ => trivial))
      replace hKW := Aside0.mk hKW.out.drew
      clear y0 y1 k0 k1 k4 k5 hWh hat2 b0 b1 b2 e2
      go_cut [12] from 48 to 67 (fun v12 wc => ∃ (ln ds : Int), Aside0 (Bx wc S F at_ most ln ds) ∧ Aside0 (Kp (fun j => j ≠ S + 1 + 1 + 1 ∧ j ≠ S + 1 + 1 + 1 + 1) wL wc) ∧ Aside0 ((ln, ds) = cand L most at_ (min at_ window.toNat)))
      case first =>
        go_wp2_with fail
        go_loopg [12] zs.length (fun g v12 wr => ∃ (j : Nat) (ln ds pv : Int), g = j ∧ v12 = .int .i64 pv ∧ Aside0 (pv = (j : Int) - 1) ∧ j ≤ zs.length ∧ Aside0 (Bx wr S F at_ most ln ds) ∧ Aside0 (Kp (fun j => j ≠ S + 1 + 1 + 1 ∧ j ≠ S + 1 + 1 + 1 + 1) wL wr) ∧ Aside0 (Inv L most at_ window zs j (ln, ds)))
        case atStart => exact ⟨zs.length, 0, 0, (zs.length : Int) - 1, rfl, rfl, ⟨rfl⟩, Nat.le_refl _, hB, hKW, ⟨by have := inv_start (L := L) (most := most) (a := at_) (window := window) (by omega); rwa [hzs.out] at this⟩⟩
        case round =>
          clear hB hKW
          obtain ⟨j, ln, ds, pv, hgk, rfl, hpv, hjl, hB, hKW, hI⟩ := hrel
          have k5 : wr.cell? ⟨S + 1, 0, none⟩ = some (.int .i64 (at_ : Int)) := hB.out.b5.cell 0 rfl
          go_wp2_with fail
          by_cases c1 : 0 < j
          · obtain ⟨i, rfl⟩ : ∃ i, j = i + 1 := ⟨j - 1, by omega⟩
            obtain rfl : pv = (i : Int) := by have := hpv.out; omega
            obtain ⟨z, hz⟩ : ∃ z, zs[i]? = some z := ⟨zs[i]'(by omega), List.getElem?_eq_getElem _⟩
            obtain ⟨gv, rfl, hgo, hgv, hcl⟩ := hcell.out (by omega)
            have hgn := hvn.out gv hgo
            have hgS : gv ≠ S + 1 + 1 + 1 ∧ gv ≠ S + 1 + 1 + 1 + 1 := ⟨fun e => hgn (by rw [e]; exact hN.out _ (by omega) (by omega)), fun e => hgn (by rw [e]; exact hN.out _ (by omega) (by omega))⟩
            have kz : wr.cell? ⟨gv, i, none⟩ = some (.int .i64 z) := (World.cell?_of_block (show wr.heap[gv]? = wL.heap[gv]? from hKW.out.block gv hgv hgS)).trans (hcl i z hz)
            have hzm : z ∈ plc L at_ (pairV (rd L (at_ : Int)) (rd L ((at_ : Int) + 1))) := by rw [hzs.out]; exact List.mem_of_getElem? hz
            obtain ⟨p, hpa, rfl, _⟩ := mem_plc.1 hzm
            have q0' : (0 : Int) ≤ (i : Int) := by omega
            have q1' : (i : Int) < (zs.length : Int) := by omega
            have d1 : decide (0 ≤ (i : Int)) = true := decide_eq_true q0'
            have hw3 : IntKind.i64.wrap ((at_ : Int) - (p : Int)) = (at_ : Int) - (p : Int) := IntWalk.i64_in _ (by omega)
            have hw4 : IntKind.i64.wrap ((i : Int) - 1) = (i : Int) - 1 := IntWalk.i64_in _ (by omega)
            clear hzm
            replace hz := Aside0.mk hz
            by_cases c2 : (at_ : Int) - (p : Int) ≤ window
            · have d2 : decide ((at_ : Int) - (p : Int) ≤ window) = true := decide_eq_true c2
              go_quiet (fail)
              obtain ⟨kf, hkf⟩ := hrun.out p (by omega) hpa
              replace kz : (wr.drewN nq).cell? ⟨gv, i, none⟩ = some (.int .i64 (p : Int)) := kz
              replace hB := Aside0.mk (show Bx (wr.drewN nq) S F at_ most ln ds from hB.out.kept ((Kp.refl (fun _ => True) wr).drewN nq) (fun _ _ _ => trivial))
              replace hKW := Aside0.mk (hKW.out.drewN nq)
              clear k5 d1 d2
              generalize wr.drewN nq = W2 at hB hKW kz ⊢
              have hbt := Aside0.mk (better_any kf L (some ⟨g, o, none⟩) n c0 F M u1 S (S + 1) (S + 1 + 1) (S + 1 + 1 + 1) (S + 1 + 1 + 1 + 1) at_ p most _ ln ds W2 hn hnc hb (C_block hCL.out (fun h0 ad e => hKW.out.block ad.block (hAL.out h0 ad e).1 ⟨by have := (hAL.out h0 ad e).2; omega, by have := (hAL.out h0 ad e).2; omega⟩)) (hKW.out.blk hF1.out ⟨by omega, by omega⟩) hB.out.b4 hB.out.b5 hB.out.b7 hB.out.b8 hB.out.b9 (by omega) (by omega) (by omega) (by omega) hpa hkf)
              clear hkf
              go_wp2_with (first | (go_at_call 15; (with_reducible refine hbt.out.mono ?_); rintro e wB ⟨rfl, hb8, hb9, hkB⟩))
              go_roundg i
              case measure => omega
              case rel =>
                obtain ⟨p', e1, hp', hI'⟩ := inv_step (by rw [hzs.out]; exact hI.out) (by rw [hzs.out]; exact hz.out) c2
                obtain rfl : p = p' := by omega
                rw [hzs.out] at hI'
                exact ⟨i, _, _, (i : Int) - 1, rfl, rfl, ⟨rfl⟩, by omega, ⟨⟨hkB.blk hB.out.b4 ⟨by omega, by omega⟩, hkB.blk hB.out.b5 ⟨by omega, by omega⟩, hkB.blk hB.out.b7 ⟨by omega, by omega⟩, hb8, hb9⟩⟩, ⟨hKW.out.trans hkB⟩, ⟨hI'⟩⟩
            · have d2 : decide ((at_ : Int) - (p : Int) ≤ window) = false := decide_eq_false c2
              go_quiet (fail)
              go_wp2_with fail
              go_meet
              case rel => exact ⟨ln, ds, ⟨hB.out.kept ((Kp.refl (fun _ => True) wr).drewN nq) (fun _ _ _ => trivial)⟩, ⟨hKW.out.drewN nq⟩, ⟨inv_end (by rw [hzs.out]; exact hI.out) (Or.inr ⟨i, (p : Int), rfl, by rw [hzs.out]; exact hz.out, by omega⟩)⟩⟩
          · obtain rfl : j = 0 := by omega
            obtain rfl : pv = -1 := by have := hpv.out; omega
            go_quiet (fail)
            go_wp2_with fail
            go_meet
            case rel => exact ⟨ln, ds, ⟨hB.out.kept ((Kp.refl (fun _ => True) wr).drewN nq) (fun _ _ _ => trivial)⟩, ⟨hKW.out.drewN nq⟩, ⟨inv_end (by rw [hzs.out]; exact hI.out) (Or.inl rfl)⟩⟩
      case rest =>
        clear hB hKW hw2 hw5
        obtain ⟨ln, ds, hB, hKW, hcd⟩ := hcut
        have hcases : (0 < ln ∧ ln = r1 ∧ ds = r2) ∨ (ln = 0 ∧ ds = 0 ∧ (full L most at_ (min at_ window.toNat)).1 ≤ 1) := by
          rcases cand_full (L := L) (a := at_) hm (by rw [hn]; exact hm2) (min at_ window.toNat) with ⟨h1, h2⟩ | ⟨h1, h2⟩
          · rw [← hcd.out] at h1 h2
            rw [hr.out] at h2
            injection h2 with e1 e2
            have h1' : (2 : Int) ≤ ln := h1
            exact Or.inl ⟨by omega, e1, e2⟩
          · rw [← hcd.out] at h1
            injection h1 with e1 e2
            exact Or.inr ⟨e1, e2, h2⟩
        clear hcd
        generalize wc = W at hB hKW ⊢
        rcases hcases with ⟨hl, e1, e2⟩ | ⟨e1, e2, hle⟩
        · subst e1
          subst e2
          have dA : decide ((0 : Int) < ln) = true := decide_eq_true hl
          have hQ8 := hB.out.same8
          have hQ9 := hQ8.same9
          have k8 : W.cell? ⟨S + 1 + 1 + 1, 0, none⟩ = some (.int .i64 ln) := hB.out.b8.cell 0 rfl
          have k9 : W.cell? ⟨S + 1 + 1 + 1 + 1, 0, none⟩ = some (.int .i64 ds) := hB.out.b9.cell 0 rfl
          have f8 : W.frozen? ⟨S + 1 + 1 + 1, 0, none⟩ = false := hB.out.b8.free 0
          have l8 : (W.setCell ⟨S + 1 + 1 + 1, 0, none⟩ (.int .i64 ln)).cell? ⟨S + 1 + 1 + 1, 0, none⟩ = some (.int .i64 ln) := hQ8.b8.cell 0 rfl
          have l9 : (W.setCell ⟨S + 1 + 1 + 1, 0, none⟩ (.int .i64 ln)).cell? ⟨S + 1 + 1 + 1 + 1, 0, none⟩ = some (.int .i64 ds) := hQ8.b9.cell 0 rfl
          have f9 : (W.setCell ⟨S + 1 + 1 + 1, 0, none⟩ (.int .i64 ln)).frozen? ⟨S + 1 + 1 + 1 + 1, 0, none⟩ = false := hQ8.b9.free 0
          have m8 : ((W.setCell ⟨S + 1 + 1 + 1, 0, none⟩ (.int .i64 ln)).setCell ⟨S + 1 + 1 + 1 + 1, 0, none⟩ (.int .i64 ds)).cell? ⟨S + 1 + 1 + 1, 0, none⟩ = some (.int .i64 ln) := hQ9.b8.cell 0 rfl
          have m9 : ((W.setCell ⟨S + 1 + 1 + 1, 0, none⟩ (.int .i64 ln)).setCell ⟨S + 1 + 1 + 1 + 1, 0, none⟩ (.int .i64 ds)).cell? ⟨S + 1 + 1 + 1 + 1, 0, none⟩ = some (.int .i64 ds) := hQ9.b9.cell 0 rfl
          replace hQ8 := Aside0.mk hQ8
          replace hQ9 := Aside0.mk hQ9
          go_wp2
          go_region_held3 (fun X => X.cell? ⟨S + 1 + 1 + 1, 0, none⟩ = some (.int .i64 ln) ∧ X.cell? ⟨S + 1 + 1 + 1 + 1, 0, none⟩ = some (.int .i64 ds)) (first | exact ⟨l8, l9⟩ | exact ⟨m8, m9⟩ | go_keep) (fail)
          all_goals
            go_wp2
            (try simp only [Exit.inBlock, Exit.then])
            refine bodyPost_ret (v := .tuple #[.int .i64 ln, .int .i64 ds]) (results_two rfl _ _ (S + 1 + 1 + 1) (S + 1 + 1 + 1 + 1) _ _ rfl m8 rfl m9) rfl ⟨rfl, ?_⟩
            exact hpost.out _ (((hKW.out.set (fun h => h.1 rfl) _).set (fun h => h.2 rfl) _).drew)
        · subst e1
          subst e2
          have k8 : W.cell? ⟨S + 1 + 1 + 1, 0, none⟩ = some (.int .i64 0) := hB.out.b8.cell 0 rfl
          have k5 : W.cell? ⟨S + 1, 0, none⟩ = some (.int .i64 (at_ : Int)) := hB.out.b5.cell 0 rfl
          have hw2 : IntKind.i64.wrap ((at_ : Int) - 1) = (at_ : Int) - 1 := IntWalk.i64_in _ (by omega)
          go_wp2_with fail
          go_loopg [13] at_ (fun g v13 wr => ∃ (t : Nat) (ln ds pv : Int), g = at_ - t ∧ v13 = .int .i64 pv ∧ Aside0 (pv = (at_ : Int) - 1 - t) ∧ t ≤ at_ ∧ Aside0 (Bx wr S F at_ most ln ds) ∧ Aside0 (Kp (fun j => j ≠ S + 1 + 1 + 1 ∧ j ≠ S + 1 + 1 + 1 + 1) wL wr) ∧ Aside0 (P2 L most at_ (min at_ window.toNat) r1 r2 t ln ds))
          case atStart => exact ⟨0, 0, 0, (at_ : Int) - 1, by omega, rfl, ⟨by omega⟩, Nat.zero_le _, hB, hKW, ⟨Or.inl ⟨rfl, rfl, rfl, Nat.zero_le _⟩⟩⟩
          case round =>
            clear k8 k5 hB hKW
            obtain ⟨t, ln, ds, pv, hgk, rfl, hpv, hta, hB, hKW, hP⟩ := hrel
            have k8 : wr.cell? ⟨S + 1 + 1 + 1, 0, none⟩ = some (.int .i64 ln) := hB.out.b8.cell 0 rfl
            have k5 : wr.cell? ⟨S + 1, 0, none⟩ = some (.int .i64 (at_ : Int)) := hB.out.b5.cell 0 rfl
            have k4 : wr.cell? ⟨S, 0, none⟩ = some (.pointer (some ⟨F, 0, none⟩)) := hB.out.b4.cell 0 rfl
            have k0 : wr.cell? ⟨F, 0, none⟩ = some (.slice (some ⟨g, o, none⟩) n c0) := (hKW.out.blk hF1.out ⟨by omega, by omega⟩).cell 0 rfl
            have hw3 : IntKind.i64.wrap ((at_ : Int) - pv) = (at_ : Int) - pv := IntWalk.i64_in _ (by have := hpv.out; omega)
            have hw4 : IntKind.i64.wrap (pv - 1) = pv - 1 := IntWalk.i64_in _ (by have := hpv.out; omega)
            go_wp2_with fail
            by_cases c1 : t < at_
            · have d1 : decide (0 ≤ pv) = true := decide_eq_true (by have := hpv.out; omega)
              by_cases c2 : (at_ : Int) - pv ≤ window
              · have d2 : decide ((at_ : Int) - pv ≤ window) = true := decide_eq_true c2
                by_cases c3 : at_ < n
                · have d3 : decide ((at_ : Int) < (n : Int)) = true := decide_eq_true (by omega)
                  by_cases c4 : ln = 0
                  · have d4 : (ln == 0) = true := by simp [c4]
                    obtain ⟨p, rfl⟩ : ∃ p : Nat, pv = (p : Int) := ⟨at_ - 1 - t, by have := hpv.out; omega⟩
                    go_quiet (fail)
                    obtain ⟨kf, hkf⟩ := hrun.out p (by omega) (by have := hpv.out; omega)
                    replace hB := Aside0.mk (show Bx (wr.drewN nq) S F at_ most ln ds from hB.out.kept ((Kp.refl (fun _ => True) wr).drewN nq) (fun _ _ _ => trivial))
                    replace hKW := Aside0.mk (hKW.out.drewN nq)
                    clear k8 k5 k4 k0
                    generalize wr.drewN nq = W at hB hKW ⊢
                    have hbt := Aside0.mk (better_any kf L (some ⟨g, o, none⟩) n c0 F M u1 S (S + 1) (S + 1 + 1) (S + 1 + 1 + 1) (S + 1 + 1 + 1 + 1) at_ p most _ ln ds W hn hnc hb (C_block hCL.out (fun h0 ad e => hKW.out.block ad.block (hAL.out h0 ad e).1 ⟨by have := (hAL.out h0 ad e).2; omega, by have := (hAL.out h0 ad e).2; omega⟩)) (hKW.out.blk hF1.out ⟨by omega, by omega⟩) hB.out.b4 hB.out.b5 hB.out.b7 hB.out.b8 hB.out.b9 (by omega) (by omega) (by omega) (by omega) (by have := hpv.out; omega) hkf)
                    clear hkf
                    go_wp2_with (first | (go_at_call 15; (with_reducible refine hbt.out.mono ?_); rintro e wB ⟨rfl, hb8, hb9, hkB⟩))
                    go_roundg (gk - 1)
                    case measure => omega
                    case rel => exact ⟨t + 1, _, _, (p : Int) - 1, by omega, rfl, ⟨by have := hpv.out; omega⟩, by omega, ⟨⟨hkB.blk hB.out.b4 ⟨by omega, by omega⟩, hkB.blk hB.out.b5 ⟨by omega, by omega⟩, hkB.blk hB.out.b7 ⟨by omega, by omega⟩, hb8, hb9⟩⟩, ⟨hKW.out.trans hkB⟩, ⟨hP.out.step c4 hr.out hle (by have := hpv.out; omega) hpv.out⟩⟩
                  · have d4 : (ln == 0) = false := by simp [c4]
                    go_quiet (fail)
                    obtain ⟨e1, e2⟩ := hP.out.exit hr.out (Or.inr (Or.inr (Or.inr c4)))
                    subst e1
                    subst e2
                    replace hB := Aside0.mk (show Bx (wr.drewN nq) S F at_ most ln ds from hB.out.kept ((Kp.refl (fun _ => True) wr).drewN nq) (fun _ _ _ => trivial))
                    replace hKW := Aside0.mk (hKW.out.drewN nq)
                    clear k8 k5 k4 k0
                    generalize wr.drewN nq = W at hB hKW ⊢
                    have hQ8 := hB.out.same8
                    have hQ9 := hQ8.same9
                    have k8 : W.cell? ⟨S + 1 + 1 + 1, 0, none⟩ = some (.int .i64 ln) := hB.out.b8.cell 0 rfl
                    have k9 : W.cell? ⟨S + 1 + 1 + 1 + 1, 0, none⟩ = some (.int .i64 ds) := hB.out.b9.cell 0 rfl
                    have f8 : W.frozen? ⟨S + 1 + 1 + 1, 0, none⟩ = false := hB.out.b8.free 0
                    have l8 : (W.setCell ⟨S + 1 + 1 + 1, 0, none⟩ (.int .i64 ln)).cell? ⟨S + 1 + 1 + 1, 0, none⟩ = some (.int .i64 ln) := hQ8.b8.cell 0 rfl
                    have l9 : (W.setCell ⟨S + 1 + 1 + 1, 0, none⟩ (.int .i64 ln)).cell? ⟨S + 1 + 1 + 1 + 1, 0, none⟩ = some (.int .i64 ds) := hQ8.b9.cell 0 rfl
                    have f9 : (W.setCell ⟨S + 1 + 1 + 1, 0, none⟩ (.int .i64 ln)).frozen? ⟨S + 1 + 1 + 1 + 1, 0, none⟩ = false := hQ8.b9.free 0
                    have m8 : ((W.setCell ⟨S + 1 + 1 + 1, 0, none⟩ (.int .i64 ln)).setCell ⟨S + 1 + 1 + 1 + 1, 0, none⟩ (.int .i64 ds)).cell? ⟨S + 1 + 1 + 1, 0, none⟩ = some (.int .i64 ln) := hQ9.b8.cell 0 rfl
                    have m9 : ((W.setCell ⟨S + 1 + 1 + 1, 0, none⟩ (.int .i64 ln)).setCell ⟨S + 1 + 1 + 1 + 1, 0, none⟩ (.int .i64 ds)).cell? ⟨S + 1 + 1 + 1 + 1, 0, none⟩ = some (.int .i64 ds) := hQ9.b9.cell 0 rfl
                    replace hQ8 := Aside0.mk hQ8
                    replace hQ9 := Aside0.mk hQ9
                    go_wp2
                    go_region_held3 (fun X => X.cell? ⟨S + 1 + 1 + 1, 0, none⟩ = some (.int .i64 ln) ∧ X.cell? ⟨S + 1 + 1 + 1 + 1, 0, none⟩ = some (.int .i64 ds)) (first | exact ⟨l8, l9⟩ | exact ⟨m8, m9⟩ | go_keep) (fail)
                    all_goals
                      go_wp2
                      (try simp only [Exit.inBlock, Exit.then])
                      refine bodyPost_ret (v := .tuple #[.int .i64 ln, .int .i64 ds]) (results_two rfl _ _ (S + 1 + 1 + 1) (S + 1 + 1 + 1 + 1) _ _ rfl m8 rfl m9) rfl ⟨rfl, ?_⟩
                      exact hpost.out _ (((hKW.out.set (fun h => h.1 rfl) _).set (fun h => h.2 rfl) _).drew)
                · have d3 : decide ((at_ : Int) < (n : Int)) = false := decide_eq_false (by omega)
                  go_quiet (fail)
                  obtain ⟨e1, e2⟩ := hP.out.exit hr.out (Or.inr (Or.inr (Or.inl (by omega))))
                  subst e1
                  subst e2
                  replace hB := Aside0.mk (show Bx (wr.drewN nq) S F at_ most ln ds from hB.out.kept ((Kp.refl (fun _ => True) wr).drewN nq) (fun _ _ _ => trivial))
                  replace hKW := Aside0.mk (hKW.out.drewN nq)
                  clear k8 k5 k4 k0
                  generalize wr.drewN nq = W at hB hKW ⊢
                  have hQ8 := hB.out.same8
                  have hQ9 := hQ8.same9
                  have k8 : W.cell? ⟨S + 1 + 1 + 1, 0, none⟩ = some (.int .i64 ln) := hB.out.b8.cell 0 rfl
                  have k9 : W.cell? ⟨S + 1 + 1 + 1 + 1, 0, none⟩ = some (.int .i64 ds) := hB.out.b9.cell 0 rfl
                  have f8 : W.frozen? ⟨S + 1 + 1 + 1, 0, none⟩ = false := hB.out.b8.free 0
                  have l8 : (W.setCell ⟨S + 1 + 1 + 1, 0, none⟩ (.int .i64 ln)).cell? ⟨S + 1 + 1 + 1, 0, none⟩ = some (.int .i64 ln) := hQ8.b8.cell 0 rfl
                  have l9 : (W.setCell ⟨S + 1 + 1 + 1, 0, none⟩ (.int .i64 ln)).cell? ⟨S + 1 + 1 + 1 + 1, 0, none⟩ = some (.int .i64 ds) := hQ8.b9.cell 0 rfl
                  have f9 : (W.setCell ⟨S + 1 + 1 + 1, 0, none⟩ (.int .i64 ln)).frozen? ⟨S + 1 + 1 + 1 + 1, 0, none⟩ = false := hQ8.b9.free 0
                  have m8 : ((W.setCell ⟨S + 1 + 1 + 1, 0, none⟩ (.int .i64 ln)).setCell ⟨S + 1 + 1 + 1 + 1, 0, none⟩ (.int .i64 ds)).cell? ⟨S + 1 + 1 + 1, 0, none⟩ = some (.int .i64 ln) := hQ9.b8.cell 0 rfl
                  have m9 : ((W.setCell ⟨S + 1 + 1 + 1, 0, none⟩ (.int .i64 ln)).setCell ⟨S + 1 + 1 + 1 + 1, 0, none⟩ (.int .i64 ds)).cell? ⟨S + 1 + 1 + 1 + 1, 0, none⟩ = some (.int .i64 ds) := hQ9.b9.cell 0 rfl
                  replace hQ8 := Aside0.mk hQ8
                  replace hQ9 := Aside0.mk hQ9
                  go_wp2
                  go_region_held3 (fun X => X.cell? ⟨S + 1 + 1 + 1, 0, none⟩ = some (.int .i64 ln) ∧ X.cell? ⟨S + 1 + 1 + 1 + 1, 0, none⟩ = some (.int .i64 ds)) (first | exact ⟨l8, l9⟩ | exact ⟨m8, m9⟩ | go_keep) (fail)
                  all_goals
                    go_wp2
                    (try simp only [Exit.inBlock, Exit.then])
                    refine bodyPost_ret (v := .tuple #[.int .i64 ln, .int .i64 ds]) (results_two rfl _ _ (S + 1 + 1 + 1) (S + 1 + 1 + 1 + 1) _ _ rfl m8 rfl m9) rfl ⟨rfl, ?_⟩
                    exact hpost.out _ (((hKW.out.set (fun h => h.1 rfl) _).set (fun h => h.2 rfl) _).drew)
              · have d2 : decide ((at_ : Int) - pv ≤ window) = false := decide_eq_false c2
                go_quiet (fail)
                obtain ⟨e1, e2⟩ := hP.out.exit hr.out (Or.inr (Or.inl (by have := hpv.out; omega)))
                subst e1
                subst e2
                replace hB := Aside0.mk (show Bx (wr.drewN nq) S F at_ most ln ds from hB.out.kept ((Kp.refl (fun _ => True) wr).drewN nq) (fun _ _ _ => trivial))
                replace hKW := Aside0.mk (hKW.out.drewN nq)
                clear k8 k5 k4 k0
                generalize wr.drewN nq = W at hB hKW ⊢
                have hQ8 := hB.out.same8
                have hQ9 := hQ8.same9
                have k8 : W.cell? ⟨S + 1 + 1 + 1, 0, none⟩ = some (.int .i64 ln) := hB.out.b8.cell 0 rfl
                have k9 : W.cell? ⟨S + 1 + 1 + 1 + 1, 0, none⟩ = some (.int .i64 ds) := hB.out.b9.cell 0 rfl
                have f8 : W.frozen? ⟨S + 1 + 1 + 1, 0, none⟩ = false := hB.out.b8.free 0
                have l8 : (W.setCell ⟨S + 1 + 1 + 1, 0, none⟩ (.int .i64 ln)).cell? ⟨S + 1 + 1 + 1, 0, none⟩ = some (.int .i64 ln) := hQ8.b8.cell 0 rfl
                have l9 : (W.setCell ⟨S + 1 + 1 + 1, 0, none⟩ (.int .i64 ln)).cell? ⟨S + 1 + 1 + 1 + 1, 0, none⟩ = some (.int .i64 ds) := hQ8.b9.cell 0 rfl
                have f9 : (W.setCell ⟨S + 1 + 1 + 1, 0, none⟩ (.int .i64 ln)).frozen? ⟨S + 1 + 1 + 1 + 1, 0, none⟩ = false := hQ8.b9.free 0
                have m8 : ((W.setCell ⟨S + 1 + 1 + 1, 0, none⟩ (.int .i64 ln)).setCell ⟨S + 1 + 1 + 1 + 1, 0, none⟩ (.int .i64 ds)).cell? ⟨S + 1 + 1 + 1, 0, none⟩ = some (.int .i64 ln) := hQ9.b8.cell 0 rfl
                have m9 : ((W.setCell ⟨S + 1 + 1 + 1, 0, none⟩ (.int .i64 ln)).setCell ⟨S + 1 + 1 + 1 + 1, 0, none⟩ (.int .i64 ds)).cell? ⟨S + 1 + 1 + 1 + 1, 0, none⟩ = some (.int .i64 ds) := hQ9.b9.cell 0 rfl
                replace hQ8 := Aside0.mk hQ8
                replace hQ9 := Aside0.mk hQ9
                go_wp2
                go_region_held3 (fun X => X.cell? ⟨S + 1 + 1 + 1, 0, none⟩ = some (.int .i64 ln) ∧ X.cell? ⟨S + 1 + 1 + 1 + 1, 0, none⟩ = some (.int .i64 ds)) (first | exact ⟨l8, l9⟩ | exact ⟨m8, m9⟩ | go_keep) (fail)
                all_goals
                  go_wp2
                  (try simp only [Exit.inBlock, Exit.then])
                  refine bodyPost_ret (v := .tuple #[.int .i64 ln, .int .i64 ds]) (results_two rfl _ _ (S + 1 + 1 + 1) (S + 1 + 1 + 1 + 1) _ _ rfl m8 rfl m9) rfl ⟨rfl, ?_⟩
                  exact hpost.out _ (((hKW.out.set (fun h => h.1 rfl) _).set (fun h => h.2 rfl) _).drew)
            · have d1 : decide (0 ≤ pv) = false := decide_eq_false (by have := hpv.out; omega)
              go_quiet (fail)
              obtain ⟨e1, e2⟩ := hP.out.exit hr.out (Or.inl (by have := hpv.out; omega))
              subst e1
              subst e2
              replace hB := Aside0.mk (show Bx (wr.drewN nq) S F at_ most ln ds from hB.out.kept ((Kp.refl (fun _ => True) wr).drewN nq) (fun _ _ _ => trivial))
              replace hKW := Aside0.mk (hKW.out.drewN nq)
              clear k8 k5 k4 k0
              generalize wr.drewN nq = W at hB hKW ⊢
              have hQ8 := hB.out.same8
              have hQ9 := hQ8.same9
              have k8 : W.cell? ⟨S + 1 + 1 + 1, 0, none⟩ = some (.int .i64 ln) := hB.out.b8.cell 0 rfl
              have k9 : W.cell? ⟨S + 1 + 1 + 1 + 1, 0, none⟩ = some (.int .i64 ds) := hB.out.b9.cell 0 rfl
              have f8 : W.frozen? ⟨S + 1 + 1 + 1, 0, none⟩ = false := hB.out.b8.free 0
              have l8 : (W.setCell ⟨S + 1 + 1 + 1, 0, none⟩ (.int .i64 ln)).cell? ⟨S + 1 + 1 + 1, 0, none⟩ = some (.int .i64 ln) := hQ8.b8.cell 0 rfl
              have l9 : (W.setCell ⟨S + 1 + 1 + 1, 0, none⟩ (.int .i64 ln)).cell? ⟨S + 1 + 1 + 1 + 1, 0, none⟩ = some (.int .i64 ds) := hQ8.b9.cell 0 rfl
              have f9 : (W.setCell ⟨S + 1 + 1 + 1, 0, none⟩ (.int .i64 ln)).frozen? ⟨S + 1 + 1 + 1 + 1, 0, none⟩ = false := hQ8.b9.free 0
              have m8 : ((W.setCell ⟨S + 1 + 1 + 1, 0, none⟩ (.int .i64 ln)).setCell ⟨S + 1 + 1 + 1 + 1, 0, none⟩ (.int .i64 ds)).cell? ⟨S + 1 + 1 + 1, 0, none⟩ = some (.int .i64 ln) := hQ9.b8.cell 0 rfl
              have m9 : ((W.setCell ⟨S + 1 + 1 + 1, 0, none⟩ (.int .i64 ln)).setCell ⟨S + 1 + 1 + 1 + 1, 0, none⟩ (.int .i64 ds)).cell? ⟨S + 1 + 1 + 1 + 1, 0, none⟩ = some (.int .i64 ds) := hQ9.b9.cell 0 rfl
              replace hQ8 := Aside0.mk hQ8
              replace hQ9 := Aside0.mk hQ9
              go_wp2
              go_region_held3 (fun X => X.cell? ⟨S + 1 + 1 + 1, 0, none⟩ = some (.int .i64 ln) ∧ X.cell? ⟨S + 1 + 1 + 1 + 1, 0, none⟩ = some (.int .i64 ds)) (first | exact ⟨l8, l9⟩ | exact ⟨m8, m9⟩ | go_keep) (fail)
              all_goals
                go_wp2
                (try simp only [Exit.inBlock, Exit.then])
                refine bodyPost_ret (v := .tuple #[.int .i64 ln, .int .i64 ds]) (results_two rfl _ _ (S + 1 + 1 + 1) (S + 1 + 1 + 1 + 1) _ _ rfl m8 rfl m9) rfl ⟨rfl, ?_⟩
                exact hpost.out _ (((hKW.out.set (fun h => h.1 rfl) _).set (fun h => h.2 rfl) _).drew)
    · have hle : (full L most at_ (min at_ window.toNat)).1 ≤ 1 := full_small (by rw [hn]; exact hg) _
      by_cases hm : 1 < most
      · have d1 : decide ((1 : Int) < most) = true := decide_eq_true hm
        have d2 : decide ((at_ : Int) + 1 < (n : Int)) = false := decide_eq_false (by have := fun h => hg ⟨hm, h⟩; omega)
        go_quiet (fail)
        have hB := Aside0.mk (show Bx (wL.drewN nq) S F at_ most 0 0 from hB1.out.kept ((Kp.refl (fun _ => True) wL).drewN nq) (fun _ _ _ => trivial))
        have hKW := Aside0.mk ((Kp.refl (fun j => j ≠ S + 1 + 1 + 1 ∧ j ≠ S + 1 + 1 + 1 + 1) wL).drewN nq)
        clear k0 k4 k5 k7
        generalize wL.drewN nq = W at hB hKW ⊢
        have k8 : W.cell? ⟨S + 1 + 1 + 1, 0, none⟩ = some (.int .i64 0) := hB.out.b8.cell 0 rfl
        have k5 : W.cell? ⟨S + 1, 0, none⟩ = some (.int .i64 (at_ : Int)) := hB.out.b5.cell 0 rfl
        have hw2 : IntKind.i64.wrap ((at_ : Int) - 1) = (at_ : Int) - 1 := IntWalk.i64_in _ (by omega)
        go_wp2_with fail
        go_loopg [13] at_ (fun g v13 wr => ∃ (t : Nat) (ln ds pv : Int), g = at_ - t ∧ v13 = .int .i64 pv ∧ Aside0 (pv = (at_ : Int) - 1 - t) ∧ t ≤ at_ ∧ Aside0 (Bx wr S F at_ most ln ds) ∧ Aside0 (Kp (fun j => j ≠ S + 1 + 1 + 1 ∧ j ≠ S + 1 + 1 + 1 + 1) wL wr) ∧ Aside0 (P2 L most at_ (min at_ window.toNat) r1 r2 t ln ds))
        case atStart => exact ⟨0, 0, 0, (at_ : Int) - 1, by omega, rfl, ⟨by omega⟩, Nat.zero_le _, hB, hKW, ⟨Or.inl ⟨rfl, rfl, rfl, Nat.zero_le _⟩⟩⟩
        case round =>
          clear k8 k5 hB hKW
          obtain ⟨t, ln, ds, pv, hgk, rfl, hpv, hta, hB, hKW, hP⟩ := hrel
          have k8 : wr.cell? ⟨S + 1 + 1 + 1, 0, none⟩ = some (.int .i64 ln) := hB.out.b8.cell 0 rfl
          have k5 : wr.cell? ⟨S + 1, 0, none⟩ = some (.int .i64 (at_ : Int)) := hB.out.b5.cell 0 rfl
          have k4 : wr.cell? ⟨S, 0, none⟩ = some (.pointer (some ⟨F, 0, none⟩)) := hB.out.b4.cell 0 rfl
          have k0 : wr.cell? ⟨F, 0, none⟩ = some (.slice A0 n c0) := (hKW.out.blk hF1.out ⟨by omega, by omega⟩).cell 0 rfl
          have hw3 : IntKind.i64.wrap ((at_ : Int) - pv) = (at_ : Int) - pv := IntWalk.i64_in _ (by have := hpv.out; omega)
          have hw4 : IntKind.i64.wrap (pv - 1) = pv - 1 := IntWalk.i64_in _ (by have := hpv.out; omega)
          go_wp2_with fail
          by_cases c1 : t < at_
          · have d1 : decide (0 ≤ pv) = true := decide_eq_true (by have := hpv.out; omega)
            by_cases c2 : (at_ : Int) - pv ≤ window
            · have d2 : decide ((at_ : Int) - pv ≤ window) = true := decide_eq_true c2
              by_cases c3 : at_ < n
              · have d3 : decide ((at_ : Int) < (n : Int)) = true := decide_eq_true (by omega)
                by_cases c4 : ln = 0
                · have d4 : (ln == 0) = true := by simp [c4]
                  obtain ⟨p, rfl⟩ : ∃ p : Nat, pv = (p : Int) := ⟨at_ - 1 - t, by have := hpv.out; omega⟩
                  go_quiet (fail)
                  obtain ⟨kf, hkf⟩ := hrun.out p (by omega) (by have := hpv.out; omega)
                  replace hB := Aside0.mk (show Bx (wr.drewN nq) S F at_ most ln ds from hB.out.kept ((Kp.refl (fun _ => True) wr).drewN nq) (fun _ _ _ => trivial))
                  replace hKW := Aside0.mk (hKW.out.drewN nq)
                  clear k8 k5 k4 k0
                  generalize wr.drewN nq = W at hB hKW ⊢
                  have hbt := Aside0.mk (better_any kf L A0 n c0 F M u1 S (S + 1) (S + 1 + 1) (S + 1 + 1 + 1) (S + 1 + 1 + 1 + 1) at_ p most _ ln ds W hn hnc hb (C_block hCL.out (fun h0 ad e => hKW.out.block ad.block (hAL.out h0 ad e).1 ⟨by have := (hAL.out h0 ad e).2; omega, by have := (hAL.out h0 ad e).2; omega⟩)) (hKW.out.blk hF1.out ⟨by omega, by omega⟩) hB.out.b4 hB.out.b5 hB.out.b7 hB.out.b8 hB.out.b9 (by omega) (by omega) (by omega) (by omega) (by have := hpv.out; omega) hkf)
                  clear hkf
                  go_wp2_with (first | (go_at_call 15; (with_reducible refine hbt.out.mono ?_); rintro e wB ⟨rfl, hb8, hb9, hkB⟩))
                  go_roundg (gk - 1)
                  case measure => omega
                  case rel => exact ⟨t + 1, _, _, (p : Int) - 1, by omega, rfl, ⟨by have := hpv.out; omega⟩, by omega, ⟨⟨hkB.blk hB.out.b4 ⟨by omega, by omega⟩, hkB.blk hB.out.b5 ⟨by omega, by omega⟩, hkB.blk hB.out.b7 ⟨by omega, by omega⟩, hb8, hb9⟩⟩, ⟨hKW.out.trans hkB⟩, ⟨hP.out.step c4 hr.out hle (by have := hpv.out; omega) hpv.out⟩⟩
                · have d4 : (ln == 0) = false := by simp [c4]
                  go_quiet (fail)
                  obtain ⟨e1, e2⟩ := hP.out.exit hr.out (Or.inr (Or.inr (Or.inr c4)))
                  subst e1
                  subst e2
                  replace hB := Aside0.mk (show Bx (wr.drewN nq) S F at_ most ln ds from hB.out.kept ((Kp.refl (fun _ => True) wr).drewN nq) (fun _ _ _ => trivial))
                  replace hKW := Aside0.mk (hKW.out.drewN nq)
                  clear k8 k5 k4 k0
                  generalize wr.drewN nq = W at hB hKW ⊢
                  have hQ8 := hB.out.same8
                  have hQ9 := hQ8.same9
                  have k8 : W.cell? ⟨S + 1 + 1 + 1, 0, none⟩ = some (.int .i64 ln) := hB.out.b8.cell 0 rfl
                  have k9 : W.cell? ⟨S + 1 + 1 + 1 + 1, 0, none⟩ = some (.int .i64 ds) := hB.out.b9.cell 0 rfl
                  have f8 : W.frozen? ⟨S + 1 + 1 + 1, 0, none⟩ = false := hB.out.b8.free 0
                  have l8 : (W.setCell ⟨S + 1 + 1 + 1, 0, none⟩ (.int .i64 ln)).cell? ⟨S + 1 + 1 + 1, 0, none⟩ = some (.int .i64 ln) := hQ8.b8.cell 0 rfl
                  have l9 : (W.setCell ⟨S + 1 + 1 + 1, 0, none⟩ (.int .i64 ln)).cell? ⟨S + 1 + 1 + 1 + 1, 0, none⟩ = some (.int .i64 ds) := hQ8.b9.cell 0 rfl
                  have f9 : (W.setCell ⟨S + 1 + 1 + 1, 0, none⟩ (.int .i64 ln)).frozen? ⟨S + 1 + 1 + 1 + 1, 0, none⟩ = false := hQ8.b9.free 0
                  have m8 : ((W.setCell ⟨S + 1 + 1 + 1, 0, none⟩ (.int .i64 ln)).setCell ⟨S + 1 + 1 + 1 + 1, 0, none⟩ (.int .i64 ds)).cell? ⟨S + 1 + 1 + 1, 0, none⟩ = some (.int .i64 ln) := hQ9.b8.cell 0 rfl
                  have m9 : ((W.setCell ⟨S + 1 + 1 + 1, 0, none⟩ (.int .i64 ln)).setCell ⟨S + 1 + 1 + 1 + 1, 0, none⟩ (.int .i64 ds)).cell? ⟨S + 1 + 1 + 1 + 1, 0, none⟩ = some (.int .i64 ds) := hQ9.b9.cell 0 rfl
                  replace hQ8 := Aside0.mk hQ8
                  replace hQ9 := Aside0.mk hQ9
                  go_wp2
                  go_region_held3 (fun X => X.cell? ⟨S + 1 + 1 + 1, 0, none⟩ = some (.int .i64 ln) ∧ X.cell? ⟨S + 1 + 1 + 1 + 1, 0, none⟩ = some (.int .i64 ds)) (first | exact ⟨l8, l9⟩ | exact ⟨m8, m9⟩ | go_keep) (fail)
                  all_goals
                    go_wp2
                    (try simp only [Exit.inBlock, Exit.then])
                    refine bodyPost_ret (v := .tuple #[.int .i64 ln, .int .i64 ds]) (results_two rfl _ _ (S + 1 + 1 + 1) (S + 1 + 1 + 1 + 1) _ _ rfl m8 rfl m9) rfl ⟨rfl, ?_⟩
                    exact hpost.out _ (((hKW.out.set (fun h => h.1 rfl) _).set (fun h => h.2 rfl) _).drew)
              · have d3 : decide ((at_ : Int) < (n : Int)) = false := decide_eq_false (by omega)
                go_quiet (fail)
                obtain ⟨e1, e2⟩ := hP.out.exit hr.out (Or.inr (Or.inr (Or.inl (by omega))))
                subst e1
                subst e2
                replace hB := Aside0.mk (show Bx (wr.drewN nq) S F at_ most ln ds from hB.out.kept ((Kp.refl (fun _ => True) wr).drewN nq) (fun _ _ _ => trivial))
                replace hKW := Aside0.mk (hKW.out.drewN nq)
                clear k8 k5 k4 k0
                generalize wr.drewN nq = W at hB hKW ⊢
                have hQ8 := hB.out.same8
                have hQ9 := hQ8.same9
                have k8 : W.cell? ⟨S + 1 + 1 + 1, 0, none⟩ = some (.int .i64 ln) := hB.out.b8.cell 0 rfl
                have k9 : W.cell? ⟨S + 1 + 1 + 1 + 1, 0, none⟩ = some (.int .i64 ds) := hB.out.b9.cell 0 rfl
                have f8 : W.frozen? ⟨S + 1 + 1 + 1, 0, none⟩ = false := hB.out.b8.free 0
                have l8 : (W.setCell ⟨S + 1 + 1 + 1, 0, none⟩ (.int .i64 ln)).cell? ⟨S + 1 + 1 + 1, 0, none⟩ = some (.int .i64 ln) := hQ8.b8.cell 0 rfl
                have l9 : (W.setCell ⟨S + 1 + 1 + 1, 0, none⟩ (.int .i64 ln)).cell? ⟨S + 1 + 1 + 1 + 1, 0, none⟩ = some (.int .i64 ds) := hQ8.b9.cell 0 rfl
                have f9 : (W.setCell ⟨S + 1 + 1 + 1, 0, none⟩ (.int .i64 ln)).frozen? ⟨S + 1 + 1 + 1 + 1, 0, none⟩ = false := hQ8.b9.free 0
                have m8 : ((W.setCell ⟨S + 1 + 1 + 1, 0, none⟩ (.int .i64 ln)).setCell ⟨S + 1 + 1 + 1 + 1, 0, none⟩ (.int .i64 ds)).cell? ⟨S + 1 + 1 + 1, 0, none⟩ = some (.int .i64 ln) := hQ9.b8.cell 0 rfl
                have m9 : ((W.setCell ⟨S + 1 + 1 + 1, 0, none⟩ (.int .i64 ln)).setCell ⟨S + 1 + 1 + 1 + 1, 0, none⟩ (.int .i64 ds)).cell? ⟨S + 1 + 1 + 1 + 1, 0, none⟩ = some (.int .i64 ds) := hQ9.b9.cell 0 rfl
                replace hQ8 := Aside0.mk hQ8
                replace hQ9 := Aside0.mk hQ9
                go_wp2
                go_region_held3 (fun X => X.cell? ⟨S + 1 + 1 + 1, 0, none⟩ = some (.int .i64 ln) ∧ X.cell? ⟨S + 1 + 1 + 1 + 1, 0, none⟩ = some (.int .i64 ds)) (first | exact ⟨l8, l9⟩ | exact ⟨m8, m9⟩ | go_keep) (fail)
                all_goals
                  go_wp2
                  (try simp only [Exit.inBlock, Exit.then])
                  refine bodyPost_ret (v := .tuple #[.int .i64 ln, .int .i64 ds]) (results_two rfl _ _ (S + 1 + 1 + 1) (S + 1 + 1 + 1 + 1) _ _ rfl m8 rfl m9) rfl ⟨rfl, ?_⟩
                  exact hpost.out _ (((hKW.out.set (fun h => h.1 rfl) _).set (fun h => h.2 rfl) _).drew)
            · have d2 : decide ((at_ : Int) - pv ≤ window) = false := decide_eq_false c2
              go_quiet (fail)
              obtain ⟨e1, e2⟩ := hP.out.exit hr.out (Or.inr (Or.inl (by have := hpv.out; omega)))
              subst e1
              subst e2
              replace hB := Aside0.mk (show Bx (wr.drewN nq) S F at_ most ln ds from hB.out.kept ((Kp.refl (fun _ => True) wr).drewN nq) (fun _ _ _ => trivial))
              replace hKW := Aside0.mk (hKW.out.drewN nq)
              clear k8 k5 k4 k0
              generalize wr.drewN nq = W at hB hKW ⊢
              have hQ8 := hB.out.same8
              have hQ9 := hQ8.same9
              have k8 : W.cell? ⟨S + 1 + 1 + 1, 0, none⟩ = some (.int .i64 ln) := hB.out.b8.cell 0 rfl
              have k9 : W.cell? ⟨S + 1 + 1 + 1 + 1, 0, none⟩ = some (.int .i64 ds) := hB.out.b9.cell 0 rfl
              have f8 : W.frozen? ⟨S + 1 + 1 + 1, 0, none⟩ = false := hB.out.b8.free 0
              have l8 : (W.setCell ⟨S + 1 + 1 + 1, 0, none⟩ (.int .i64 ln)).cell? ⟨S + 1 + 1 + 1, 0, none⟩ = some (.int .i64 ln) := hQ8.b8.cell 0 rfl
              have l9 : (W.setCell ⟨S + 1 + 1 + 1, 0, none⟩ (.int .i64 ln)).cell? ⟨S + 1 + 1 + 1 + 1, 0, none⟩ = some (.int .i64 ds) := hQ8.b9.cell 0 rfl
              have f9 : (W.setCell ⟨S + 1 + 1 + 1, 0, none⟩ (.int .i64 ln)).frozen? ⟨S + 1 + 1 + 1 + 1, 0, none⟩ = false := hQ8.b9.free 0
              have m8 : ((W.setCell ⟨S + 1 + 1 + 1, 0, none⟩ (.int .i64 ln)).setCell ⟨S + 1 + 1 + 1 + 1, 0, none⟩ (.int .i64 ds)).cell? ⟨S + 1 + 1 + 1, 0, none⟩ = some (.int .i64 ln) := hQ9.b8.cell 0 rfl
              have m9 : ((W.setCell ⟨S + 1 + 1 + 1, 0, none⟩ (.int .i64 ln)).setCell ⟨S + 1 + 1 + 1 + 1, 0, none⟩ (.int .i64 ds)).cell? ⟨S + 1 + 1 + 1 + 1, 0, none⟩ = some (.int .i64 ds) := hQ9.b9.cell 0 rfl
              replace hQ8 := Aside0.mk hQ8
              replace hQ9 := Aside0.mk hQ9
              go_wp2
              go_region_held3 (fun X => X.cell? ⟨S + 1 + 1 + 1, 0, none⟩ = some (.int .i64 ln) ∧ X.cell? ⟨S + 1 + 1 + 1 + 1, 0, none⟩ = some (.int .i64 ds)) (first | exact ⟨l8, l9⟩ | exact ⟨m8, m9⟩ | go_keep) (fail)
              all_goals
                go_wp2
                (try simp only [Exit.inBlock, Exit.then])
                refine bodyPost_ret (v := .tuple #[.int .i64 ln, .int .i64 ds]) (results_two rfl _ _ (S + 1 + 1 + 1) (S + 1 + 1 + 1 + 1) _ _ rfl m8 rfl m9) rfl ⟨rfl, ?_⟩
                exact hpost.out _ (((hKW.out.set (fun h => h.1 rfl) _).set (fun h => h.2 rfl) _).drew)
          · have d1 : decide (0 ≤ pv) = false := decide_eq_false (by have := hpv.out; omega)
            go_quiet (fail)
            obtain ⟨e1, e2⟩ := hP.out.exit hr.out (Or.inl (by have := hpv.out; omega))
            subst e1
            subst e2
            replace hB := Aside0.mk (show Bx (wr.drewN nq) S F at_ most ln ds from hB.out.kept ((Kp.refl (fun _ => True) wr).drewN nq) (fun _ _ _ => trivial))
            replace hKW := Aside0.mk (hKW.out.drewN nq)
            clear k8 k5 k4 k0
            generalize wr.drewN nq = W at hB hKW ⊢
            have hQ8 := hB.out.same8
            have hQ9 := hQ8.same9
            have k8 : W.cell? ⟨S + 1 + 1 + 1, 0, none⟩ = some (.int .i64 ln) := hB.out.b8.cell 0 rfl
            have k9 : W.cell? ⟨S + 1 + 1 + 1 + 1, 0, none⟩ = some (.int .i64 ds) := hB.out.b9.cell 0 rfl
            have f8 : W.frozen? ⟨S + 1 + 1 + 1, 0, none⟩ = false := hB.out.b8.free 0
            have l8 : (W.setCell ⟨S + 1 + 1 + 1, 0, none⟩ (.int .i64 ln)).cell? ⟨S + 1 + 1 + 1, 0, none⟩ = some (.int .i64 ln) := hQ8.b8.cell 0 rfl
            have l9 : (W.setCell ⟨S + 1 + 1 + 1, 0, none⟩ (.int .i64 ln)).cell? ⟨S + 1 + 1 + 1 + 1, 0, none⟩ = some (.int .i64 ds) := hQ8.b9.cell 0 rfl
            have f9 : (W.setCell ⟨S + 1 + 1 + 1, 0, none⟩ (.int .i64 ln)).frozen? ⟨S + 1 + 1 + 1 + 1, 0, none⟩ = false := hQ8.b9.free 0
            have m8 : ((W.setCell ⟨S + 1 + 1 + 1, 0, none⟩ (.int .i64 ln)).setCell ⟨S + 1 + 1 + 1 + 1, 0, none⟩ (.int .i64 ds)).cell? ⟨S + 1 + 1 + 1, 0, none⟩ = some (.int .i64 ln) := hQ9.b8.cell 0 rfl
            have m9 : ((W.setCell ⟨S + 1 + 1 + 1, 0, none⟩ (.int .i64 ln)).setCell ⟨S + 1 + 1 + 1 + 1, 0, none⟩ (.int .i64 ds)).cell? ⟨S + 1 + 1 + 1 + 1, 0, none⟩ = some (.int .i64 ds) := hQ9.b9.cell 0 rfl
            replace hQ8 := Aside0.mk hQ8
            replace hQ9 := Aside0.mk hQ9
            go_wp2
            go_region_held3 (fun X => X.cell? ⟨S + 1 + 1 + 1, 0, none⟩ = some (.int .i64 ln) ∧ X.cell? ⟨S + 1 + 1 + 1 + 1, 0, none⟩ = some (.int .i64 ds)) (first | exact ⟨l8, l9⟩ | exact ⟨m8, m9⟩ | go_keep) (fail)
            all_goals
              go_wp2
              (try simp only [Exit.inBlock, Exit.then])
              refine bodyPost_ret (v := .tuple #[.int .i64 ln, .int .i64 ds]) (results_two rfl _ _ (S + 1 + 1 + 1) (S + 1 + 1 + 1 + 1) _ _ rfl m8 rfl m9) rfl ⟨rfl, ?_⟩
              exact hpost.out _ (((hKW.out.set (fun h => h.1 rfl) _).set (fun h => h.2 rfl) _).drew)
      · have d1 : decide ((1 : Int) < most) = false := decide_eq_false hm
        go_quiet (fail)
        have hB := Aside0.mk (show Bx (wL.drewN nq) S F at_ most 0 0 from hB1.out.kept ((Kp.refl (fun _ => True) wL).drewN nq) (fun _ _ _ => trivial))
        have hKW := Aside0.mk ((Kp.refl (fun j => j ≠ S + 1 + 1 + 1 ∧ j ≠ S + 1 + 1 + 1 + 1) wL).drewN nq)
        clear k0 k4 k5 k7
        generalize wL.drewN nq = W at hB hKW ⊢
        have k8 : W.cell? ⟨S + 1 + 1 + 1, 0, none⟩ = some (.int .i64 0) := hB.out.b8.cell 0 rfl
        have k5 : W.cell? ⟨S + 1, 0, none⟩ = some (.int .i64 (at_ : Int)) := hB.out.b5.cell 0 rfl
        have hw2 : IntKind.i64.wrap ((at_ : Int) - 1) = (at_ : Int) - 1 := IntWalk.i64_in _ (by omega)
        go_wp2_with fail
        go_loopg [13] at_ (fun g v13 wr => ∃ (t : Nat) (ln ds pv : Int), g = at_ - t ∧ v13 = .int .i64 pv ∧ Aside0 (pv = (at_ : Int) - 1 - t) ∧ t ≤ at_ ∧ Aside0 (Bx wr S F at_ most ln ds) ∧ Aside0 (Kp (fun j => j ≠ S + 1 + 1 + 1 ∧ j ≠ S + 1 + 1 + 1 + 1) wL wr) ∧ Aside0 (P2 L most at_ (min at_ window.toNat) r1 r2 t ln ds))
        case atStart => exact ⟨0, 0, 0, (at_ : Int) - 1, by omega, rfl, ⟨by omega⟩, Nat.zero_le _, hB, hKW, ⟨Or.inl ⟨rfl, rfl, rfl, Nat.zero_le _⟩⟩⟩
        case round =>
          clear k8 k5 hB hKW
          obtain ⟨t, ln, ds, pv, hgk, rfl, hpv, hta, hB, hKW, hP⟩ := hrel
          have k8 : wr.cell? ⟨S + 1 + 1 + 1, 0, none⟩ = some (.int .i64 ln) := hB.out.b8.cell 0 rfl
          have k5 : wr.cell? ⟨S + 1, 0, none⟩ = some (.int .i64 (at_ : Int)) := hB.out.b5.cell 0 rfl
          have k4 : wr.cell? ⟨S, 0, none⟩ = some (.pointer (some ⟨F, 0, none⟩)) := hB.out.b4.cell 0 rfl
          have k0 : wr.cell? ⟨F, 0, none⟩ = some (.slice A0 n c0) := (hKW.out.blk hF1.out ⟨by omega, by omega⟩).cell 0 rfl
          have hw3 : IntKind.i64.wrap ((at_ : Int) - pv) = (at_ : Int) - pv := IntWalk.i64_in _ (by have := hpv.out; omega)
          have hw4 : IntKind.i64.wrap (pv - 1) = pv - 1 := IntWalk.i64_in _ (by have := hpv.out; omega)
          go_wp2_with fail
          by_cases c1 : t < at_
          · have d1 : decide (0 ≤ pv) = true := decide_eq_true (by have := hpv.out; omega)
            by_cases c2 : (at_ : Int) - pv ≤ window
            · have d2 : decide ((at_ : Int) - pv ≤ window) = true := decide_eq_true c2
              by_cases c3 : at_ < n
              · have d3 : decide ((at_ : Int) < (n : Int)) = true := decide_eq_true (by omega)
                by_cases c4 : ln = 0
                · have d4 : (ln == 0) = true := by simp [c4]
                  obtain ⟨p, rfl⟩ : ∃ p : Nat, pv = (p : Int) := ⟨at_ - 1 - t, by have := hpv.out; omega⟩
                  go_quiet (fail)
                  obtain ⟨kf, hkf⟩ := hrun.out p (by omega) (by have := hpv.out; omega)
                  replace hB := Aside0.mk (show Bx (wr.drewN nq) S F at_ most ln ds from hB.out.kept ((Kp.refl (fun _ => True) wr).drewN nq) (fun _ _ _ => trivial))
                  replace hKW := Aside0.mk (hKW.out.drewN nq)
                  clear k8 k5 k4 k0
                  generalize wr.drewN nq = W at hB hKW ⊢
                  have hbt := Aside0.mk (better_any kf L A0 n c0 F M u1 S (S + 1) (S + 1 + 1) (S + 1 + 1 + 1) (S + 1 + 1 + 1 + 1) at_ p most _ ln ds W hn hnc hb (C_block hCL.out (fun h0 ad e => hKW.out.block ad.block (hAL.out h0 ad e).1 ⟨by have := (hAL.out h0 ad e).2; omega, by have := (hAL.out h0 ad e).2; omega⟩)) (hKW.out.blk hF1.out ⟨by omega, by omega⟩) hB.out.b4 hB.out.b5 hB.out.b7 hB.out.b8 hB.out.b9 (by omega) (by omega) (by omega) (by omega) (by have := hpv.out; omega) hkf)
                  clear hkf
                  go_wp2_with (first | (go_at_call 15; (with_reducible refine hbt.out.mono ?_); rintro e wB ⟨rfl, hb8, hb9, hkB⟩))
                  go_roundg (gk - 1)
                  case measure => omega
                  case rel => exact ⟨t + 1, _, _, (p : Int) - 1, by omega, rfl, ⟨by have := hpv.out; omega⟩, by omega, ⟨⟨hkB.blk hB.out.b4 ⟨by omega, by omega⟩, hkB.blk hB.out.b5 ⟨by omega, by omega⟩, hkB.blk hB.out.b7 ⟨by omega, by omega⟩, hb8, hb9⟩⟩, ⟨hKW.out.trans hkB⟩, ⟨hP.out.step c4 hr.out hle (by have := hpv.out; omega) hpv.out⟩⟩
                · have d4 : (ln == 0) = false := by simp [c4]
                  go_quiet (fail)
                  obtain ⟨e1, e2⟩ := hP.out.exit hr.out (Or.inr (Or.inr (Or.inr c4)))
                  subst e1
                  subst e2
                  replace hB := Aside0.mk (show Bx (wr.drewN nq) S F at_ most ln ds from hB.out.kept ((Kp.refl (fun _ => True) wr).drewN nq) (fun _ _ _ => trivial))
                  replace hKW := Aside0.mk (hKW.out.drewN nq)
                  clear k8 k5 k4 k0
                  generalize wr.drewN nq = W at hB hKW ⊢
                  have hQ8 := hB.out.same8
                  have hQ9 := hQ8.same9
                  have k8 : W.cell? ⟨S + 1 + 1 + 1, 0, none⟩ = some (.int .i64 ln) := hB.out.b8.cell 0 rfl
                  have k9 : W.cell? ⟨S + 1 + 1 + 1 + 1, 0, none⟩ = some (.int .i64 ds) := hB.out.b9.cell 0 rfl
                  have f8 : W.frozen? ⟨S + 1 + 1 + 1, 0, none⟩ = false := hB.out.b8.free 0
                  have l8 : (W.setCell ⟨S + 1 + 1 + 1, 0, none⟩ (.int .i64 ln)).cell? ⟨S + 1 + 1 + 1, 0, none⟩ = some (.int .i64 ln) := hQ8.b8.cell 0 rfl
                  have l9 : (W.setCell ⟨S + 1 + 1 + 1, 0, none⟩ (.int .i64 ln)).cell? ⟨S + 1 + 1 + 1 + 1, 0, none⟩ = some (.int .i64 ds) := hQ8.b9.cell 0 rfl
                  have f9 : (W.setCell ⟨S + 1 + 1 + 1, 0, none⟩ (.int .i64 ln)).frozen? ⟨S + 1 + 1 + 1 + 1, 0, none⟩ = false := hQ8.b9.free 0
                  have m8 : ((W.setCell ⟨S + 1 + 1 + 1, 0, none⟩ (.int .i64 ln)).setCell ⟨S + 1 + 1 + 1 + 1, 0, none⟩ (.int .i64 ds)).cell? ⟨S + 1 + 1 + 1, 0, none⟩ = some (.int .i64 ln) := hQ9.b8.cell 0 rfl
                  have m9 : ((W.setCell ⟨S + 1 + 1 + 1, 0, none⟩ (.int .i64 ln)).setCell ⟨S + 1 + 1 + 1 + 1, 0, none⟩ (.int .i64 ds)).cell? ⟨S + 1 + 1 + 1 + 1, 0, none⟩ = some (.int .i64 ds) := hQ9.b9.cell 0 rfl
                  replace hQ8 := Aside0.mk hQ8
                  replace hQ9 := Aside0.mk hQ9
                  go_wp2
                  go_region_held3 (fun X => X.cell? ⟨S + 1 + 1 + 1, 0, none⟩ = some (.int .i64 ln) ∧ X.cell? ⟨S + 1 + 1 + 1 + 1, 0, none⟩ = some (.int .i64 ds)) (first | exact ⟨l8, l9⟩ | exact ⟨m8, m9⟩ | go_keep) (fail)
                  all_goals
                    go_wp2
                    (try simp only [Exit.inBlock, Exit.then])
                    refine bodyPost_ret (v := .tuple #[.int .i64 ln, .int .i64 ds]) (results_two rfl _ _ (S + 1 + 1 + 1) (S + 1 + 1 + 1 + 1) _ _ rfl m8 rfl m9) rfl ⟨rfl, ?_⟩
                    exact hpost.out _ (((hKW.out.set (fun h => h.1 rfl) _).set (fun h => h.2 rfl) _).drew)
              · have d3 : decide ((at_ : Int) < (n : Int)) = false := decide_eq_false (by omega)
                go_quiet (fail)
                obtain ⟨e1, e2⟩ := hP.out.exit hr.out (Or.inr (Or.inr (Or.inl (by omega))))
                subst e1
                subst e2
                replace hB := Aside0.mk (show Bx (wr.drewN nq) S F at_ most ln ds from hB.out.kept ((Kp.refl (fun _ => True) wr).drewN nq) (fun _ _ _ => trivial))
                replace hKW := Aside0.mk (hKW.out.drewN nq)
                clear k8 k5 k4 k0
                generalize wr.drewN nq = W at hB hKW ⊢
                have hQ8 := hB.out.same8
                have hQ9 := hQ8.same9
                have k8 : W.cell? ⟨S + 1 + 1 + 1, 0, none⟩ = some (.int .i64 ln) := hB.out.b8.cell 0 rfl
                have k9 : W.cell? ⟨S + 1 + 1 + 1 + 1, 0, none⟩ = some (.int .i64 ds) := hB.out.b9.cell 0 rfl
                have f8 : W.frozen? ⟨S + 1 + 1 + 1, 0, none⟩ = false := hB.out.b8.free 0
                have l8 : (W.setCell ⟨S + 1 + 1 + 1, 0, none⟩ (.int .i64 ln)).cell? ⟨S + 1 + 1 + 1, 0, none⟩ = some (.int .i64 ln) := hQ8.b8.cell 0 rfl
                have l9 : (W.setCell ⟨S + 1 + 1 + 1, 0, none⟩ (.int .i64 ln)).cell? ⟨S + 1 + 1 + 1 + 1, 0, none⟩ = some (.int .i64 ds) := hQ8.b9.cell 0 rfl
                have f9 : (W.setCell ⟨S + 1 + 1 + 1, 0, none⟩ (.int .i64 ln)).frozen? ⟨S + 1 + 1 + 1 + 1, 0, none⟩ = false := hQ8.b9.free 0
                have m8 : ((W.setCell ⟨S + 1 + 1 + 1, 0, none⟩ (.int .i64 ln)).setCell ⟨S + 1 + 1 + 1 + 1, 0, none⟩ (.int .i64 ds)).cell? ⟨S + 1 + 1 + 1, 0, none⟩ = some (.int .i64 ln) := hQ9.b8.cell 0 rfl
                have m9 : ((W.setCell ⟨S + 1 + 1 + 1, 0, none⟩ (.int .i64 ln)).setCell ⟨S + 1 + 1 + 1 + 1, 0, none⟩ (.int .i64 ds)).cell? ⟨S + 1 + 1 + 1 + 1, 0, none⟩ = some (.int .i64 ds) := hQ9.b9.cell 0 rfl
                replace hQ8 := Aside0.mk hQ8
                replace hQ9 := Aside0.mk hQ9
                go_wp2
                go_region_held3 (fun X => X.cell? ⟨S + 1 + 1 + 1, 0, none⟩ = some (.int .i64 ln) ∧ X.cell? ⟨S + 1 + 1 + 1 + 1, 0, none⟩ = some (.int .i64 ds)) (first | exact ⟨l8, l9⟩ | exact ⟨m8, m9⟩ | go_keep) (fail)
                all_goals
                  go_wp2
                  (try simp only [Exit.inBlock, Exit.then])
                  refine bodyPost_ret (v := .tuple #[.int .i64 ln, .int .i64 ds]) (results_two rfl _ _ (S + 1 + 1 + 1) (S + 1 + 1 + 1 + 1) _ _ rfl m8 rfl m9) rfl ⟨rfl, ?_⟩
                  exact hpost.out _ (((hKW.out.set (fun h => h.1 rfl) _).set (fun h => h.2 rfl) _).drew)
            · have d2 : decide ((at_ : Int) - pv ≤ window) = false := decide_eq_false c2
              go_quiet (fail)
              obtain ⟨e1, e2⟩ := hP.out.exit hr.out (Or.inr (Or.inl (by have := hpv.out; omega)))
              subst e1
              subst e2
              replace hB := Aside0.mk (show Bx (wr.drewN nq) S F at_ most ln ds from hB.out.kept ((Kp.refl (fun _ => True) wr).drewN nq) (fun _ _ _ => trivial))
              replace hKW := Aside0.mk (hKW.out.drewN nq)
              clear k8 k5 k4 k0
              generalize wr.drewN nq = W at hB hKW ⊢
              have hQ8 := hB.out.same8
              have hQ9 := hQ8.same9
              have k8 : W.cell? ⟨S + 1 + 1 + 1, 0, none⟩ = some (.int .i64 ln) := hB.out.b8.cell 0 rfl
              have k9 : W.cell? ⟨S + 1 + 1 + 1 + 1, 0, none⟩ = some (.int .i64 ds) := hB.out.b9.cell 0 rfl
              have f8 : W.frozen? ⟨S + 1 + 1 + 1, 0, none⟩ = false := hB.out.b8.free 0
              have l8 : (W.setCell ⟨S + 1 + 1 + 1, 0, none⟩ (.int .i64 ln)).cell? ⟨S + 1 + 1 + 1, 0, none⟩ = some (.int .i64 ln) := hQ8.b8.cell 0 rfl
              have l9 : (W.setCell ⟨S + 1 + 1 + 1, 0, none⟩ (.int .i64 ln)).cell? ⟨S + 1 + 1 + 1 + 1, 0, none⟩ = some (.int .i64 ds) := hQ8.b9.cell 0 rfl
              have f9 : (W.setCell ⟨S + 1 + 1 + 1, 0, none⟩ (.int .i64 ln)).frozen? ⟨S + 1 + 1 + 1 + 1, 0, none⟩ = false := hQ8.b9.free 0
              have m8 : ((W.setCell ⟨S + 1 + 1 + 1, 0, none⟩ (.int .i64 ln)).setCell ⟨S + 1 + 1 + 1 + 1, 0, none⟩ (.int .i64 ds)).cell? ⟨S + 1 + 1 + 1, 0, none⟩ = some (.int .i64 ln) := hQ9.b8.cell 0 rfl
              have m9 : ((W.setCell ⟨S + 1 + 1 + 1, 0, none⟩ (.int .i64 ln)).setCell ⟨S + 1 + 1 + 1 + 1, 0, none⟩ (.int .i64 ds)).cell? ⟨S + 1 + 1 + 1 + 1, 0, none⟩ = some (.int .i64 ds) := hQ9.b9.cell 0 rfl
              replace hQ8 := Aside0.mk hQ8
              replace hQ9 := Aside0.mk hQ9
              go_wp2
              go_region_held3 (fun X => X.cell? ⟨S + 1 + 1 + 1, 0, none⟩ = some (.int .i64 ln) ∧ X.cell? ⟨S + 1 + 1 + 1 + 1, 0, none⟩ = some (.int .i64 ds)) (first | exact ⟨l8, l9⟩ | exact ⟨m8, m9⟩ | go_keep) (fail)
              all_goals
                go_wp2
                (try simp only [Exit.inBlock, Exit.then])
                refine bodyPost_ret (v := .tuple #[.int .i64 ln, .int .i64 ds]) (results_two rfl _ _ (S + 1 + 1 + 1) (S + 1 + 1 + 1 + 1) _ _ rfl m8 rfl m9) rfl ⟨rfl, ?_⟩
                exact hpost.out _ (((hKW.out.set (fun h => h.1 rfl) _).set (fun h => h.2 rfl) _).drew)
          · have d1 : decide (0 ≤ pv) = false := decide_eq_false (by have := hpv.out; omega)
            go_quiet (fail)
            obtain ⟨e1, e2⟩ := hP.out.exit hr.out (Or.inl (by have := hpv.out; omega))
            subst e1
            subst e2
            replace hB := Aside0.mk (show Bx (wr.drewN nq) S F at_ most ln ds from hB.out.kept ((Kp.refl (fun _ => True) wr).drewN nq) (fun _ _ _ => trivial))
            replace hKW := Aside0.mk (hKW.out.drewN nq)
            clear k8 k5 k4 k0
            generalize wr.drewN nq = W at hB hKW ⊢
            have hQ8 := hB.out.same8
            have hQ9 := hQ8.same9
            have k8 : W.cell? ⟨S + 1 + 1 + 1, 0, none⟩ = some (.int .i64 ln) := hB.out.b8.cell 0 rfl
            have k9 : W.cell? ⟨S + 1 + 1 + 1 + 1, 0, none⟩ = some (.int .i64 ds) := hB.out.b9.cell 0 rfl
            have f8 : W.frozen? ⟨S + 1 + 1 + 1, 0, none⟩ = false := hB.out.b8.free 0
            have l8 : (W.setCell ⟨S + 1 + 1 + 1, 0, none⟩ (.int .i64 ln)).cell? ⟨S + 1 + 1 + 1, 0, none⟩ = some (.int .i64 ln) := hQ8.b8.cell 0 rfl
            have l9 : (W.setCell ⟨S + 1 + 1 + 1, 0, none⟩ (.int .i64 ln)).cell? ⟨S + 1 + 1 + 1 + 1, 0, none⟩ = some (.int .i64 ds) := hQ8.b9.cell 0 rfl
            have f9 : (W.setCell ⟨S + 1 + 1 + 1, 0, none⟩ (.int .i64 ln)).frozen? ⟨S + 1 + 1 + 1 + 1, 0, none⟩ = false := hQ8.b9.free 0
            have m8 : ((W.setCell ⟨S + 1 + 1 + 1, 0, none⟩ (.int .i64 ln)).setCell ⟨S + 1 + 1 + 1 + 1, 0, none⟩ (.int .i64 ds)).cell? ⟨S + 1 + 1 + 1, 0, none⟩ = some (.int .i64 ln) := hQ9.b8.cell 0 rfl
            have m9 : ((W.setCell ⟨S + 1 + 1 + 1, 0, none⟩ (.int .i64 ln)).setCell ⟨S + 1 + 1 + 1 + 1, 0, none⟩ (.int .i64 ds)).cell? ⟨S + 1 + 1 + 1 + 1, 0, none⟩ = some (.int .i64 ds) := hQ9.b9.cell 0 rfl
            replace hQ8 := Aside0.mk hQ8
            replace hQ9 := Aside0.mk hQ9
            go_wp2
            go_region_held3 (fun X => X.cell? ⟨S + 1 + 1 + 1, 0, none⟩ = some (.int .i64 ln) ∧ X.cell? ⟨S + 1 + 1 + 1 + 1, 0, none⟩ = some (.int .i64 ds)) (first | exact ⟨l8, l9⟩ | exact ⟨m8, m9⟩ | go_keep) (fail)
            all_goals
              go_wp2
              (try simp only [Exit.inBlock, Exit.then])
              refine bodyPost_ret (v := .tuple #[.int .i64 ln, .int .i64 ds]) (results_two rfl _ _ (S + 1 + 1 + 1) (S + 1 + 1 + 1 + 1) _ _ rfl m8 rfl m9) rfl ⟨rfl, ?_⟩
              exact hpost.out _ (((hKW.out.set (fun h => h.1 rfl) _).set (fun h => h.2 rfl) _).drew)

end Go.Proofs.Ytfefbelglohfdaa
