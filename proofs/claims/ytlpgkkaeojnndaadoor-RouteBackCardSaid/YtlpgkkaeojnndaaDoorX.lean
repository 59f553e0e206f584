/-
  A range over a function whose iterator keeps a state of its own in one block: the contract, and the law for the loop that runs it.
-/
import Derived.RangeFuncKeeps
import Derived.RangeFuncLeaves
import Derived.Below
namespace Go.Proofs.YtlpgkkaeojnndaaDoor
open Go.RowKit
section
variable {F : Fence} {n : Nat} {P : Program}

/-- Nothing that lies below m has turned, but for block B. -/
structure KeptBut (m B : Nat) (W W' : World) : Prop where
  os : W'.os = W.os
  tape : W'.tape = W.tape
  output : W'.output = W.output
  size : W.heap.size ≤ W'.heap.size
  block : ∀ b, b < m → b ≠ B → W'.heap[b]? = W.heap[b]?
theorem KeptBut.put {m B l : Nat} (hl : m ≤ l) (W : World) (o : Obj) : KeptBut m B W (W.putObj l o) := ⟨rfl, rfl, rfl, by simp, fun b hb _ => World.putObj_heap_other (by omega)⟩
theorem KeptBut.set {m B : Nat} (W : World) (v : Value) : KeptBut m B W (W.setCell ⟨B, 0, none⟩ v) := ⟨rfl, rfl, rfl, (KeepsWalks.setCell W _ v).size, fun b _ hne => Below.heap_setCell W _ v b hne⟩
theorem KeptBut.below {m B k : Nat} {w W W' : World} (h : KeptBut m B W W') (hb : Below k w W) (hk : k ≤ m) (hB : k ≤ B) : Below k w W' :=
  ⟨h.os.trans hb.os, h.tape.trans hb.tape, h.output.trans hb.output, Nat.le_trans hb.size h.size, fun i hi => (h.block i (by omega) (by omega)).trans (hb.block i hi)⟩

/-- The iterator's contract: block B is its own, the blocks from lo to up are left alone by each round. -/
def SeqBox {α : Type} (F : Fence) (n : Nat) (P : Program) (g : Nat) (lb : Array Value) (encs : α → Array Value) (B lo up : Nat) (S Sp : List α → Prop) (N : Nat) (w : World) : Prop :=
  ∀ (l : Nat) (J Jx : List α → World → Prop) (W : World), Below w.heap.size w W →
    (∀ pre W1 v, J pre W1 → J pre (W1.setCell ⟨B, 0, none⟩ v)) →
    (∀ pre x W1, J pre W1 → pre.length < N → YieldAt F (n - 1) P l (encs x) W1 fun e W' =>
      (e = .returned (.bool true) ∧ J (pre ++ [x]) W' ∧ ∀ b, lo ≤ b → b < up → W'.heap[b]? = W1.heap[b]?) ∨ (e = .returned (.bool false) ∧ Jx (pre ++ [x]) W')) →
    J [] W →
    CallsIn F n P g (#[.func (.yield l) #[] #[]] ++ lb) W fun e W' => (∃ v, e = .returned v) ∧ ((∃ xs, S xs ∧ J xs W') ∨ (∃ pre, Sp pre ∧ Jx pre W'))

/-- The loop over such an iterator. -/
theorem wpIn_range_box {α : Type} {g : Operand} {ps : Array Tmp} {assign body : Code} {Q : Exit → Act → World → Prop} {a : Act} {w : World}
    (hro : F.round = none) (h1 : 1 ≤ n) {gf : Nat} {lb : Array Value} (hg : a.eval g = .func (.func gf) #[] lb) (hFg : F.fn gf) (eg : ∀ args w, (callFunc gf args).run P w = .ok (.enter gf args) w)
    {encs : α → Array Value} {B lo up : Nat} {S Sp : List α → Prop} {N : Nat} (hseq : SeqBox F (n - 1) P gf lb encs B lo up S Sp N w) (hB : B < w.heap.size) (hhi : up ≤ w.heap.size)
    (hps : ∀ x, (encs x).size = ps.size) (I : List α → World → Prop) (Ix : Code → List α → World → Prop)
    (hI : ∀ pre W W', I pre W → KeptBut w.heap.size B W W' → I pre W') (hIx : ∀ c pre W W', Ix c pre W → KeptBut w.heap.size B W W' → Ix c pre W') (h0 : I [] w) (a₁ : α → Act)
    (hassign : ∀ (l : Nat) (x : α) (W : World) (K : Act → World → Prop), K (a₁ x) W →
      assign.wpIn (F.inRound l) (n - 1 - 1) P (Exit.then K (fun _ _ _ => False)) { tmps := (ps.zip (encs x)).foldl (fun t (p, v) => t.setIfInBounds p v) a.tmps, defers := [] } W)
    (hbody : ∀ (l : Nat) (pre : List α) (x : α) (W : World), I pre W → pre.length < N →
      body.wpIn (F.inRound l) (n - 1 - 1) P (ownPostK (fun W W' => ∀ b, lo ≤ b → b < up → W'.heap[b]? = W.heap[b]?) I Ix (pre ++ [x]) W) (a₁ x) W)
    (hdone : ∀ (D : Nat) (xs : List α) (W : World), w.heap.size ≤ D → S xs → I xs W → W.heap[D]? = some (.deferred (some [])) → Q .normal { a with defers := { target := .collected D, args := #[] } :: a.defers } W)
    (hstop : ∀ (D : Nat) (c : Code) (pre : List α) (W : World), w.heap.size ≤ D → Sp pre → Ix c pre W → W.heap[D]? = some (.deferred (some [])) → c.wpIn F n P Q { a with defers := { target := .collected D, args := #[] } :: a.defers } W) :
    (Code.rangeFunc g ps assign body).wpIn F n P Q a w := by
  obtain ⟨H, hH⟩ : ∃ H, w.heap.size = H := ⟨_, rfl⟩
  refine wpIn_rangeFunc fun fn hfn => ?_
  rw [hro]
  let rcd : LoopState → Option Code → Loop := fun st pe => { state := st, pending := pe, fn := fn, tmps := a.tmps, params := ps, assign := assign, body := body, defers := w.heap.size }
  let W1 : World := (w.alloc (.deferred (some []))).alloc (.loop (rcd .ready none))
  have s1 : W1.heap.size = H + 1 + 1 := by simp [W1, hH]
  have r1 : W1.heap[H + 1]? = some (.loop (rcd .ready none)) := by
    have := World.alloc_heap_new (w.alloc (.deferred (some []))) (.loop (rcd .ready none))
    rwa [World.size_alloc, hH] at this
  have q1 : W1.heap[H]? = some (.deferred (some [])) := by
    have e := World.alloc_heap_new w (.deferred (some []))
    rw [hH] at e
    exact (Below.heap_alloc _ _ _ (by simp [hH])).trans e
  have b1 : Below w.heap.size w W1 := ((Below.refl _ w).alloc (Nat.le_refl _) _).alloc (by simp) _
  have k1 : KeptBut w.heap.size B w W1 := ⟨b1.os, b1.tape, b1.output, b1.size, fun b hb _ => b1.block b hb⟩
  refine ⟨H + 1, [{ target := .collected H, args := #[] }], W1, { target := .fn (.func gf) lb, args := #[.func (.yield (H + 1)) #[] #[]] }, W1, gf, #[.func (.yield (H + 1)) #[] #[]] ++ lb, W1, ?_, ?_, ?_, ?_, fun _ => h1, ?_⟩
  · have := run_enterLoop_outer (P := P) (w := w) fn a.tmps ps assign body
    rw [hH] at this
    rw [this]
    simp only [W1, rcd, hH]
  · simp only [resolve, hg]
    simp [go_sem]
  · intro f' hf'
    simp [Target.leads] at hf'
    subst hf'
    exact hFg
  · simp [invoke, go_sem, eg]
  -- what is kept between two rounds: the caller's own word, the loop's record, the block for deferred calls
  have far : ∀ {W : World} (v : Value) {k : Nat} {o : Obj}, W.heap[k]? = some o → k ≠ B → (W.setCell ⟨B, 0, none⟩ v).heap[k]? = some o := fun v k o hk hne => (Below.heap_setCell _ _ _ _ hne).trans hk
  refine (hseq (H + 1) (fun pre W => I pre W ∧ W.heap[H + 1]? = some (.loop (rcd .ready none)) ∧ W.heap[H]? = some (.deferred (some [])))
    (fun pre W => ∃ c, Ix c pre W ∧ W.heap[H + 1]? = some (.loop (rcd .done (some c))) ∧ W.heap[H]? = some (.deferred (some []))) W1 b1
    (fun pre W v hs => ⟨hI _ _ _ hs.1 (KeptBut.set W v), far v hs.2.1 (by omega), far v hs.2.2 (by omega)⟩) ?_ ⟨hI _ _ _ h0 k1, r1, q1⟩).mono ?_
  · rintro pre x W ⟨hi, hl, hk⟩ hlen
    have hlt : H + 1 < W.heap.size := (Array.getElem?_eq_some_iff.1 hl).1
    obtain ⟨W2, hW2⟩ : ∃ W2, W.putObj (H + 1) (.loop { rcd .ready none with state := .busy }) = W2 := ⟨_, rfl⟩
    have hl2 : W2.heap[H + 1]? = some (.loop { rcd .ready none with state := .busy }) := by rw [← hW2]; exact World.putObj_heap_same hlt
    have hk2 : W2.heap[H]? = some (.deferred (some [])) := by rw [← hW2]; exact (World.putObj_heap_other (by omega)).trans hk
    have hi2 : I pre W2 := by rw [← hW2]; exact hI _ _ _ hi (KeptBut.put (by omega) _ _)
    have hp2 : ∀ b, lo ≤ b → b < up → W2.heap[b]? = W.heap[b]? := fun b _ hb => by rw [← hW2]; exact World.putObj_heap_other (by omega)
    refine ⟨fn, _, assign, body, run_yield (P := P) (args := encs x) hl (hps x), roundIn_of_wpIn hfn (hassign _ x W _ ⟨W2, by rw [← hW2]; exact run_beginRound hl rfl, ?_⟩)⟩
    refine wpIn_mono (hbody _ pre x W2 hi2 hlen) ?_
    have fin : ∀ (jump : Option Code) (W3 : World), KeepsOthers W2 W3 →
        ∃ W4, (Instr.endRound (H + 1) jump).run P W3 = .ok (.bool jump.isNone) W4 ∧ KeptBut w.heap.size B W3 W4 ∧ (∀ b, lo ≤ b → b < up → W4.heap[b]? = W3.heap[b]?) ∧
          W4.heap[H + 1]? = some (.loop (rcd (if jump.isNone then .ready else .done) jump)) ∧ W4.heap[H]? = some (.deferred (some [])) := fun jump W3 hk3 => by
      have hl3 := hk3.same _ _ hl2 rfl
      exact ⟨_, run_endRound (P := P) jump hl3, KeptBut.put (by omega) _ _, fun b _ hb => World.putObj_heap_other (by omega), World.putObj_heap_same (Array.getElem?_eq_some_iff.1 hl3).1, (World.putObj_heap_other (by omega)).trans (hk3.same _ _ hk2 rfl)⟩
    rintro e a3 W3 hp
    cases e with
    | normal =>
      obtain ⟨hk3, hkp3, hi3⟩ := hp
      obtain ⟨W4, hr, hb4, hc4, hl4, hq4⟩ := fin none W3 hk3
      exact ⟨_, W4, hr, .inl ⟨rfl, ⟨hI _ _ _ hi3 hb4, hl4, hq4⟩, fun b hb1 hb2 => ((hc4 b hb1 hb2).trans (hkp3 b hb1 hb2)).trans (hp2 b hb1 hb2)⟩⟩
    | ret =>
      obtain ⟨hk3, hi3⟩ := hp
      obtain ⟨W4, hr, hb4, _, hl4, hq4⟩ := fin (some .ret) W3 hk3
      exact ⟨_, W4, hr, .inr ⟨rfl, .ret, hIx _ _ _ _ hi3 hb4, hl4, hq4⟩⟩
    | exit id =>
      obtain ⟨hk3, hi3⟩ := hp
      obtain ⟨W4, hr, hb4, _, hl4, hq4⟩ := fin (some (.exit id)) W3 hk3
      exact ⟨_, W4, hr, .inr ⟨rfl, .exit id, hIx _ _ _ _ hi3 hb4, hl4, hq4⟩⟩
    | goto t =>
      obtain ⟨hk3, hi3⟩ := hp
      obtain ⟨W4, hr, hb4, _, hl4, hq4⟩ := fin (some (.goto t)) W3 hk3
      exact ⟨_, W4, hr, .inr ⟨rfl, .goto t, hIx _ _ _ _ hi3 hb4, hl4, hq4⟩⟩
    | panic ch => exact hp.elim
    | outgrown => exact hp.elim
  · rintro e W2 ⟨⟨v, rfl⟩, (⟨xs, hS, hi, hl, hk⟩ | ⟨pre, hSp, c, hi, hl, hk⟩)⟩
    · exact ⟨none, _, run_endLoop (P := P) hl (by simp [rcd]), hdone H xs _ (by omega) hS (hI _ _ _ hi (KeptBut.put (by omega) _ _)) ((World.putObj_heap_other (by omega)).trans hk)⟩
    · exact ⟨some c, _, run_endLoop (P := P) hl (by simp [rcd]), hstop H c pre _ (by omega) hSp (hIx _ _ _ _ hi (KeptBut.put (by omega) _ _)) ((World.putObj_heap_other (by omega)).trans hk)⟩
end

end Go.Proofs.YtlpgkkaeojnndaaDoor
