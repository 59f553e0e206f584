/-
  ChartWalks: the law's body.
-/
import Derived.Test.YtafdbibjcohdbaaF
import Derived.LoopNIn
import Derived.Lib.Hide
import Derived.RangeFuncFrom
import Derived.Shelf.Abstract
namespace Go.Proofs.Ytafdbibjcohdbaa
open Go.RowKit

attribute [local go_sem] Oper.semAt_some

theorem cell_of_box_l {W : World} {B : Nat} {v : Value} {t : TypeId} (h : W.heap[B]? = some (.cells #[v] t (0, 0))) : W.cell? ⟨B, 0, none⟩ = some v ∧ W.frozen? ⟨B, 0, none⟩ = false := by
  constructor <;> simp [World.cell?, World.frozen?, h]
theorem cell_new_l (W : World) (v : Value) (t : TypeId) : (W.alloc (.cells #[v] t)).cell? ⟨W.heap.size, 0, none⟩ = some v ∧ (W.alloc (.cells #[v] t)).frozen? ⟨W.heap.size, 0, none⟩ = false :=
  cell_of_box_l (World.alloc_heap_new W _)
theorem cell_alloc_l {W : World} {a : Addr} {v : Value} (o : Obj) (h : W.cell? a = some v) : (W.alloc o).cell? a = some v := cell_kept h (World.grownBy_alloc W o none) (fun r e => by cases e)
theorem frozen_alloc_l {W : World} {a : Addr} {v : Value} (o : Obj) (h : W.cell? a = some v) (hf : W.frozen? a = false) : (W.alloc o).frozen? a = false := (frozen_kept h (World.grownBy_alloc W o none) (fun r e => by cases e)).trans hf

theorem cell_set_l {W : World} {b b' : Nat} {v u : Value} (h : W.cell? ⟨b, 0, none⟩ = some v) (hne : b' ≠ b) : (W.setCell ⟨b', 0, none⟩ u).cell? ⟨b, 0, none⟩ = some v :=
  (World.cell?_of_block (Below.heap_setCell W ⟨b', 0, none⟩ u b hne.symm)).trans h

theorem leave_l {w V : World} {B D E : Nat} {tmps : Array Value} (hB : w.heap.size ≤ B) (hDw : w.heap.size ≤ D) (hEw : w.heap.size ≤ E) (hV : Below w.heap.size w V) (hDE : D ≠ E) (hE : V.heap[E]? = some (.deferred (some []))) (hD : V.heap[D]? = some (.deferred (some [])))
    (hc : V.cell? ⟨B, 0, none⟩ = some (.bool false)) (ht : tmps[4]? = some (.pointer (some ⟨B, 0, none⟩)) := by rfl) :
    bodyPostM Fence.wide 10 Try.prog Try.f3 (fun e w' => e = .returned (.bool true) ∧ Below w.heap.size w w') .ret
      { tmps := tmps, defers := [{ target := .collected E, args := #[] }, { target := .collected D, args := #[] }] } (V.setCell ⟨B, 0, none⟩ (.bool true)) := by
  have hE' := (KeepsOthers.setCell V ⟨B, 0, none⟩ (.bool true)).same E _ hE rfl
  have hD' := (KeepsOthers.setCell V ⟨B, 0, none⟩ (.bool true)).same D _ hD rfl
  have hD2 : ((V.setCell ⟨B, 0, none⟩ (.bool true)).putObj E (.deferred none)).heap[D]? = some (.deferred (some [])) :=
    ((grownBy_putObj' _ E (.deferred none)).block D (Array.getElem?_eq_some_iff.1 hD').1 (fun e => by cases e; exact hDE rfl)).trans hD'
  have c1 := World.cell?_setCell_same' V ⟨B, 0, none⟩ (.bool true) (by rw [hc]; rfl)
  have c2 := cell_kept c1 (grownBy_putObj' _ E (.deferred none)) (fun r e => by cases e; exact ⟨_, hE', rfl⟩)
  have c3 := cell_kept c2 (grownBy_putObj' _ D (.deferred none)) (fun r e => by cases e; exact ⟨_, hD2, rfl⟩)
  refine ⟨by simp, .inl ⟨_, _, rfl, run_takeDeferred hE', ?_⟩⟩
  refine ⟨by simp, .inl ⟨_, _, rfl, run_takeDeferred hD2, ?_⟩⟩
  refine ⟨.bool true, ?_, rfl, ?_⟩
  · simp [results, Try.f3, go_sem, ht, c3]
  · exact ((hV.setCell (p := ⟨B, 0, none⟩) hB _).trans (belowK_b (w := w) (Nat.le_refl _) _ E _ _ hEw hE' rfl rfl)).trans (belowK_b (w := w) (Nat.le_refl _) _ D _ _ hDw hD2 rfl rfl)

theorem ownFrom_obj {β : Type} {B D : Nat} (hD : D < B) (o : Obj) : OwnFrom B (fun (_ : β) W => W.heap[D]? = some o) := fun _ _ _ _ hs hg hr =>
  (hg.block D (Array.getElem?_eq_some_iff.1 hs).1 (fun e => by have := (hr D e.symm).1; omega)).trans hs

set_option maxRecDepth 100000 in
set_option maxHeartbeats 4000000 in
theorem law_walks (N S : Int) (w : World) :
    CallsIn Fence.wide 10 Try.prog 3 #[.int .i64 N, .int .i64 S] w fun e w' => e = .returned (.bool true) ∧ Below w.heap.size w w' := by
  refine callsIn_of_wp_marks Try.func3 rfl trivial ?_ rfl
  simp only [Try.ntmps3, List.size_toArray, List.length_cons, List.length_nil, Nat.reduceAdd, Nat.reduceSub, Array.replicate_succ, Array.replicate_zero, List.push_toArray, List.append_toArray, List.nil_append, List.cons_append]
  gi_wp2_with (first
    | (gi_at_call 9; refine callsIn_wide.2 ((walk_any _ _).mono ?_); rintro e w' ⟨rfl, rfl⟩)
    | (rw [show ∀ (a : Array Value) W, (binOp BinOp.eql 23 (Value.func (Fn.func 20) #[] a) Value.nilFunc).run Try.prog W = .ok (.bool false) W from fun a W => by kernel_rfl]))
  obtain ⟨T, hT⟩ : ∃ T, (wrap64 (S.tmod 3000 + 3000)).tmod 3000 = T := ⟨_, rfl⟩
  have r1 : -3000 < S.tmod 3000 := Int.lt_tmod_of_pos S (by decide)
  have r2 : S.tmod 3000 < 3000 := Int.tmod_lt_of_pos S (by decide)
  have r3 : 0 ≤ wrap64 (S.tmod 3000 + 3000) := by unfold wrap64; omega
  have hT0 : 0 ≤ T := by rw [← hT]; exact Int.tmod_nonneg 3000 r3
  have hT1 : T < 3000 := by rw [← hT]; exact Int.tmod_lt_of_pos _ (by decide)
  clear r1 r2 r3
  rw [hT]
  clear hT
  refine wpIn_loop_rounds 3 ?_
  rw [roundsIn_succ]
  gi_wp2
  refine wpIn_rangeFunc_ownF rfl (by omega) (gf := 20) (lb := #[.pointer (some ⟨w.heap.size + 1 + 1, 0, none⟩)]) rfl trivial (enters_of Try.func20 (by kernel_rfl) rfl) ((seqStopsA_iff ..).1 (walk_stops N (w.heap.size + 1 + 1) 9 _ ?hB ?hc)) walksK_t walksK_b (Below.refl _ _) (fun _ => rfl)
    (fun pre W => (pre = places pre.length ∧ (pre.length : Int) ≤ T ∧ W.cell? ⟨w.heap.size + 1 + 1 + 1, 0, none⟩ = some (.int .i64 (pre.length : Int)) ∧ W.frozen? ⟨w.heap.size + 1 + 1 + 1, 0, none⟩ = false ∧
      W.cell? ⟨w.heap.size, 0, none⟩ = some (.int .i64 T) ∧ W.cell? ⟨w.heap.size + 1, 0, none⟩ = some (.bool false) ∧ W.frozen? ⟨w.heap.size + 1, 0, none⟩ = false ∧ W.cell? ⟨w.heap.size + 1 + 1, 0, none⟩ = some (.int .i64 N)) ∧ Below w.heap.size w W)
    (fun c pre W => ((c = .ret ∧ pre ≠ places pre.length) ∨ (c = .exit 2 ∧ (pre.length : Int) = T + 1 ∧ W.cell? ⟨w.heap.size + 1 + 1 + 1, 0, none⟩ = some (.int .i64 T) ∧
      W.cell? ⟨w.heap.size, 0, none⟩ = some (.int .i64 T) ∧ W.cell? ⟨w.heap.size + 1, 0, none⟩ = some (.bool false) ∧ W.frozen? ⟨w.heap.size + 1, 0, none⟩ = false ∧ W.cell? ⟨w.heap.size + 1 + 1, 0, none⟩ = some (.int .i64 N))) ∧ Below w.heap.size w W)
    ?hI ?hIx ?h0 ?a1 ?assign ?body ?done ?stop
  case assign =>
    intro l x W K hK
    gi_wp2
    exact hK
  case hB => simp
  case hc => first | go_simp | (simp [go_sem]) | (trace_state; sorry)
  case h0 => exact ⟨by refine ⟨rfl, by simpa using hT0, ?_, ?_, ?_, ?_, ?_, ?_⟩ <;> go_simp, ((((Below.refl _ _).alloc (Nat.le_refl _) _).alloc (by simp) _).alloc (by simp; omega) _).alloc (by simp; omega) _⟩
  case hI =>
    refine OwnFrom.and (Own.from ?_ _) (ownFrom_below (Nat.le_refl _) (by simp; omega))
    intro s A B row hs hg hr
    obtain ⟨h1, h2, h3, h4, h5, h6, h7, h8⟩ := hs
    exact ⟨h1, h2, cell_kept h3 hg hr, (frozen_kept h3 hg hr).trans h4, cell_kept h5 hg hr, cell_kept h6 hg hr, (frozen_kept h6 hg hr).trans h7, cell_kept h8 hg hr⟩
  case hIx =>
    intro c
    refine OwnFrom.and (Own.from ?_ _) (ownFrom_below (Nat.le_refl _) (by simp; omega))
    intro s A B row hs hg hr
    rcases hs with h | ⟨h1, h2, h3, h5, h6, h7, h8⟩
    · exact .inl h
    · exact .inr ⟨h1, h2, cell_kept h3 hg hr, cell_kept h5 hg hr, cell_kept h6 hg hr, (frozen_kept h6 hg hr).trans h7, cell_kept h8 hg hr⟩
  case body =>
    rintro l pre x W ⟨⟨h1, h2, h3, h4, h5, h6, h7, h8⟩, hbel⟩ hlen
    obtain ⟨k, hk⟩ : ∃ k, k = pre.length := ⟨_, rfl⟩
    rw [← hk] at h1 h2 h3 hlen
    have h1' : Hid (pre = places k) := h1
    have hk' : Hid (k = pre.length) := hk
    have hsp : (k : Int) ≤ 3000 := by omega
    have hr := fun W => callsIn_round (l := l) (n := 7) (rspot_any k (by omega) W)
    have hln : Hid (k < cnt N) := hlen
    clear h1 hk hlen
    gi_wp2_with (gi_at_call 10; refine (hr _).mono ?_; rintro e w' ⟨rfl, rfl⟩)
    · rename_i hx
      have e : (k : Int) = T := by simpa using hx
      exact ⟨KeepsOthers.refl _, .inr ⟨rfl, by simp [← hk'.out, e], by rw [← e]; exact h3, h5, h6, h7, h8⟩, hbel⟩
    · rename_i hx hy
      refine ⟨KeepsOthers.setCell _ _ _, .inl ⟨rfl, ?_⟩, hbel.setCell (p := ⟨_, 0, none⟩) (by first | (simp; done) | (simp; omega)) _⟩
      intro hp
      rw [List.length_append, ← hk'.out, List.length_singleton, places_succ, h1'.out] at hp
      have := List.append_cancel_left hp
      simp at this
      simp [this] at hy
    · rename_i hnT hx hy
      have hxs : x = spot k := by
        obtain ⟨x1, x2⟩ := x
        have : x2 = (spot k).2 := by simpa using hy
        exact Prod.ext hx this
      have hkT : ¬ (k : Int) = T := by simpa using hnT
      refine ⟨KeepsOthers.setCell _ _ _, (KeepsOthers.setCell _ _ _).walks, ⟨?_, ?_, ?_, ?_, cell_set_l h5 (by omega), cell_set_l h6 (by omega), ?_, cell_set_l h8 (by omega)⟩, hbel.setCell (p := ⟨_, 0, none⟩) (by first | (simp; done) | (simp; omega)) _⟩
      · rw [List.length_append, ← hk'.out, List.length_singleton, places_succ, h1'.out, hxs]
      · rw [List.length_append, ← hk'.out, List.length_singleton]; omega
      · rw [List.length_append, ← hk'.out, List.length_singleton]
        exact World.cell?_setCell_same' _ _ _ (by rw [h3]; rfl)
      · rw [World.frozen?_setCell]; exact h4
      · rw [World.frozen?_setCell]; exact h7
    · rename_i hx
      refine ⟨KeepsOthers.setCell _ _ _, .inl ⟨rfl, ?_⟩, hbel.setCell (p := ⟨_, 0, none⟩) (by first | (simp; done) | (simp; omega)) _⟩
      intro hp
      rw [List.length_append, ← hk'.out, List.length_singleton, places_succ, h1'.out] at hp
      have := List.append_cancel_left hp
      simp at this
      exact hx (by rw [this])
  case' done =>
    rintro D xs W hDw rfl ⟨⟨_, h2, h3, h4, h5, h6, h7, h8⟩, hbel⟩ hK
    rw [places_length] at h2 h3
    obtain ⟨K, hKe⟩ : ∃ K : Int, (cnt N : Int) = K := ⟨_, rfl⟩
    obtain ⟨m, hm0⟩ : ∃ m : Int, (if T < N then T else N) = m := ⟨_, rfl⟩
    have hm1 : (if 0 < m then m else 0) = K := by
      unfold cnt at h2 hKe
      rw [← hm0]
      split <;> split <;> omega
    rw [hKe] at h2 h3
    clear hKe h2 h4
    gi_wp2
    clear h3
  case' stop =>
    rintro D c pre W hDw ⟨kk, hk1, hk2⟩ ⟨hIx, hbel⟩ hK
    rcases hIx with ⟨_, hh⟩ | ⟨rfl, h2, h3, h5, h6, h7, h8⟩
    · exact absurd (by rw [hk2, places_length]) hh
    have hlen : kk = pre.length := by rw [hk2, places_length]
    obtain ⟨K, hKe⟩ : ∃ K : Int, T = K := ⟨_, rfl⟩
    obtain ⟨m, hm0⟩ : ∃ m : Int, (if T < N then T else N) = m := ⟨_, rfl⟩
    have hm1 : (if 0 < m then m else 0) = K := by
      unfold cnt at hk1
      rw [← hm0]
      split <;> split <;> omega
    rw [hKe] at h3
    clear hKe h2 hk1 hk2 hlen
    gi_wp2
    clear h3
  all_goals
    rw [roundsIn_succ]
    gi_wp2
    have hD : D < W.heap.size := (Array.getElem?_eq_some_iff.1 hK).1
    have hZ : w.heap.size + 1 + 1 < W.heap.size := World.block_lt_of_cell? W _ h8
    have hN1 : W.heap.size ≠ w.heap.size := by omega
    have hN2 : W.heap.size ≠ w.heap.size + 1 := by omega
    have hN3 : W.heap.size ≠ w.heap.size + 1 + 1 := by omega
    have e5 := cell_alloc_l (.cells #[.int .i64 0] 3) h5
    have e6 := cell_alloc_l (.cells #[.int .i64 0] 3) h6
    have e7 := frozen_alloc_l (.cells #[.int .i64 0] 3) h6 h7
    have e8 := cell_alloc_l (.cells #[.int .i64 0] 3) h8
    have e0 := cell_new_l W (.int .i64 0) 3
    have eK : (W.alloc (.cells #[.int .i64 0] 3)).heap[D]? = some (.deferred (some [])) := (KeepsOthers.alloc W _).same D _ hK rfl
    refine wpIn_rangeFunc_ownF rfl (by omega) (gf := 20) (lb := #[.pointer (some ⟨w.heap.size + 1 + 1, 0, none⟩)]) rfl trivial (enters_of Try.func20 (by kernel_rfl) rfl)
      ((seqStopsA_iff ..).1 (walk_stops N (w.heap.size + 1 + 1) 9 (W.alloc (.cells #[.int .i64 0] 3)) (by simp; omega) e8)) walksK_t walksK_b (Below.refl _ _) (fun _ => rfl)
      (fun pre V => ((pre = places pre.length ∧ (pre.length : Int) ≤ T ∧ V.cell? ⟨W.heap.size, 0, none⟩ = some (.int .i64 (pre.length : Int)) ∧ V.frozen? ⟨W.heap.size, 0, none⟩ = false ∧
        V.cell? ⟨w.heap.size, 0, none⟩ = some (.int .i64 T) ∧ V.cell? ⟨w.heap.size + 1, 0, none⟩ = some (.bool false) ∧ V.frozen? ⟨w.heap.size + 1, 0, none⟩ = false ∧ V.cell? ⟨w.heap.size + 1 + 1, 0, none⟩ = some (.int .i64 N)) ∧ V.heap[D]? = some (.deferred (some []))) ∧ Below w.heap.size w V)
      (fun c pre V => (((c = .ret ∧ pre ≠ places pre.length) ∨ (c = .exit 2 ∧ (pre.length : Int) = T + 1 ∧ V.cell? ⟨W.heap.size, 0, none⟩ = some (.int .i64 T) ∧
        V.cell? ⟨w.heap.size, 0, none⟩ = some (.int .i64 T) ∧ V.cell? ⟨w.heap.size + 1, 0, none⟩ = some (.bool false) ∧ V.frozen? ⟨w.heap.size + 1, 0, none⟩ = false ∧ V.cell? ⟨w.heap.size + 1 + 1, 0, none⟩ = some (.int .i64 N))) ∧ V.heap[D]? = some (.deferred (some []))) ∧ Below w.heap.size w V)
      ?_ ?_ ?_ ?_ ?_ ?_ ?_ ?_
    · refine OwnFrom.and (OwnFrom.and (Own.from ?_ _) (ownFrom_obj (by simp; omega) _)) (ownFrom_below (Nat.le_refl _) (by simp; omega))
      intro s A B row hs hg hr
      obtain ⟨h1, h2, h3, h4, h5, h6, h7, h8⟩ := hs
      exact ⟨h1, h2, cell_kept h3 hg hr, (frozen_kept h3 hg hr).trans h4, cell_kept h5 hg hr, cell_kept h6 hg hr, (frozen_kept h6 hg hr).trans h7, cell_kept h8 hg hr⟩
    · intro c
      refine OwnFrom.and (OwnFrom.and (Own.from ?_ _) (ownFrom_obj (by simp; omega) _)) (ownFrom_below (Nat.le_refl _) (by simp; omega))
      intro s A B row hs hg hr
      rcases hs with h | ⟨h1, h2, h3, h5, h6, h7, h8⟩
      · exact .inl h
      · exact .inr ⟨h1, h2, cell_kept h3 hg hr, cell_kept h5 hg hr, cell_kept h6 hg hr, (frozen_kept h6 hg hr).trans h7, cell_kept h8 hg hr⟩
    · exact ⟨⟨⟨rfl, by simpa using hT0, e0.1, e0.2, e5, e6, e7, e8⟩, eK⟩, hbel.alloc (by omega) _⟩
    rotate_left 1
    · intro l x V K hK
      gi_wp2
      exact hK
    · rintro l pre x V ⟨⟨⟨h1, h2, h3, h4, h5, h6, h7, h8⟩, hKV⟩, hbl⟩ hlen
      obtain ⟨k, hk⟩ : ∃ k, k = pre.length := ⟨_, rfl⟩
      rw [← hk] at h1 h2 h3 hlen
      have h1' : Hid (pre = places k) := h1
      have hk' : Hid (k = pre.length) := hk
      have hsp : (k : Int) ≤ 3000 := by omega
      have hr := fun W => callsIn_round (l := l) (n := 7) (rspot_any k (by omega) W)
      have hln : Hid (k < cnt N) := hlen
      have hkv := Lib.hid hKV
      clear h1 hk hlen hKV e0 e5 e6 e7 e8 eK hK hm0 hm1
      gi_wp2_with (gi_at_call 10; refine (hr _).mono ?_; rintro e w' ⟨rfl, rfl⟩)
      · rename_i hx
        have e : (k : Int) = T := by simpa using hx
        exact ⟨KeepsOthers.refl _, ⟨.inr ⟨rfl, by simp [← hk'.out, e], by rw [← e]; exact h3, h5, h6, h7, h8⟩, hkv.out⟩, hbl⟩
      · rename_i hx hy
        refine ⟨KeepsOthers.setCell _ _ _, ⟨.inl ⟨rfl, ?_⟩, (KeepsOthers.setCell _ _ _).same D _ hkv.out rfl⟩, hbl.setCell (p := ⟨_, 0, none⟩) (by first | (simp; done) | (simp; omega)) _⟩
        intro hp
        rw [List.length_append, ← hk'.out, List.length_singleton, places_succ, h1'.out] at hp
        have := List.append_cancel_left hp
        simp at this
        simp [this] at hy
      · rename_i hnT hx hy
        have hxs : x = spot k := by
          obtain ⟨x1, x2⟩ := x
          have : x2 = (spot k).2 := by simpa using hy
          exact Prod.ext hx this
        have hkT : ¬ (k : Int) = T := by simpa using hnT
        refine ⟨KeepsOthers.setCell _ _ _, (KeepsOthers.setCell _ _ _).walks, ⟨⟨?_, ?_, ?_, ?_, cell_set_l h5 hN1, cell_set_l h6 hN2, ?_, cell_set_l h8 hN3⟩, (KeepsOthers.setCell _ _ _).same D _ hkv.out rfl⟩, hbl.setCell (p := ⟨_, 0, none⟩) (by first | (simp; done) | (simp; omega)) _⟩
        · rw [List.length_append, ← hk'.out, List.length_singleton, places_succ, h1'.out, hxs]
        · rw [List.length_append, ← hk'.out, List.length_singleton]; omega
        · rw [List.length_append, ← hk'.out, List.length_singleton]
          exact World.cell?_setCell_same' _ _ _ (by rw [h3]; rfl)
        · rw [World.frozen?_setCell]; exact h4
        · rw [World.frozen?_setCell]; exact h7
      · rename_i hx
        refine ⟨KeepsOthers.setCell _ _ _, ⟨.inl ⟨rfl, ?_⟩, (KeepsOthers.setCell _ _ _).same D _ hkv.out rfl⟩, hbl.setCell (p := ⟨_, 0, none⟩) (by first | (simp; done) | (simp; omega)) _⟩
        intro hp
        rw [List.length_append, ← hk'.out, List.length_singleton, places_succ, h1'.out] at hp
        have := List.append_cancel_left hp
        simp at this
        exact hx (by rw [this])
    · rintro E xs V hE rfl ⟨⟨⟨_, h2, h3, h4, h5, h6, h7, h8⟩, hKV⟩, hbl⟩ hKE
      rw [places_length] at h2 h3
      have hcK : (cnt N : Int) = K := by
        rw [← hm1, ← hm0]
        unfold cnt at h2 ⊢
        split <;> split <;> omega
      rw [hcK] at h2 h3
      have hkv := Lib.hid hKV
      have hke := Lib.hid hKE
      clear hcK h2 h4 e0 e5 e6 e7 e8 eK hK hKV hKE
      gi_wp2
      rw [roundsIn_succ]
      gi_wp2
      exact leave_l (by omega) (by simp at hDw; omega) (by simp at hE; omega) hbl (by simp at hE; omega) (hke.out) (hkv.out) h6
    · rintro E c pre V hE ⟨kk, hk1, hk2⟩ ⟨⟨hIx, hKV⟩, hbl⟩ hKE
      rcases hIx with ⟨_, hh⟩ | ⟨rfl, h2, h3, h5, h6, h7, h8⟩
      · exact absurd (by rw [hk2, places_length]) hh
      have hlen : kk = pre.length := by rw [hk2, places_length]
      have hTK : T = K := by
        rw [← hm1, ← hm0]
        unfold cnt at hk1
        split <;> split <;> omega
      rw [hTK] at h3
      have hkv := Lib.hid hKV
      have hke := Lib.hid hKE
      clear hTK h2 hk1 hk2 hlen e0 e5 e6 e7 e8 eK hK hKV hKE
      gi_wp2
      rw [roundsIn_succ]
      gi_wp2
      exact leave_l (by omega) (by simp at hDw; omega) (by simp at hE; omega) hbl (by simp at hE; omega) (hke.out) (hkv.out) h6

end Go.Proofs.Ytafdbibjcohdbaa
