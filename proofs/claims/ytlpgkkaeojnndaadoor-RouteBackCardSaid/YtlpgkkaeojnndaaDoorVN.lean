/-
  route.Names hands back an iterator over a path's names, or one over nothing.
-/
import Derived.Test.YtlpgkkaeojnndaaDoorVA
namespace Go.Proofs.YtlpgkkaeojnndaaDoor
open Go.RowKit

attribute [local go_sem] Oper.semAt_some

def namesB (s : ByteArray) : List ByteArray := if validB s = true then piecesB s else []
theorem namesB_yes {s : ByteArray} (h : validB s = true) : namesB s = piecesB s := if_pos h
theorem namesB_not {s : ByteArray} (h : validB s = false) : namesB s = [] := if_neg (by rw [h]; simp)

def strE (x : ByteArray) : Array Value := #[.string x]
/-- The blocks from lo to up are left alone. -/
def KpR (lo up : Nat) (W W' : World) : Prop := ∀ b, lo ≤ b → b < up → W'.heap[b]? = W.heap[b]?
theorem KpR.t {lo up : Nat} {A B C : World} (h : KpR lo up A B) (k : KpR lo up B C) : KpR lo up A C := fun b h1 h2 => (k b h1 h2).trans (h b h1 h2)
theorem KpR.b {lo up : Nat} {w : World} (hu : up ≤ w.heap.size) (W : World) (l : Nat) (o o' : Obj) (h : w.heap.size ≤ l) (_ : W.heap[l]? = some o) (_ : o.isCells = false) (_ : o.isWalk = false) : KpR lo up W (W.putObj l o') :=
  fun b _ hb => World.putObj_heap_other (by omega)

/-- What can be ranged over: it hands over L. -/
def Gives (gf : Nat) (lb : Array Value) (lo : Nat) (L : List ByteArray) (w : World) : Prop :=
  (∀ args w, (callFunc gf args).run Tryd.prog w = .ok (.enter gf args) w) ∧
  ∀ n, SeqStopsK Fence.wide n Tryd.prog gf lb strE (KpR lo w.heap.size) (fun xs => xs = L) (fun pre => ∃ rest, L = pre ++ rest) L.length w

theorem none_gives (lo : Nat) (w : World) : Gives 30 #[] lo [] w := ⟨enters_of Tryd.func30 (by kernel_rfl) rfl, fun n l J Jx W _ _ _ _ h0 => by
  refine callsIn_of_wp Tryd.func30 rfl trivial ?_ rfl
  simp only [Tryd.ntmps30, List.size_toArray, List.length_cons, List.length_nil, Nat.reduceAdd, Nat.reduceSub, Array.replicate_succ, Array.replicate_zero, List.push_toArray, List.append_toArray, List.nil_append, List.cons_append]
  gi_wp2
  go_end0
  exact ⟨⟨_, rfl⟩, .inl ⟨[], rfl, h0⟩⟩⟩

set_option maxRecDepth 100000 in
set_option maxHeartbeats 4000000 in
theorem values_gives (L : List ByteArray) (hL : L.length ≤ 9223372036854775807) (lo b g c : Nat) (w : World) (hlg : lo ≤ g) (hb : b < w.heap.size) (hg : g < w.heap.size)
    (c0 : w.cell? ⟨b, 0, none⟩ = some (.slice (some ⟨g, 0, none⟩) L.length c)) (hc : ∀ (j : Nat) (x : ByteArray), L[j]? = some x → w.cell? ⟨g, j, none⟩ = some (.string x)) :
    Gives 40 #[.pointer (some ⟨b, 0, none⟩)] lo L w := ⟨enters_of Tryd.func40 (by kernel_rfl) rfl, fun n l J Jx W hW _ _ hY h0 => by
  have c0' : W.cell? ⟨b, 0, none⟩ = some (.slice (some ⟨g, 0, none⟩) L.length c) := (hW.cell (p := ⟨b, 0, none⟩) hb).trans c0
  have hg0 : W.heap[g]? = w.heap[g]? := hW.block g hg
  have hg1 := Lib.hid hg0
  have hc := Lib.hid hc
  obtain ⟨N, hN⟩ : ∃ N, L.length = N := ⟨_, rfl⟩
  rw [hN] at hL c0'
  have hN' : Hid (L.length = N) := hN
  clear c0 hW hg0 hN
  refine callsIn_of_wp Tryd.func40 rfl trivial ?_ rfl
  simp only [Tryd.ntmps40, List.size_toArray, List.length_cons, List.length_nil, Nat.reduceAdd, Nat.reduceSub, Array.replicate_succ, Array.replicate_zero, List.push_toArray, List.append_toArray, List.nil_append, List.cons_append]
  gi_wp2
  gi_loopw [7] (fun s7 wr => ∃ k : Nat, k ≤ N ∧ s7 = .int .i64 k ∧ Hid (wr.heap[g]? = w.heap[g]?) ∧ J (L.take k) wr) (fun s7 _ => N - (intOf s7).toNat)
  case atStart => exact ⟨0, Nat.zero_le _, rfl, hg1, h0⟩
  case round =>
    obtain ⟨k, hk, rfl, hgk, hJ⟩ := hrel
    clear c0' hg1 h0
    by_cases hlt : k < N
    · obtain ⟨x, hx⟩ : ∃ x, L[k]? = some x := ⟨L[k]'(by have := hN'.out; omega), List.getElem?_eq_getElem _⟩
      have hcx : wr.cell? ⟨g, k, none⟩ = some (.string x) := (World.cell?_of_block (a := ⟨g, k, none⟩) hgk.out).trans (hc.out k x hx)
      have hsn : Hid (L.take k ++ [x] = L.take (k + 1)) := by
        obtain ⟨hk', rfl⟩ := List.getElem?_eq_some_iff.1 hx
        exact (List.take_succ_eq_append_getElem hk').symm
      obtain ⟨fn, tmps, assign, body, hy, hR⟩ := hY (L.take k) x wr hJ (by rw [List.length_take, hN'.out]; omega)
      rw [hsn.out] at hR
      have hrest : Hid (∃ rest, L = L.take (k + 1) ++ rest) := ⟨L.drop (k + 1), (List.take_append_drop _ _).symm⟩
      dsimp only [strE] at hy
      clear hx hY
      gi_wp2
      refine hR.mono ?_
      clear hR hy
      rintro e W3 (⟨rfl, hJ3, hk3⟩ | ⟨rfl, hx3⟩)
      · have hg3 : Hid (W3.heap[g]? = w.heap[g]?) := (hk3 g hlg hg).trans hgk.out
        clear hk3 hcx hgk
        gi_wp2
        go_roundw
        case rel => exact ⟨k + 1, by omega, by go_num, hg3, hJ3⟩
        case measure => simp [intOf]; omega
      · gi_wp2
        refine bodyPost_ret (results_none rfl _ _ _) rfl ?_
        exact ⟨⟨_, rfl⟩, .inr ⟨_, hrest.out, hx3⟩⟩
    · have he : k = L.length := by have := hN'.out; omega
      gi_wp2
      go_end0
      exact ⟨⟨_, rfl⟩, .inl ⟨_, by rw [he, List.take_of_length_le (Nat.le_refl _)], hJ⟩⟩⟩

end Go.Proofs.YtlpgkkaeojnndaaDoor
