/-
  What stays through a walk; the step of finder.learn as three runs; the operations' laws.
-/
import Derived.Test.YtfefbelglohfdaaN
import Derived.Maps.AppendAt
import Derived.Handy
import Derived.Below
import Derived.WalkArith
namespace Go.Proofs.Ytfefbelglohfdaa
open Go.RowKit Go.Maps Go.MapKept Go.WideElems
open Go.Proofs.YtfefbelglohfdaaW.PrintWords

/-- Block b is just these cells. -/
def Blk (W : World) (b : Nat) (t : TypeId) (cs : Array Value) : Prop := W.heap[b]? = some (.cells cs t (0, 0))
theorem Blk.lt {W : World} {b : Nat} {t : TypeId} {cs : Array Value} (h : Blk W b t cs) : b < W.heap.size := (Array.getElem?_eq_some_iff.1 h).1
theorem Blk.cell {W : World} {b : Nat} {t : TypeId} {cs : Array Value} (h : Blk W b t cs) (j : Nat) {v : Value} (hv : cs[j]? = some v) : W.cell? ⟨b, j, none⟩ = some v := by
  simp [World.cell?, show W.heap[b]? = _ from h, hv]
theorem Blk.free {W : World} {b : Nat} {t : TypeId} {cs : Array Value} (h : Blk W b t cs) (j : Nat) : W.frozen? ⟨b, j, none⟩ = false := by
  simp [World.frozen?, show W.heap[b]? = _ from h]
theorem Blk.new (W : World) (t : TypeId) (cs : Array Value) : Blk (W.alloc (.cells cs t)) W.heap.size t cs := (MapKept.heap_alloc W _).1
theorem Blk.set {W : World} {b j : Nat} {t : TypeId} {cs : Array Value} (h : Blk W b t cs) (u : Value) : Blk (W.setCell ⟨b, j, none⟩ u) b t (cs.setIfInBounds j u) := by
  have h' : W.heap[b]? = some (.cells cs t (0, 0)) := h
  simp [Blk, World.setCell, Array.getElem?_modify, h']

theorem add_block (ad : Addr) (j : Nat) : (ad.add j).block = ad.block := by
  unfold Addr.add
  split <;> rfl

/-- A text's bytes, cell by cell. -/
theorem byt_of_C {w : World} {A : Option Addr} {n : Nat} {L : List Int} (h : Kd.C (Kd.int .u8) w A n L) (hn : 0 < n) : ∃ g o, A = some ⟨g, o, none⟩ ∧ g < w.heap.size ∧ ∀ j : Nat, j < n → w.cell? ⟨g, o + j, none⟩ = some (.int .u8 (rd L (j : Int))) := by
  obtain ⟨ad, rfl, h0⟩ := Kd.at_int h 0 (by omega) (by omega)
  have h1 : ∀ j : Nat, j < n → w.cell? (ad.add j) = some (.int .u8 (rd L (j : Int))) := fun j hj => by
    obtain ⟨ad', e, hx⟩ := Kd.at_int h (j : Int) (by omega) (by omega)
    obtain rfl : ad = ad' := by injection e
    simpa using hx
  have hb : ad.block < w.heap.size := by
    have := World.block_lt_of_cell? w _ (h1 0 hn)
    rwa [add_block] at this
  obtain ⟨g, o, sp⟩ := ad
  have hsp : sp = none := by
    cases sp with
    | none => rfl
    | some q =>
      have := h1 0 hn
      simp [Addr.add, World.cell?] at this
      split at this <;> cases this
  subst hsp
  refine ⟨g, o, rfl, hb, fun j hj => ?_⟩
  have := h1 j hj
  rwa [show ((⟨g, o, none⟩ : Addr).add j) = ⟨g, o + j, none⟩ from by unfold Addr.add; split <;> simp_all] at this

/-- From W to W' all blocks of which No holds stay. -/
structure Kp (No : Nat → Prop) (W W' : World) : Prop where
  os : W'.os = W.os
  tape : W'.tape = W.tape
  output : W'.output = W.output
  size : W.heap.size ≤ W'.heap.size
  block : ∀ k, k < W.heap.size → No k → W'.heap[k]? = W.heap[k]?
theorem Kp.refl (No : Nat → Prop) (W : World) : Kp No W W := ⟨rfl, rfl, rfl, Nat.le_refl _, fun _ _ _ => rfl⟩
theorem Kp.trans {No : Nat → Prop} {a b c : World} (h : Kp No a b) (k : Kp No b c) : Kp No a c :=
  ⟨k.os.trans h.os, k.tape.trans h.tape, k.output.trans h.output, Nat.le_trans h.size k.size, fun i hi hn => (k.block i (Nat.lt_of_lt_of_le hi h.size) hn).trans (h.block i hi hn)⟩
theorem Kp.grown {No : Nat → Prop} {a b c : World} {row : Option Nat} (h : Kp No a b) (g : b.grownBy c row) (hr : ∀ j, row = some j → ¬ No j) : Kp No a c :=
  h.trans ⟨g.os, g.tape, g.output, g.size, fun k hk hn => g.block k hk (fun e => hr k e.symm hn)⟩
theorem Kp.alloc {No : Nat → Prop} {a b : World} (h : Kp No a b) (o : Obj) : Kp No a (b.alloc o) :=
  h.trans ⟨rfl, rfl, rfl, by simp, fun k hk _ => Below.heap_alloc b o k hk⟩
theorem Kp.drewN {No : Nat → Prop} {a b : World} (h : Kp No a b) (m : Nat) : Kp No a (b.drewN m) := h.trans ⟨rfl, rfl, rfl, Nat.le_refl _, fun _ _ _ => rfl⟩
theorem Kp.drew {No : Nat → Prop} {a b : World} (h : Kp No a b) : Kp No a b.drew := ⟨h.os, h.tape, h.output, h.size, h.block⟩
theorem Kp.set {No : Nat → Prop} {a b : World} (h : Kp No a b) {p : Addr} (hp : ¬ No p.block) (u : Value) : Kp No a (b.setCell p u) :=
  h.trans ⟨rfl, rfl, rfl, by simp [World.setCell], fun k _ hn => Below.heap_setCell b p u k (fun e => hp (e ▸ hn))⟩
theorem Kp.mono {No No' : Nat → Prop} {a b : World} (h : Kp No a b) (hn : ∀ k, No' k → No k) : Kp No' a b := ⟨h.os, h.tape, h.output, h.size, fun k hk h' => h.block k hk (hn k h')⟩
theorem Kp.blk {No : Nat → Prop} {a b : World} (h : Kp No a b) {g : Nat} {t : TypeId} {cs : Array Value} (hb : Blk a g t cs) (hn : No g) : Blk b g t cs := (h.block g hb.lt hn).trans hb
theorem Kp.below {No : Nat → Prop} {a b : World} (h : Kp No a b) {H : Nat} (hn : ∀ k, k < H → No k) (hH : H ≤ a.heap.size) : Below H a b :=
  ⟨h.os, h.tape, h.output, h.size, fun k hk => h.block k (Nat.lt_of_lt_of_le hk hH) (hn k hk)⟩

open Classical in
/-- The places p below u where the pair is the key. -/
noncomputable def plc (L : List Int) (u : Nat) (key : Value) : List Int := ((List.range u).filter (fun p : Nat => decide (key = pairV (rd L (p : Int)) (rd L ((p : Int) + 1))))).map (fun p : Nat => (p : Int))
theorem plc_same (L : List Int) (u : Nat) : plc L (u + 1) (pairV (rd L (u : Int)) (rd L ((u : Int) + 1))) = plc L u (pairV (rd L (u : Int)) (rd L ((u : Int) + 1))) ++ [(u : Int)] := by
  simp [plc, List.range_succ]
theorem plc_other (L : List Int) (u : Nat) {key : Value} (h : key ≠ pairV (rd L (u : Int)) (rd L ((u : Int) + 1))) : plc L (u + 1) key = plc L u key := by
  simp [plc, List.range_succ, h]
theorem plc_zero (L : List Int) : plc L 0 = fun _ => [] := by
  funext key
  simp [plc]
theorem plc_length (L : List Int) (u : Nat) (key : Value) : (plc L u key).length ≤ u := by
  simp only [plc, List.length_map]
  exact Nat.le_trans (List.length_filter_le _ _) (by simp)

abbrev GrpT (W : World) (M : Nat) (No : Nat → Prop) (G : Value → List Int) : Prop := Grp Try.prog 49 3 .i64 W M No G

theorem grown_drew {a b : World} {row : Option Nat} (h : a.grownBy b row) : a.grownBy b.drew row := ⟨h.os, h.tape, h.output, h.size, h.block⟩

set_option maxHeartbeats 1000000 in
/-- 'f.places[two] = append(f.places[two], f.upto)', behind the block of the appended number. -/
theorem learn_step {W : World} {M : Nat} {No : Nat → Prop} {L : List Int} {u : Nat} (hG : GrpT W M No (plc L u)) (hM : ¬ No M) (hlt : ∀ g, No g → g < W.heap.size) (hu : u < 17592186043904)
    (hx : 0 ≤ rd L (u : Int) ∧ rd L (u : Int) < 256) (hy : 0 ≤ rd L ((u : Int) + 1) ∧ rd L ((u : Int) + 1) < 256) :
    ∃ v st W2 v' W3 W4, (Instr.mapEntry 43 (.map (some M)) (pairV (rd L (u : Int)) (rd L ((u : Int) + 1)))).run Try.prog (W.alloc (.cells #[.int .i64 (u : Int)] 3)) = .ok (.tuple #[v, .int .i64 st]) W2 ∧
      (Builtin.append_ #[48, 48] 48 #[v, .slice (some ⟨W.heap.size, 0, none⟩) 1 1]).run Try.prog W2 = .ok v' W3 ∧
      (Instr.entryStore 43 (.map (some M)) (.int .i64 st) v').run Try.prog W3 = .ok () W4 ∧ GrpT W4 M No (plc L (u + 1)) ∧ Kp No W W2 ∧ Kp No W W3 ∧ Kp No W W4 := by
  obtain ⟨kl, hkey⟩ := key49 hx hy
  have hG1 : GrpT (W.alloc (.cells #[.int .i64 (u : Int)] 3)) M No (plc L u) := hG.kept (row := none) (World.grownBy_alloc _ _ _) (by simp) (by simp)
  obtain ⟨v, st, W2, hrun, hg, hsz, hown, hno, hne, hback⟩ := hG1.entry law49 und43 zero48 hkey
  obtain ⟨i0, hi, hz0, hz1, hz2⟩ := info_parts info3
  have hM2 : M < W.heap.size := hG.lt
  have hcell : ∀ j x, [Value.int .i64 (u : Int)][j]? = some x → W2.cell? ((⟨W.heap.size, 0, none⟩ : Addr).add j) = some x := fun j x hj => by
    have h1 := cell_one_new W (.int .i64 (u : Int)) 3 j x hj
    rw [← h1]
    have hb : W2.heap[W.heap.size]? = (W.alloc (.cells #[.int .i64 (u : Int)] 3)).heap[W.heap.size]? := hg.block W.heap.size (by simp) (fun e => by simp only [Option.some.injEq] at e; omega)
    cases j with
    | succ j => simp at hj
    | zero => exact World.cell?_of_block (show W2.heap[((⟨W.heap.size, 0, none⟩ : Addr).add 0).block]? = _ from hb)
  have hl := plc_length L u (pairV (rd L (u : Int)) (rd L ((u : Int) + 1)))
  obtain ⟨v', W3, hr3, ho3, hg3, _, hloc⟩ := run_append_own_at (P := Try.prog) W2 0 48 48 3 i0 (.int .i64 0) 1 8 und48 hi hz0 hz1 hz2 rfl (by decide) v _ _ hown.1 ⟨W.heap.size, 0, none⟩ 1 1 [.int .i64 (u : Int)] rfl hcell (by simp [Value.oneCell']) (by unfold maxLen; omega) (by omega) (Nat.zero_le _)
  have ho4 := hown.appended ho3 (WalkArith.wf_i64 (by omega))
  obtain ⟨W4, hr4, hg4, hG4⟩ := hback W3 v' _ hg3 ho4 (hloc.imp id (fun h => ⟨_, h, Nat.le_refl _, fun hn => by have := hlt _ hn; rw [hsz] at this; simp at this; omega⟩))
  have q2 : Kp No W W2 := ((Kp.refl No W).alloc _).grown hg (fun j hj => by cases hj; exact hM)
  have q3 : Kp No W W3 := q2.grown hg3 (fun j hj => hno j hj)
  exact ⟨v, _, W2, v', W3, W4, hrun, hr3, hr4, hG4 _ (plc_same L u) (fun _ => plc_other L u), q2, q3, q3.grown hg4 (fun j hj => by cases hj; exact hM)⟩

section
variable {P : Program} {ops : Array Oper} {rest : List Oper} {o : Oper} {a : Act} {w w2 : World} {Q : Exit → Act → World → Prop}
theorem wpList_mapEntry (hg : o.guard = none) (m x : Operand) (t : TypeId) (hop : o.op = Op.mapEntry t m x) {mv key v : Value} (hm : a.eval m = mv) (hx : a.eval x = key)
    (hrun : (Instr.mapEntry t mv key).run P w = .ok v w2) (hK : wpList P ops Q rest (a.put o.dst v) w2) : wpList P ops Q (o :: rest) a w := by
  refine wpList_plain hg fun K' hK' => ?_
  unfold Oper.wp
  simp [execOp, hop, hm, hx, hrun, Result.andThen]
  exact hK' _ _ hK
theorem wpList_entryStore (hg : o.guard = none) (m s x : Operand) (t : TypeId) (hop : o.op = Op.entryStore t m s x) {mv sv v : Value} (hm : a.eval m = mv) (hs : a.eval s = sv) (hx : a.eval x = v)
    (hrun : (Instr.entryStore t mv sv v).run P w = .ok () w2) (hK : wpList P ops Q rest (a.put o.dst undef) w2) : wpList P ops Q (o :: rest) a w := by
  refine wpList_plain hg fun K' hK' => ?_
  unfold Oper.wp
  simp [execOp, hop, hm, hs, hx, hrun, Result.andThen]
  exact hK' _ _ hK
theorem wpList_lookup_run (hg : o.guard = none) (m x : Operand) (t : TypeId) (hop : o.op = Op.lookup t m x false) {mv key v : Value} (hm : a.eval m = mv) (hx : a.eval x = key)
    (hrun : (Instr.lookup t mv key false).run P w = .ok v w2) (hK : wpList P ops Q rest (a.put o.dst v) w2) : wpList P ops Q (o :: rest) a w := by
  refine wpList_plain hg fun K' hK' => ?_
  unfold Oper.wp
  simp [execOp, hop, hm, hx, hrun, Result.andThen]
  exact hK' _ _ hK
theorem wpList_append_run (hg : o.guard = none) (s x : Operand) (t : TypeId) (ty : TypeId) (hty : o.type = ty) (hop : o.op = .call { callee := .builtin .append, args := #[s, x], argTypes := #[t, t] }) {sv xv v : Value} (hs : a.eval s = sv) (hx : a.eval x = xv)
    (hrun : (Builtin.append_ #[t, t] ty #[sv, xv]).run P w = .ok v w2) (hK : wpList P ops Q rest (a.put o.dst v) w2) : wpList P ops Q (o :: rest) a w := by
  refine wpList_plain hg fun K' hK' => ?_
  unfold Oper.wp execOp
  simp only [hop, resolve, invoke, builtin, Sem.run_bind, Sem.run_pure, Result.andThen_ok, List.map_toArray, List.map_cons, List.map_nil, hs, hx, hty, hrun]
  exact hK' _ _ hK
theorem step_append_run {K : Act → World → Prop} {E : Prop} (hg : o.guard = none) (s x : Operand) (t : TypeId) (ty : TypeId) (hty : o.type = ty) (hop : o.op = .call { callee := .builtin .append, args := #[s, x], argTypes := #[t, t] }) {sv xv v : Value} (hs : a.eval s = sv) (hx : a.eval x = xv)
    (hrun : (Builtin.append_ #[t, t] ty #[sv, xv]).run P w = .ok v w2) (hK : K (a.put o.dst v) w2) : if Region.wanted o (yielded ops a.tmps) = true then Oper.wp P o a w K Q else E := by
  rw [if_pos (by simp [Region.wanted, hg])]
  unfold Oper.wp execOp
  simp only [hop, resolve, invoke, builtin, Sem.run_bind, Sem.run_pure, Result.andThen_ok, List.map_toArray, List.map_cons, List.map_nil, hs, hx, hty, hrun]
  exact hK
end

end Go.Proofs.Ytfefbelglohfdaa
