/-
  A region that draws its order, inside a round of a loop over a function: some reads may float past an operation that makes memory.
-/
import Derived.Test.YtafdbibjcohdbaaRg
import Derived.OrdersHeld
namespace Go.Proofs.Ytafdbibjcohdbaa
open Go.RowKit

section
variable {P : Program} {ops : Array Oper} {Q : Exit → Act → World → Prop} {md : Region.Mode} {S : World → Prop} {n0 : Nat}

/-- Whatever order is picked, and S holds behind each of the first n0 operations. -/
def wpAnyG (P : Program) (md : Region.Mode) (ops : Array Oper) (Q : Exit → Act → World → Prop) (S : World → Prop) (n0 : Nat) : Nat → Array Bool → Act → World → Prop
  | 0, listed, a, w => Region.ready md ops listed = [] ∧ Q .normal a w
  | fuel + 1, listed, a, w => (Region.ready md ops listed = [] → Q .normal a w) ∧
    ∀ i ∈ Region.ready md ops listed, wpOp P ops Q i (fun a' w' => (i < n0 → S w') ∧ wpAnyG P md ops Q S n0 fuel (listed.setIfInBounds i true) a' w') a w

theorem wpAny_of_G : ∀ (fuel : Nat) (listed : Array Bool) (a : Act) (w : World), wpAnyG P md ops Q S n0 fuel listed a w → wpAny P md ops Q fuel listed a w
  | 0, _, _, _, h => h
  | fuel + 1, _, _, _, h => ⟨h.1, fun i hi => wpOp_mono (fun a' w' h' => wpAny_of_G fuel _ a' w' h'.2) (h.2 i hi)⟩

/-- j waits for i, by way of others maybe. -/
def waitsT (md : Region.Mode) (ops : Array Oper) : Nat → Nat → Nat → Bool
  | 0, _, _ => false
  | f + 1, j, i => Region.waitsFor md ops j i || (List.range ops.size).any fun k => Region.waitsFor md ops j k && waitsT md ops f k i

def Met (md : Region.Mode) (ops : Array Oper) (listed : Array Bool) (j : Nat) : Prop := ∀ oj, ops[j]? = some oj → ∀ e ∈ oj.after, Region.binds md e = true → listed.getD e.on false = true
def Shut (md : Region.Mode) (ops : Array Oper) (listed : Array Bool) : Prop := ∀ j, listed.getD j false = true → Met md ops listed j
def shutB (md : Region.Mode) (ops : Array Oper) (listed : Array Bool) : Bool :=
  (List.range ops.size).all fun j => !(listed.getD j false) || (match ops[j]? with | some oj => oj.after.all fun e => !(Region.binds md e) || listed.getD e.on false | none => true)
theorem shut_of {listed : Array Bool} (h : shutB md ops listed = true) : Shut md ops listed := fun j hj oj hoj e he hb => by
  have h1 := List.all_eq_true.1 h j (List.mem_range.2 (Array.getElem?_eq_some_iff.1 hoj).1)
  rw [hj, hoj] at h1
  simp only [Bool.not_true, Bool.false_or] at h1
  obtain ⟨n, hn, rfl⟩ := Array.mem_iff_getElem.1 he
  have h2 := Array.all_eq_true.1 h1 n hn
  rw [hb] at h2
  simpa using h2

theorem waitsT_listed {i : Nat} {listed : Array Bool} (hc : Shut md ops listed) : ∀ (f j : Nat), Met md ops listed j → waitsT md ops f j i = true → listed.getD i false = true
  | 0, _, _, h => by cases h
  | f + 1, j, hm, h => by
    simp only [waitsT, Bool.or_eq_true] at h
    rcases h with h | h
    · obtain ⟨oj, hoj, e, he, hb, hon⟩ := Region.waitsFor_spec h
      rw [← hon]
      exact hm oj hoj e he hb
    · obtain ⟨k, _, hk⟩ := List.any_eq_true.1 h
      simp only [Bool.and_eq_true] at hk
      obtain ⟨oj, hoj, e, he, hb, hon⟩ := Region.waitsFor_spec hk.1
      have hl : listed.getD k false = true := by rw [← hon]; exact hm oj hoj e he hb
      exact waitsT_listed hc f k (hc k hl) hk.2

theorem Shut.set {listed : Array Bool} {j : Nat} (h : Shut md ops listed) (hj : j ∈ Region.ready md ops listed) : Shut md ops (listed.setIfInBounds j true) := fun k hk ok hok e he hb => by
  obtain ⟨_, oj, hoj, hall⟩ := mem_ready.1 hj
  by_cases hjk : j = k
  · subst hjk
    have : ok = oj := Option.some.inj (hok.symm.trans hoj)
    subst this
    exact getD_set_true (hall e he hb)
  · rw [getD_set_ne false hjk] at hk
    exact getD_set_true (h k hk ok hok e he hb)

/-- Whatever comes from n0 on waits for i. -/
def tailWaits (md : Region.Mode) (ops : Array Oper) (n0 i : Nat) : Bool := (List.range ops.size).all fun j => decide (j < n0) || waitsT md ops ops.size j i

/-- A read that may come up now may be taken first. -/
theorem wpAnyG_first {i : Nat} {oi : Oper} {v : Value} (hi : ops[i]? = some oi) (hsel : ∀ (j : Nat) (o : Oper) cs b, ops[j]? = some o → o.op ≠ .select cs b) (hQ : ∀ c a w, Q (.panic c) (a.put oi.dst v) w → Q (.panic c) a w)
    (hT : tailWaits md ops n0 i = true) : ∀ (fuel : Nat) (listed : Array Bool) (a : Act) (w : World),
      (∀ j oj, ops[j]? = some oj → j ≠ i → listed.getD j true = false → (∀ e ∈ oj.after, Region.binds md e = true → e.on ≠ i) → oi.apart ops oj = true) →
      Shut md ops listed → i ∈ Region.ready md ops listed → YieldsIf P ops S oi v a → S w →
      wpAnyG P md ops Q S n0 fuel (listed.setIfInBounds i true) (a.put oi.dst v) w → wpAnyG P md ops Q S n0 (fuel + 1) listed a w
  | 0, listed, a, w, _, _, hr, hy, hS, H => by
    refine ⟨fun h => (by rw [h] at hr; cases hr), fun j hj => ?_⟩
    by_cases e : j = i
    · subst e
      exact hy.wpOp hi hS ⟨fun _ => hS, H⟩
    · have := ready_mono hj e
      rw [H.1] at this
      cases this
  | fuel + 1, listed, a, w, hfree, hsh, hr, hy, hS, H => by
    refine ⟨fun h => (by rw [h] at hr; cases hr), fun j hj => ?_⟩
    by_cases e : j = i
    · subst e
      exact hy.wpOp hi hS ⟨fun _ => hS, H⟩
    · have hstep := H.2 j (ready_mono hj e)
      obtain ⟨hun, oj, hoj, hall⟩ := mem_ready.1 hj
      have hun0 := (mem_ready.1 hr).1
      have hnot : ∀ d ∈ oj.after, Region.binds md d = true → d.on ≠ i := fun d hd hb hon => by
        have := hall d hd hb
        rw [hon, getD_both hun0] at this
        cases this
      have hjn : j < n0 := by
        rcases Nat.lt_or_ge j n0 with h | h
        · exact h
        · have hb := List.all_eq_true.1 hT j (List.mem_range.2 (Array.getElem?_eq_some_iff.1 hoj).1)
          simp only [Bool.or_eq_true, decide_eq_true_eq] at hb
          rcases hb with hb | hb
          · exact hb
          · have := waitsT_listed hsh _ j (fun o' ho' d hd hbd => by
              have : o' = oj := Option.some.inj (ho'.symm.trans hoj)
              subst this
              exact hall d hd hbd) hb
            rw [getD_both hun0] at this
            cases this
      have hput := wpOp_putIf hoj (hfree j oj hoj e hun hnot) (fun cs b => hsel i oi cs b hi) (fun cs b => hsel j oj cs b hoj) hQ hy hstep
      refine wpOp_mono (fun a' w' h3 => ⟨fun _ => h3.2.1 hjn, ?_⟩) hput
      refine wpAnyG_first hi hsel hQ hT fuel (listed.setIfInBounds j true) a' w' (fun k ok hk hki hku hno => hfree k ok hk hki ?_ hno) (hsh.set hj) (ready_mono hr (Ne.symm e)) h3.1 (h3.2.1 hjn) ?_
      · by_cases hjk : j = k
        · subst hjk; exact hun
        · rw [getD_set_ne true hjk] at hku; exact hku
      · rw [Array.setIfInBounds_comm _ _ e]
        exact h3.2.2

theorem wpAnyG_take {i : Nat} {oi : Oper} {v : Value} {fuel : Nat} {listed : Array Bool} {a : Act} {w : World} (hi : ops[i]? = some oi) (hs : Region.noSelect ops = true) (hf : Region.free md ops listed i = true) (hr : (Region.ready md ops listed).contains i = true)
    (hT : tailWaits md ops n0 i = true) (hsh : shutB md ops listed = true) (hQ : ∀ c a w, Q (.panic c) (a.put oi.dst v) w → Q (.panic c) a w) (hy : YieldsIf P ops S oi v a) (hS : S w)
    (h : wpAnyG P md ops Q S n0 fuel (listed.setIfInBounds i true) (a.put oi.dst v) w) : wpAnyG P md ops Q S n0 (fuel + 1) listed a w :=
  wpAnyG_first hi (Region.noSelect_spec hs) hQ hT fuel listed a w (Region.free_spec hi hf) (shut_of hsh) (by simpa using hr) hy hS h

/-- One operation alone may come up. -/
theorem wpAnyG_one {i : Nat} {oi : Oper} {fuel : Nat} {listed : Array Bool} {a : Act} {w : World} (hi : ops[i]? = some oi) (hr : Region.ready md ops listed = [i]) (hw : Region.wanted oi (yielded ops a.tmps) = true)
    (h : oi.wp P a w (fun a' w' => (i < n0 → S w') ∧ wpAnyG P md ops Q S n0 fuel (listed.setIfInBounds i true) a' w') Q) : wpAnyG P md ops Q S n0 (fuel + 1) listed a w := by
  refine ⟨fun h0 => (by rw [h0] at hr; cases hr), fun j hj => ?_⟩
  rw [hr] at hj
  have : j = i := by simpa using hj
  subst this
  unfold wpOp
  simp only [hi, hw, if_true]
  exact .inl h

/-- What is left can come in one order only. -/
theorem wpAnyG_seq : ∀ (l : List Oper) (k : Nat) (listed : Array Bool) (a : Act) (w : World), n0 ≤ k → (∀ j, l[j]? = ops[k + j]?) → Region.seqB md ops l.length k listed = true → wpList P ops Q l a w → wpAnyG P md ops Q S n0 l.length listed a w
  | [], _, _, _, _, _, _, hB, h => ⟨by simpa [Region.seqB] using hB, h⟩
  | o :: l, k, listed, a, w, hk, hl, hB, h => by
    have h0 : ops[k]? = some o := by simpa using (hl 0).symm
    simp only [List.length_cons, Region.seqB, Bool.and_eq_true, decide_eq_true_eq] at hB
    refine ⟨fun h1 => (by rw [hB.1] at h1; cases h1), fun i hi => ?_⟩
    rw [hB.1] at hi
    have e : i = k := by simpa using hi
    subst e
    have hw : wpOp P ops Q i (wpList P ops Q l) a w := by unfold wpOp; simp only [h0]; exact h
    refine wpOp_mono (fun a' w' h' => ⟨fun hlt => absurd hlt (by omega), ?_⟩) hw
    exact wpAnyG_seq l (i + 1) _ a' w' (by omega) (fun j => by have := hl (j + 1); rwa [List.getElem?_cons_succ, show i + (j + 1) = i + 1 + j by omega] at this) hB.2 h'
theorem wpAnyG_tail {opsL : List Oper} (k : Nat) {fuel : Nat} {listed : Array Bool} {a : Act} {w : World} (hk : n0 ≤ k) (hf : (opsL.drop k).length = fuel) (hB : Region.seqB md opsL.toArray fuel k listed = true)
    (h : wpList P opsL.toArray Q (opsL.drop k) a w) : wpAnyG P md opsL.toArray Q S n0 fuel listed a w := by
  subst hf
  exact wpAnyG_seq (opsL.drop k) k listed a w hk (fun j => by simp [List.getElem?_drop]) hB h
end

theorem wpIn_anyG {l n : Nat} {P : Program} {K : Act → World → Prop} {id : Nat} {ops : Array Oper} {a : Act} {w : World} (S : World → Prop) (n0 : Nat) (hm : P.follows .mixedOrders = true) (hd : noDefer ops = true)
    (h : wpAnyG P .any ops (onlyN K) S n0 ops.size (Array.replicate ops.size false) a w.drew) : (Code.region id ops true).wpIn (Fence.wide.inRound l) n P (onlyN K) a w :=
  wpIn_region_any hm (wpAny_round hd _ _ _ _ (wpAny_of_G _ _ _ _ h))

end Go.Proofs.Ytafdbibjcohdbaa
