/-
  A region that draws its order, inside a round of a loop over a function: reads first, then a tail in the order of the text.
-/
import Derived.Test.YtafdbibjcohdbaaF
import Derived.StillTailTactics
import Derived.OrdersIn
namespace Go.Proofs.Ytafdbibjcohdbaa
open Go.RowKit

/-- The statement ends as statements do, and in no other way. -/
def onlyN (K : Act → World → Prop) : Exit → Act → World → Prop
  | .normal, a, w => K a w
  | _, _, _ => False
theorem onlyN_i {K : Act → World → Prop} {a : Act} {w : World} (h : K a w) : onlyN K .normal a w := h
theorem onlyN_out {K : Act → World → Prop} : ¬ LetsOut (onlyN K) := fun ⟨_, _, h⟩ => h
theorem wp_via {P : Program} {c : Code} {Q : Exit → Act → World → Prop} {a : Act} {w : World} (h : c.wp P (onlyN (Q .normal)) a w) : c.wp P Q a w :=
  Code.wp_mono (fun e a w hq => by cases e <;> first | exact hq | exact False.elim hq) h
theorem wpIn_via {F : Fence} {n : Nat} {P : Program} {c : Code} {Q : Exit → Act → World → Prop} {a : Act} {w : World} (h : c.wpIn F n P (onlyN (Q .normal)) a w) : c.wpIn F n P Q a w :=
  wpIn_mono h (fun e a w hq => by cases e <;> first | exact hq | exact False.elim hq)

section
variable {l n : Nat} {P : Program} {K : Act → World → Prop}

theorem rowsIn_round {row : String} {args : Array Value} {w : World} {R : Value → World → Prop} (h : Rows P row args w R) : RowsIn (Fence.wide.inRound l) n P row args w R :=
  fun c cs _ => let ⟨v, w', r, s⟩ := h c cs; ⟨v, w', r, stepsIn_wide.2 s⟩

theorem upon_round {o : Oper} {a : Act} {next : Act → World → Prop} {r : Result Next} (h : o.upon P a next (onlyN K) r) : o.uponIn (Fence.wide.inRound l) n P a next (onlyN K) r := by
  have hd : (Fence.wide.inRound l).depth.isSome = true → 1 ≤ n := fun e => by cases e
  cases r with
  | ok x w' =>
    cases x <;> simp only [Oper.upon, Oper.uponIn] at h ⊢ <;>
      first
        | exact h
        | exact ⟨hd, callsIn_round (Calls.mono h (fun e w'' he => by cases e <;> first | exact he | exact absurd he onlyN_out))⟩
        | exact ⟨hd, rowsIn_round h⟩
  | halt x w' => cases x <;> simp only [Oper.upon, Oper.uponIn] at h ⊢ <;> exact h

theorem wp_round {o : Oper} {a : Act} {w : World} {next : Act → World → Prop} (hd : ∀ c, o.op ≠ .defer c) (h : o.wp P a w next (onlyN K)) : o.wpIn (Fence.wide.inRound l) n P a w next (onlyN K) := by
  refine ⟨fun _ _ => trivial, ?_⟩
  rw [show o.semAt (Fence.wide.inRound l).round a.eval = execOp a.eval o from Oper.semAt_some l _ _ hd]
  exact upon_round h

def noDefer (ops : Array Oper) : Bool := ops.all fun o => match o.op with | .defer _ => false | _ => true
theorem noDefer_at {ops : Array Oper} (h : noDefer ops = true) {i : Nat} {o : Oper} (ho : ops[i]? = some o) : ∀ c, o.op ≠ .defer c := fun c e => by
  obtain ⟨hi, rfl⟩ := Array.getElem?_eq_some_iff.1 ho
  have := Array.all_eq_true.1 h i hi
  rw [e] at this
  cases this

theorem wpOp_round {ops : Array Oper} (hd : noDefer ops = true) {i : Nat} {next next' : Act → World → Prop} (hn : ∀ a w, next a w → next' a w) {a : Act} {w : World} (h : wpOp P ops (onlyN K) i next a w) :
    wpOpIn (Fence.wide.inRound l) n P ops (onlyN K) i next' a w := by
  unfold wpOp at h
  unfold wpOpIn
  cases ho : ops[i]? with
  | none => simp only [ho] at h; exact hn _ _ h
  | some o =>
    simp only [ho] at h
    by_cases hw : Region.wanted o (yielded ops a.tmps) = true
    · simp only [hw, if_true] at h ⊢
      rcases h with h | h
      · exact Oper.wpIn_mono hn (wp_round (noDefer_at hd ho) h)
      · exact absurd h.2 onlyN_out
    · simp only [hw] at h ⊢
      exact ⟨fun _ _ => trivial, hn _ _ h⟩

theorem wpAny_round {md : Region.Mode} {ops : Array Oper} (hd : noDefer ops = true) : ∀ (fuel : Nat) (listed : Array Bool) (a : Act) (w : World), wpAny P md ops (onlyN K) fuel listed a w → wpAnyIn (Fence.wide.inRound l) n P md ops (onlyN K) fuel listed a w
  | 0, _, _, _, h => h
  | fuel + 1, _, _, _, h => ⟨h.1, fun i hi => wpOp_round hd (fun a w h' => wpAny_round hd fuel _ a w h') (h.2 i hi)⟩

/-- Reads first, in whatever order, then a tail that can come in one order only. -/
theorem wpIn_still_tail {id : Nat} {a : Act} {w : World} {ops : List Oper} (k : Nat) (hm : P.follows .mixedOrders = true) (hd : noDefer ops.toArray = true) (hB : Region.lexTailB .any ops.toArray k = true)
    (h : wpStill P ops.toArray w.drew (fun a' => wpList P ops.toArray (onlyN K) (ops.drop k) a' w.drew) (ops.take k) a) : (Code.region id ops.toArray true).wpIn (Fence.wide.inRound l) n P (onlyN K) a w := by
  simp only [Region.lexTailB, Bool.and_eq_true, decide_eq_true_eq] at hB
  obtain ⟨⟨⟨⟨b1, b2⟩, b3⟩, b4⟩, b5⟩ := hB
  have hk : k < ops.length := by simpa using b2
  have e1 : (ops.take k).length = k := by rw [List.length_take]; omega
  have e2 : (ops.drop k).length = ops.toArray.size - k := by simp
  have inv : HeadInv .any ops.toArray k (Array.replicate ops.toArray.size false) := {
    size := Array.size_replicate
    closed := fun j _ _ hl => by rw [getD_replicate_false] at hl; cases hl
    tail := fun t _ ht => getD_in (by rw [Array.size_replicate]; exact ht) (getD_replicate_false _ _) }
  have head := wpAnyL_lex (P := P) (md := .any) (g := ops.toArray.size - k) b1 b3 b4 b2 (ops.take k) 0 _ a (fun j hj => by rw [e1] at hj; simp [hj]) (by rw [e1, Nat.zero_add]) inv (by rw [e1]; exact b5) h
  have all := wpAny_of_head (Q' := onlyN K) (g := ops.toArray.size - k) (fun listed a' hL => by
    have := wpAny_of_seq (P := P) (md := .any) (Q' := onlyN K) (ops.drop k) k listed a' w.drew (fun j => by simp [List.getElem?_drop]) (by rw [e2]; exact hL.1) hL.2
    rwa [e2] at this) _ _ _ head
  rw [e1, Nat.add_sub_cancel' (Nat.le_of_lt b2)] at all
  exact wpIn_region_any hm (wpAny_round hd _ _ _ _ all)
end

end Go.Proofs.Ytafdbibjcohdbaa
