/-
  chart.Walk hands back its iterator; a plain call inside a round of a loop over a function.
-/
import Derived.Test.YtafdbibjcohdbaaE
namespace Go.Proofs.Ytafdbibjcohdbaa
open Go.RowKit

theorem walk_any (N : Int) (w : World) :
    Calls Try.prog 9 #[.int .i64 N] w fun e w' => e = .returned (.func (.func 20) #[] #[.pointer (some ⟨w.heap.size, 0, none⟩)]) ∧ w' = w.alloc (.cells #[.int .i64 N] 3) := by
  go_enter Try.func9, Try.ntmps9
  go_wp2
  go_ret
  exact ⟨rfl, rfl⟩

theorem room_wideR (l k : Nat) : (Fence.wide.inRound l).room k := room_wide k

theorem comesIn_wideR {P : Program} {m m' : Machine} {e : Ending} (l : Nat) (h : Comes P m m' e) : ComesIn (Machine.fenced P (Fence.wide.inRound l)) P m m' e := by
  have := comesIn_wide.2 h
  exact this

theorem callsIn_round {l n : Nat} {P : Program} {f : FuncId} {args : Array Value} {w : World} {R : Ending → World → Prop} (h : Calls P f args w R) : CallsIn (Fence.wide.inRound l) n P f args w R :=
  ⟨trivial, fun cs _ => let ⟨e, w', fr, r, s, x⟩ := h cs; ⟨e, w', fr, r, comesIn_wideR l s, x⟩⟩

end Go.Proofs.Ytafdbibjcohdbaa
