/-
  route.Base, route.Read, and the document's Parent, Base, Read.
-/
import Derived.Test.YtlpgkkaeojnndaaDoorPA
import Derived.Test.YtlpgkkaeojnndaaDoorPRouteTellsx3
import Derived.RangeFuncFrom
namespace Go.Proofs.YtlpgkkaeojnndaaDoor
open Go.RowKit Go.Proofs.YtlpgkkaeojnndaaDoorW.PrintWords Go.Proofs.YtlpgkkaeojnndaaDoorW.PrintLast Go.Proofs.YtlpgkkaeojnndaaDoorW.PrintMore Go.Proofs.YtlpgkkaeojnndaaDoor.PRouteTells

attribute [local go_sem] Oper.semAt_some strE

/-- The last of some texts. -/
def lastB (l : List ByteArray) : ByteArray := l.getLast?.getD ⟨#[]⟩
theorem lastB_snoc (l : List ByteArray) (x : ByteArray) : lastB (l ++ [x]) = x := by unfold lastB; simp

/-- The document's Base. -/
theorem rbase_any (s : ByteArray) (w : World) : Calls Tryd.prog 22 #[.string s] w fun e w' => e = .returned (.string (lastB (namesB s))) ∧ Below w.heap.size w w' := by
  refine hamperref17_Base.calls 5000 s (lastB (namesB s)) w ?_
  unfold hamperref17_Base.f
  rw [rnames_f s, Option.bind_some]
  have hlen : (namesB s).length ≤ 4294967296 := by
    unfold namesB
    split
    · rename_i h; exact pieces_bd s (by have := valid_size h; omega)
    · simp
  by_cases h : (namesB s) = []
  · rw [h]
    rfl
  · obtain ⟨l, x, e⟩ : ∃ l x, namesB s = l ++ [x] := ⟨(namesB s).dropLast, (namesB s).getLast h, (List.dropLast_concat_getLast h).symm⟩
    rw [e] at hlen ⊢
    rw [lastB_snoc]
    rw [List.length_append, List.length_singleton] at hlen ⊢
    have hw : wrap64 (((l.length + 1 : Nat) : Int) - 1) = (l.length : Int) := by unfold wrap64; omega
    rw [if_neg (by omega), hw, if_pos (by omega), if_pos (by omega), rd_at (x := x) (by simp)]

set_option maxRecDepth 100000 in
set_option maxHeartbeats 4000000 in
theorem base_in (s : ByteArray) (hs : s.size ≤ 9223372036854775807) (w : World) :
    CallsIn Fence.wide 10 Tryd.prog 21 #[.string s] w fun e w' => e = .returned (.string (lastB (namesB s))) ∧ Below w.heap.size w w' := by
  refine callsIn_of_wp_marks Tryd.func21 rfl trivial ?_ rfl
  simp only [Tryd.ntmps21, List.size_toArray, List.length_cons, List.length_nil, Nat.reduceAdd, Nat.reduceSub, Array.replicate_succ, Array.replicate_zero, List.push_toArray, List.append_toArray, List.nil_append, List.cons_append]
  have hN := fun W => names_of s hs W
  gi_wp2_with (gi_at_call 15; refine callsIn_wide.2 ((hN _).mono ?_); rintro e w1 ⟨gf, lb, rfl, hb, hg⟩; have hb1 := Lib.hid hb; have hg1 := Lib.hid hg; clear hb hg)
  obtain ⟨H, hH⟩ : ∃ H, w.heap.size = H := ⟨_, rfl⟩
  rw [World.size_alloc, hH] at hg1
  have hBl : Below w.heap.size w w1 := ((Below.refl _ w).alloc (Nat.le_refl _) _).trans (hb1.out.mono (by simp))
  have c0 : w1.cell? ⟨H, 0, none⟩ = some (.string ⟨#[]⟩) := (hb1.out.cell (p := ⟨H, 0, none⟩) (by simp [hH])).trans (by rw [← hH]; go_simp)
  have f0 : w1.frozen? ⟨H, 0, none⟩ = false := (hb1.out.frozen (p := ⟨H, 0, none⟩) (by simp [hH])).trans (by rw [← hH]; go_simp)
  rw [hH] at hBl ⊢
  replace hBl := Lib.hid hBl
  refine wpIn_rangeFunc_ownF rfl (by omega) (gf := gf) (lb := lb) rfl trivial hg1.out.1 (hg1.out.2 9) KpR.t (KpR.b (Nat.le_refl _)) (Below.refl _ _) (fun _ => rfl)
    (fun pre W => (W.cell? ⟨H, 0, none⟩ = some (.string (lastB pre)) ∧ W.frozen? ⟨H, 0, none⟩ = false) ∧ Below H w W)
    (fun _ _ _ => False)
    (OwnFrom.and (Own.from (fun s A B row hs hg hr => ⟨cell_kept hs.1 hg hr, (frozen_kept hs.1 hg hr).trans hs.2⟩) _) (ownFrom_below (by omega) (by have := hBl.out.size; omega)))
    (fun _ _ _ _ _ hs _ _ => hs) ⟨⟨c0, f0⟩, hBl.out⟩ ?a1 ?assign ?body ?done ?stop
  case assign =>
    intro l x W K hK
    gi_wp2
    exact hK
  case body =>
    rintro l pre x W ⟨⟨c, f⟩, hB⟩ _
    clear c0 f0
    gi_wp2
    exact ⟨KeepsOthers.setCell _ _ _, fun b h1 _ => Below.heap_setCell _ _ _ b (by simp; omega), ⟨by rw [lastB_snoc]; exact World.cell?_setCell_same' _ _ _ (by rw [c]; rfl), by rw [World.frozen?_setCell]; exact f⟩, hB.setCell (p := ⟨H, 0, none⟩) (Nat.le_refl _) _⟩
  case done =>
    rintro D xs W hD rfl ⟨⟨c, f⟩, hB⟩ hK
    clear c0 f0
    have hK' := Lib.hid hK
    clear hK
    gi_wp2
    refine ⟨by simp, .inl ⟨_, _, rfl, run_takeDeferred hK'.out, ?_⟩⟩
    exact ⟨_, results_tmp rfl _ _ _, rfl, by rw [hH]; exact hB.trans (belowK_b (w := w) (by omega) W D _ _ (by have := hBl.out.size; omega) hK'.out rfl rfl)⟩
  case stop =>
    rintro D c pre W _ _ h _
    exact h.elim

/-- route.Base. -/
theorem base_any (s : ByteArray) (hs : s.size ≤ 9223372036854775807) (w : World) : Calls Tryd.prog 21 #[.string s] w fun e w' => e = .returned (.string (lastB (namesB s))) ∧ Below w.heap.size w w' :=
  callsIn_wide.1 (base_in s hs w)

end Go.Proofs.YtlpgkkaeojnndaaDoor
