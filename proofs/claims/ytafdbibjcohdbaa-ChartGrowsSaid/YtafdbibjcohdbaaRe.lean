/-
  The reference's Draw makes the picture.
-/
import Derived.Test.YtafdbibjcohdbaaRd
namespace Go.Proofs.Ytafdbibjcohdbaa.PChartDraws
open Go.RowKit Go.Proofs.YtafdbibjcohdbaaW.PrintWords Go.Proofs.YtafdbibjcohdbaaW.PrintLast Go.Proofs.YtafdbibjcohdbaaW.PrintMore Go.Proofs.Ytafdbibjcohdbaa

theorem letters_cons {l : List Int} {i : Nat} {a : Int} (h : l[i]? = some a) : lettersFrom i (l.drop i) = List.replicate a.toNat (97 + i % 26).toUInt8 ++ lettersFrom (i + 1) (l.drop (i + 1)) := by
  rw [drop_cons_l h, lettersFrom]
theorem letters_end {l : List Int} {i : Nat} (h : l.length ≤ i) : lettersFrom i (l.drop i) = [] := by rw [List.drop_of_length_le h]; rfl

theorem rd_at {l : List Int} {i : Nat} {a : Int} (h : l[i]? = some a) : rd l (i : Int) = a := by
  unfold rd
  rw [Int.toNat_natCast, List.getD_eq_getElem?_getD, h]
  rfl

theorem letter_num (i : Nat) (hi : i ≤ 70000) : (wrap64 (97 + (Int.tmod (i : Int) 26))) % 256 = (((97 + i % 26).toUInt8.toNat : Nat) : Int) := by
  have e : Int.tmod (i : Int) 26 = ((i % 26 : Nat) : Int) := by rw [Int.tmod_eq_emod_of_nonneg (by omega)]; omega
  rw [e, wsm (by omega) (by omega)]
  have : (97 + i % 26).toUInt8.toNat = 97 + i % 26 := by
    show (97 + i % 26) % 256 = _
    omega
  rw [this]
  omega

theorem l4_ev {l : List Int} (hneg : anyNeg l = false) (hl : l.length ≤ 65536) (n lx hx ly : Int) (out : List Int) (ho : out.length < 140737488355328) (y x : Int) (hx0 : -8192 ≤ x ∧ x ≤ 8192) (r : ByteArray × Int) (d : Nat) :
    ∀ (i t : Nat), l.length - i = d → t ≤ 4096 → t < (lettersFrom i (l.drop i)).length →
    Ev (fun k => hamperref26_Draw.l3 k l n lx hx ly (out ++ [(((lettersFrom i (l.drop i)).getD t 0).toNat : Int)]) y (x + 1)) r →
    Ev (fun k => hamperref26_Draw.l4 k l n lx hx ly out y x t i) r := by
  induction d with
  | zero =>
    intro i t hd _ ht _
    rw [letters_end (by omega)] at ht
    exact absurd ht (Nat.not_lt_zero _)
  | succ d ih =>
    intro i t hd h4 ht hev
    have hi : i < l.length := by omega
    obtain ⟨a, ha⟩ : ∃ a, l[i]? = some a := ⟨l[i]'hi, List.getElem?_eq_getElem _⟩
    have ha0 : 0 ≤ a := anyNeg_at hneg (List.mem_of_getElem? ha)
    have hr := rd_at ha
    rw [letters_cons ha] at ht hev
    by_cases hta : a ≤ (t : Int)
    · have e1 : (List.replicate a.toNat (97 + i % 26).toUInt8 ++ lettersFrom (i + 1) (l.drop (i + 1))).getD t 0 = (lettersFrom (i + 1) (l.drop (i + 1))).getD (t - a.toNat) 0 := by
        rw [List.getD_eq_getElem?_getD, List.getElem?_append_right (by rw [List.length_replicate]; omega), List.length_replicate, ← List.getD_eq_getElem?_getD]
      rw [e1] at hev
      rw [List.length_append, List.length_replicate] at ht
      refine Ev.step (f := fun k => hamperref26_Draw.l4 k l n lx hx ly out y x ((t - a.toNat : Nat) : Int) ((i + 1 : Nat) : Int)) (fun k => ?_) (ih (i + 1) (t - a.toNat) (by omega) (by omega) (by omega) hev)
      simp only [hamperref26_Draw.l4]
      rw [if_pos (by omega), if_pos (by omega), hr, if_pos hta]
      have e2 : ((t - a.toNat : Nat) : Int) = t - a := by omega
      have e3 : ((i + 1 : Nat) : Int) = i + 1 := by omega
      rw [e2, e3, wsm (a := (t : Int) - a) (by omega) (by omega), wsm (a := (i : Int) + 1) (by omega) (by omega)]
    · have e1 : (List.replicate a.toNat (97 + i % 26).toUInt8 ++ lettersFrom (i + 1) (l.drop (i + 1))).getD t 0 = (97 + i % 26).toUInt8 := by
        rw [List.getD_eq_getElem?_getD, List.getElem?_append_left (by rw [List.length_replicate]; omega), List.getElem?_replicate, if_pos (by omega)]
        rfl
      rw [e1] at hev
      refine Ev.step (f := fun k => hamperref26_Draw.l3 k l n lx hx ly (out ++ [(((97 + i % 26).toUInt8.toNat : Nat) : Int)]) y (x + 1)) (fun k => ?_) hev
      simp only [hamperref26_Draw.l4]
      rw [if_pos (by omega), if_pos (by omega), hr, if_neg hta, if_pos ho, letter_num i (by omega), wsm (a := x + 1) (by omega) (by omega)]

/-- The picture's first p bytes, as numbers. -/
def preB (L : List UInt8) (n p : Nat) : List Int := ((layB L n n).take p).map fun b => (b.toNat : Int)
theorem preB_len (L : List UInt8) {n p : Nat} (hn : n ≤ 4096) : (preB L n p).length < 140737488355328 := by
  have := pic_bd hn
  have h := layB_length L n n
  unfold preB
  rw [List.length_map, List.length_take]
  omega
theorem preB_snoc {L : List UInt8} {n p : Nat} {b : UInt8} (h : (layB L n n)[p]? = some b) : preB L n (p + 1) = preB L n p ++ [(b.toNat : Int)] := by
  obtain ⟨hp, rfl⟩ := List.getElem?_eq_some_iff.1 h
  unfold preB
  rw [List.take_succ_eq_append_getElem hp, List.map_append]
  rfl

section
variable {l : List Int} (hneg : anyNeg l = false) (hl : l.length ≤ 65536) {n : Nat} (hn : (lettersFrom 0 l).length = n) (hn4 : n ≤ 4096)
include hneg hl hn hn4

theorem l3_ev (r : Nat) (hr : r ≤ hei n) (R : ByteArray × Int)
    (hev : Ev (fun k => hamperref26_Draw.l2 k l n (low2 (places n)).1 (high2 (places n)).1 (low2 (places n)).2 (preB (lettersFrom 0 l) n ((r + 1) * (wid n + 2))) ((high2 (places n)).2 - r - 1)) R) (d : Nat) :
    ∀ c : Nat, c + d = wid n + 1 → Ev (fun k => hamperref26_Draw.l3 k l n (low2 (places n)).1 (high2 (places n)).1 (low2 (places n)).2 (preB (lettersFrom 0 l) n (r * (wid n + 2) + c)) ((high2 (places n)).2 - r) ((low2 (places n)).1 + c)) R := by
  have w1 := wid_eq n
  have w2 := wid_le n
  have h1 := hei_eq n
  have h2 := hei_le n
  have lo := low2_bd n
  have hi := high2_bd n
  have lo2 := low2_le n
  have hi2 := high2_ge n
  induction d with
  | zero =>
    intro c hc
    obtain rfl : c = wid n + 1 := by omega
    have hnl := pic_nl (lettersFrom 0 l) hr
    have hp := preB_snoc hnl
    rw [show r * (wid n + 2) + (wid n + 1) + 1 = (r + 1) * (wid n + 2) by rw [Nat.add_mul]; omega] at hp
    rw [hp] at hev
    refine Ev.step (f := fun k => hamperref26_Draw.l2 k l n (low2 (places n)).1 (high2 (places n)).1 (low2 (places n)).2 (preB (lettersFrom 0 l) n (r * (wid n + 2) + (wid n + 1)) ++ [((10 : UInt8).toNat : Int)]) ((high2 (places n)).2 - r - 1)) (fun k => ?_) hev
    simp only [hamperref26_Draw.l3]
    rw [if_neg (by omega), if_pos (preB_len _ hn4), wsm (a := (high2 (places n)).2 - r - 1) (by omega) (by omega)]
    rfl
  | succ d ih =>
    intro c hc
    have hcw : c ≤ wid n := by omega
    have hcell := pic_cell (lettersFrom 0 l) hr hcw _ _ rfl rfl
    obtain ⟨x, hx⟩ : ∃ x, (low2 (places n)).1 + (c : Int) = x := ⟨_, rfl⟩
    obtain ⟨y, hy⟩ : ∃ y, (high2 (places n)).2 - (r : Int) = y := ⟨_, rfl⟩
    have ihc := ih (c + 1) (by omega)
    rw [show ((low2 (places n)).1 + ((c + 1 : Nat) : Int)) = x + 1 by omega, show r * (wid n + 2) + (c + 1) = r * (wid n + 2) + c + 1 by omega] at ihc
    rw [hx, hy] at hcell
    rw [hy] at ihc
    rw [hx, hy]
    have hnum := num_ev x y ⟨by omega, by omega⟩ ⟨by omega, by omega⟩
    have h0 := numF_nonneg x y
    obtain ⟨t, ht⟩ : ∃ t, numF x y = t := ⟨_, rfl⟩
    rw [ht] at hcell hnum h0
    refine Ev.step (f := fun k => (hamperref26_Number.f k x y).bind fun t112 => (if t112 < (n : Int) then (hamperref26_Draw.l4 k l n (low2 (places n)).1 (high2 (places n)).1 (low2 (places n)).2 (preB (lettersFrom 0 l) n (r * (wid n + 2) + c)) y x t112 0) else (if (preB (lettersFrom 0 l) n (r * (wid n + 2) + c)).length < 140737488355328 then (hamperref26_Draw.l3 k l n (low2 (places n)).1 (high2 (places n)).1 (low2 (places n)).2 (preB (lettersFrom 0 l) n (r * (wid n + 2) + c) ++ [46]) y (wrap64 (x + 1))) else (none)))) (fun k => ?_) ?_
    · simp only [hamperref26_Draw.l3]
      rw [if_pos (by omega)]
    · refine Ev.bind hnum ?_
      by_cases htn : t < (n : Int)
      · rw [if_pos htn] at hcell
        rw [preB_snoc hcell] at ihc
        obtain ⟨tn, htt⟩ : ∃ tn : Nat, t = tn := ⟨t.toNat, by omega⟩
        subst htt
        rw [Int.toNat_natCast] at ihc
        refine Ev.congr (f := fun k => hamperref26_Draw.l4 k l n (low2 (places n)).1 (high2 (places n)).1 (low2 (places n)).2 (preB (lettersFrom 0 l) n (r * (wid n + 2) + c)) y x tn ((0 : Nat) : Int)) (fun k => if_pos htn) ?_
        refine l4_ev hneg hl n _ _ _ _ (preB_len _ hn4) y x ⟨by omega, by omega⟩ R l.length 0 tn (by omega) (by omega) ?_ ?_
        · rw [List.drop_zero, hn]; omega
        · rw [List.drop_zero]; exact ihc
      · rw [if_neg htn] at hcell
        rw [preB_snoc hcell] at ihc
        refine Ev.congr (f := fun k => hamperref26_Draw.l3 k l n (low2 (places n)).1 (high2 (places n)).1 (low2 (places n)).2 (preB (lettersFrom 0 l) n (r * (wid n + 2) + c) ++ [((46 : UInt8).toNat : Int)]) y (x + 1)) (fun k => ?_) ihc
        rw [if_neg htn, if_pos (preB_len _ hn4), wsm (a := x + 1) (by omega) (by omega)]
        rfl

theorem l2_ev (d : Nat) : ∀ r : Nat, r + d = hei n + 1 →
    Ev (fun k => hamperref26_Draw.l2 k l n (low2 (places n)).1 (high2 (places n)).1 (low2 (places n)).2 (preB (lettersFrom 0 l) n (r * (wid n + 2))) ((high2 (places n)).2 - r)) (⟨(layB (lettersFrom 0 l) n n).toArray⟩, 0) := by
  have h1 := hei_eq n
  induction d with
  | zero =>
    intro r hr
    obtain rfl : r = hei n + 1 := by omega
    refine Ev.step (f := fun _ => some (⟨(layB (lettersFrom 0 l) n n).toArray⟩, 0)) (fun k => ?_) (Ev.now _)
    simp only [hamperref26_Draw.l2]
    rw [if_neg (by omega)]
    have e : strOfNums (preB (lettersFrom 0 l) n ((hei n + 1) * (wid n + 2))) = ⟨(layB (lettersFrom 0 l) n n).toArray⟩ := by
      unfold strOfNums preB
      rw [List.take_of_length_le (by rw [layB_length]; exact Nat.le_refl _), List.map_map]
      congr 2
      have : ∀ b ∈ layB (lettersFrom 0 l) n n, ((fun m : Int => UInt8.ofNat m.toNat) ∘ fun b : UInt8 => (b.toNat : Int)) b = id b := fun b _ => by simp
      rw [List.map_congr_left this, List.map_id]
    rw [e]
  | succ d ih =>
    intro r hr
    have ihr := ih (r + 1) (by omega)
    rw [show ((high2 (places n)).2 - ((r + 1 : Nat) : Int)) = (high2 (places n)).2 - r - 1 by omega] at ihr
    have h3 := l3_ev hneg hl hn hn4 r (by omega) _ ihr (wid n + 1) 0 (by omega)
    refine Ev.step (f := fun k => hamperref26_Draw.l3 k l n (low2 (places n)).1 (high2 (places n)).1 (low2 (places n)).2 (preB (lettersFrom 0 l) n (r * (wid n + 2))) ((high2 (places n)).2 - r) ((low2 (places n)).1)) (fun k => ?_) ?_
    · simp only [hamperref26_Draw.l2]
      rw [if_pos (by omega)]
    · rw [show (low2 (places n)).1 + ((0 : Nat) : Int) = (low2 (places n)).1 by omega, Nat.add_zero] at h3
      exact h3

theorem l1_ev (d : Nat) : ∀ i : Nat, i + d = n →
    Ev (fun k => hamperref26_Draw.l1 k l n (low2 (places i)).1 (high2 (places i)).1 (low2 (places i)).2 (high2 (places i)).2 i) (⟨(drawB (lettersFrom 0 l)).toArray⟩, 0) := by
  induction d with
  | zero =>
    intro i hi
    obtain rfl : i = n := by omega
    by_cases h0 : i = 0
    · have hL : lettersFrom 0 l = [] := List.eq_nil_of_length_eq_zero (by omega)
      refine Ev.step (f := fun _ => some (⟨(drawB (lettersFrom 0 l)).toArray⟩, 0)) (fun k => ?_) (Ev.now _)
      simp only [hamperref26_Draw.l1]
      rw [if_neg (by omega), if_pos (by omega), hL]
      rfl
    · have hne : lettersFrom 0 l ≠ [] := fun e => by rw [e] at hn; exact h0 hn.symm
      have h2 := l2_ev hneg hl hn hn4 (hei i + 1) 0 (by omega)
      rw [drawB, if_neg hne, hn]
      refine Ev.step (f := fun k => hamperref26_Draw.l2 k l i (low2 (places i)).1 (high2 (places i)).1 (low2 (places i)).2 ([] : List Int) (high2 (places i)).2) (fun k => ?_) ?_
      · simp only [hamperref26_Draw.l1]
        rw [if_neg (by omega), if_neg (by omega)]
      · rw [show (high2 (places i)).2 - ((0 : Nat) : Int) = (high2 (places i)).2 by omega, Nat.zero_mul] at h2
        exact h2
  | succ d ih =>
    intro i hi
    have ihi := ih (i + 1) (by omega)
    rw [places_succ, low2_snoc, high2_snoc] at ihi
    obtain ⟨X, hX⟩ : ∃ X, (spot i).1 = X := ⟨_, rfl⟩
    obtain ⟨Y, hY⟩ : ∃ Y, (spot i).2 = Y := ⟨_, rfl⟩
    have hs := spot_ev i (by omega)
    rw [show spot i = (X, Y) from Prod.ext hX hY] at hs
    rw [hX, hY] at ihi
    simp only at ihi
    generalize (low2 (places i)).1 = lx at *
    generalize (low2 (places i)).2 = ly at *
    generalize (high2 (places i)).1 = hx at *
    generalize (high2 (places i)).2 = hy at *
    rw [show ((i + 1 : Nat) : Int) = (i : Int) + 1 by omega] at ihi
    have j3 : Ev (fun k => hamperref26_Draw.j3 k l n (min lx X) (max hx X) ly hy i Y) (⟨(drawB (lettersFrom 0 l)).toArray⟩, 0) := by
      refine Ev.step (f := fun k => hamperref26_Draw.l1 k l n (min lx X) (max hx X) (min ly Y) (max hy Y) ((i : Int) + 1)) (fun k => ?_) ihi
      simp only [hamperref26_Draw.j3]
      rw [wsm (a := (i : Int) + 1) (by omega) (by omega)]
      split <;> split <;> congr 1 <;> omega
    have j2 : Ev (fun k => hamperref26_Draw.j2 k l n (min lx X) hx ly hy i X Y) (⟨(drawB (lettersFrom 0 l)).toArray⟩, 0) := by
      refine Ev.step (f := fun k => hamperref26_Draw.j3 k l n (min lx X) (max hx X) ly hy i Y) (fun k => ?_) j3
      simp only [hamperref26_Draw.j2]
      split <;> congr 1 <;> omega
    refine Ev.step (f := fun k => (hamperref26_Spot.f k i).bind fun bt107 => (if bt107.1 < lx then (hamperref26_Draw.j2 k l n bt107.1 hx ly hy i bt107.1 bt107.2) else (hamperref26_Draw.j2 k l n lx hx ly hy i bt107.1 bt107.2))) (fun k => ?_) ?_
    · simp only [hamperref26_Draw.l1]
      rw [if_pos (by omega)]
    · refine Ev.bind hs ?_
      refine Ev.congr (f := fun k => hamperref26_Draw.j2 k l n (min lx X) hx ly hy i X Y) (fun k => ?_) j2
      simp only
      split <;> congr 1 <;> omega
end

theorem anyNeg_cons (a : Int) (t : List Int) : anyNeg (a :: t) = (decide (a < 0) || anyNeg t) := by simp [anyNeg]

theorem l0_big {l : List Int} (hl : l.length ≤ 17592186044416) (m : Int) (d : Nat) : ∀ i : Nat, 0 ≤ m → m ≤ 4096 → i + d = l.length →
    Ev (fun k => hamperref26_Draw.l0 k l m true i) (if anyNeg (l.drop i) = true then (⟨#[]⟩, 2) else (⟨#[]⟩, 3)) := by
  induction d generalizing m with
  | zero =>
    intro i _ _ hi
    rw [List.drop_of_length_le (by omega)]
    refine Ev.step (f := fun _ => some (⟨#[]⟩, 3)) (fun k => ?_) (Ev.now _)
    simp only [hamperref26_Draw.l0]
    rw [if_neg (by omega), if_pos trivial]
  | succ d ih =>
    intro i h0 h1 hi
    obtain ⟨a, ha⟩ : ∃ a, l[i]? = some a := ⟨l[i]'(by omega), List.getElem?_eq_getElem _⟩
    have hr := rd_at ha
    rw [drop_cons_l ha, anyNeg_cons]
    by_cases hneg : a < 0
    · rw [decide_eq_true hneg, Bool.true_or, if_pos rfl]
      refine Ev.step (f := fun _ => some (⟨#[]⟩, 2)) (fun k => ?_) (Ev.now _)
      simp only [hamperref26_Draw.l0]
      rw [if_pos (by omega), if_pos (by omega), hr, if_pos hneg]
    · rw [decide_eq_false hneg, Bool.false_or]
      by_cases hb : a > 4096 - m
      · refine Ev.step (f := fun k => hamperref26_Draw.l0 k l m true ((i + 1 : Nat) : Int)) (fun k => ?_) (ih m (i + 1) h0 h1 (by omega))
        simp only [hamperref26_Draw.l0]
        rw [if_pos (by omega), if_pos (by omega), hr, if_neg hneg, wsm (a := 4096 - m) (by omega) (by omega), if_pos hb, show ((i + 1 : Nat) : Int) = (i : Int) + 1 by omega, wsm (a := (i : Int) + 1) (by omega) (by omega)]
      · refine Ev.step (f := fun k => hamperref26_Draw.l0 k l (m + a) true ((i + 1 : Nat) : Int)) (fun k => ?_) (ih (m + a) (i + 1) (by omega) (by omega) (by omega))
        simp only [hamperref26_Draw.l0]
        rw [if_pos (by omega), if_pos (by omega), hr, if_neg hneg, wsm (a := 4096 - m) (by omega) (by omega), if_neg hb, show ((i + 1 : Nat) : Int) = (i : Int) + 1 by omega, wsm (a := (i : Int) + 1) (by omega) (by omega), wsm (a := m + a) (by omega) (by omega)]

theorem l0_small {l : List Int} (hl : l.length ≤ 65536) (m : Int) (d : Nat) : ∀ i : Nat, 0 ≤ m → m ≤ 4096 → i + d = l.length →
    (anyNeg (l.drop i) = false → over (4096 - m) (l.drop i) = false → anyNeg l = false ∧ m + (lettersFrom i (l.drop i)).length = (lettersFrom 0 l).length ∧ (lettersFrom 0 l).length ≤ 4096) →
    Ev (fun k => hamperref26_Draw.l0 k l m false i) (if anyNeg (l.drop i) = true then (⟨#[]⟩, 2) else if over (4096 - m) (l.drop i) = true then (⟨#[]⟩, 3) else (⟨(drawB (lettersFrom 0 l)).toArray⟩, 0)) := by
  induction d generalizing m with
  | zero =>
    intro i h0 h1 hi H
    rw [List.drop_of_length_le (by omega)] at H ⊢
    obtain ⟨H1, H2, H3⟩ := H rfl rfl
    have hm : m = ((lettersFrom 0 l).length : Nat) := by
      have : (lettersFrom i ([] : List Int)).length = 0 := rfl
      omega
    rw [if_neg (by simp [anyNeg]), if_neg (by simp [over])]
    have := l1_ev H1 hl rfl H3 (lettersFrom 0 l).length 0 (by omega)
    refine Ev.step (f := fun k => hamperref26_Draw.l1 k l m 0 0 0 0 0) (fun k => ?_) ?_
    · simp only [hamperref26_Draw.l0]
      rw [if_neg (by omega)]
      rfl
    · rw [hm]
      exact this
  | succ d ih =>
    intro i h0 h1 hi H
    obtain ⟨a, ha⟩ : ∃ a, l[i]? = some a := ⟨l[i]'(by omega), List.getElem?_eq_getElem _⟩
    have hr := rd_at ha
    rw [drop_cons_l ha, anyNeg_cons, over] at H ⊢
    by_cases hneg : a < 0
    · rw [decide_eq_true hneg, Bool.true_or, if_pos rfl]
      refine Ev.step (f := fun _ => some (⟨#[]⟩, 2)) (fun k => ?_) (Ev.now _)
      simp only [hamperref26_Draw.l0]
      rw [if_pos (by omega), if_pos (by omega), hr, if_pos hneg]
    · rw [decide_eq_false hneg, Bool.false_or] at H ⊢
      by_cases hb : a > 4096 - m
      · rw [if_pos hb, if_pos rfl]
        refine Ev.step (f := fun k => hamperref26_Draw.l0 k l m true ((i + 1 : Nat) : Int)) (fun k => ?_) (l0_big (by omega) m d (i + 1) h0 h1 (by omega))
        simp only [hamperref26_Draw.l0]
        rw [if_pos (by omega), if_pos (by omega), hr, if_neg hneg, wsm (a := 4096 - m) (by omega) (by omega), if_pos hb, show ((i + 1 : Nat) : Int) = (i : Int) + 1 by omega, wsm (a := (i : Int) + 1) (by omega) (by omega)]
      · rw [if_neg hb, show 4096 - m - a = 4096 - (m + a) by omega] at H ⊢
        refine Ev.step (f := fun k => hamperref26_Draw.l0 k l (m + a) false ((i + 1 : Nat) : Int)) (fun k => ?_) (ih (m + a) (i + 1) (by omega) (by omega) (by omega) ?_)
        · simp only [hamperref26_Draw.l0]
          rw [if_pos (by omega), if_pos (by omega), hr, if_neg hneg, wsm (a := 4096 - m) (by omega) (by omega), if_neg hb, show ((i + 1 : Nat) : Int) = (i : Int) + 1 by omega, wsm (a := (i : Int) + 1) (by omega) (by omega), wsm (a := m + a) (by omega) (by omega)]
        · intro g1 g2
          obtain ⟨H1, H2, H3⟩ := H g1 g2
          refine ⟨H1, ?_, H3⟩
          rw [lettersFrom, List.length_append, List.length_replicate] at H2
          omega

theorem draw_ref (l : List Int) (hl : l.length ≤ 17592186044416) : ∃ k, hamperref26_Draw.f k l = some (⟨(drawB (lettersB l)).toArray⟩, lettersE l) := by
  refine Ev.rounds (g := fun k => hamperref26_Draw.f k l) ?_
  by_cases hb : (l.length : Int) > 65536
  · have := l0_big hl 0 l.length 0 (by omega) (by omega) (by omega)
    rw [List.drop_zero] at this
    refine Ev.congr (f := fun k => hamperref26_Draw.l0 k l 0 true ((0 : Nat) : Int)) (fun k => ?_) ?_
    · simp only [hamperref26_Draw.f]
      rw [decide_eq_true hb]
      rfl
    · have e : (⟨(drawB (lettersB l)).toArray⟩, lettersE l) = (if anyNeg l = true then ((⟨#[]⟩ : ByteArray), (2 : Int)) else (⟨#[]⟩, 3)) := by
        unfold lettersB lettersE
        rw [if_pos hb]
        split <;> rfl
      rw [e]
      exact this
  · have := l0_small (l := l) (by omega) 0 l.length 0 (by omega) (by omega) (by omega) (fun g1 g2 => by
      rw [List.drop_zero] at g1 g2 ⊢
      have := lettersFrom_length_le l 0 4096 (by omega) g1 g2
      exact ⟨g1, by omega, by omega⟩)
    rw [List.drop_zero] at this
    refine Ev.congr (f := fun k => hamperref26_Draw.l0 k l 0 false ((0 : Nat) : Int)) (fun k => ?_) ?_
    · simp only [hamperref26_Draw.f]
      rw [decide_eq_false hb]
      rfl
    · have e : (⟨(drawB (lettersB l)).toArray⟩, lettersE l) = (if anyNeg l = true then ((⟨#[]⟩ : ByteArray), (2 : Int)) else if over (4096 - 0) l = true then (⟨#[]⟩, 3) else (⟨(drawB (lettersFrom 0 l)).toArray⟩, 0)) := by
        unfold lettersB lettersE
        rw [if_neg hb, Int.sub_zero]
        split
        · rfl
        · split <;> rfl
      rw [e]
      exact this

end Go.Proofs.Ytafdbibjcohdbaa.PChartDraws
