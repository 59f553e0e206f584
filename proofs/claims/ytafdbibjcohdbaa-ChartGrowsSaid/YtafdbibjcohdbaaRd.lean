/-
  The reference's Spot, Number and Draw, out of their printed functions, in plain numbers.
-/
import Derived.Test.YtafdbibjcohdbaaPChartDrawsx2
import Derived.Test.YtafdbibjcohdbaaQ
namespace Go.Proofs.Ytafdbibjcohdbaa.PChartDraws
open Go.RowKit Go.Proofs.YtafdbibjcohdbaaW.PrintWords Go.Proofs.YtafdbibjcohdbaaW.PrintLast Go.Proofs.YtafdbibjcohdbaaW.PrintMore Go.Proofs.Ytafdbibjcohdbaa

theorem wsm {a : Int} (h1 : -9223372036854775808 ≤ a) (h2 : a ≤ 9223372036854775807) : wrap64 a = a := by unfold wrap64; omega
theorem un_mul {dx dy : Int} (hU : Un dx dy) (s : Nat) : -(s : Int) ≤ s * dx ∧ s * dx ≤ s ∧ -(s : Int) ≤ s * dy ∧ s * dy ≤ s ∧ -1 ≤ dy ∧ dy ≤ 1 := by
  rcases hU with ⟨rfl, rfl⟩ | ⟨rfl, rfl⟩ | ⟨rfl, rfl⟩ | ⟨rfl, rfl⟩ <;> refine ⟨?_, ?_, ?_, ?_, ?_, ?_⟩ <;> omega
theorem half_of (l : Nat) (hl : l ≤ 8192) : wrap64 ((wrap64 (Int.tdiv (l : Int) 2)) + 1) = ((l / 2 + 1 : Nat) : Int) := by
  have e : Int.tdiv (l : Int) 2 = ((l / 2 : Nat) : Int) := by rw [Int.tdiv_eq_ediv_of_nonneg (by omega)]; omega
  rw [e, wsm (a := ((l / 2 : Nat) : Int)) (by omega) (by omega), wsm (by omega) (by omega)]
  omega

theorem spot_ev_l (m : Nat) : ∀ (x y dx dy : Int) (l : Nat), (m : Int) + l ≤ 8192 → -16384 + m ≤ x → x ≤ 16384 - m → -16384 + m ≤ y → y ≤ 16384 - m → Un dx dy →
    Ev (fun k => hamperref26_Spot.l0 k m x y dx dy l) (spotL x y dx dy l m) := by
  induction m using Nat.strongRecOn with
  | _ m ih =>
    intro x y dx dy l hml b1 b2 b3 b4 hU
    have hs := half_of l (by omega)
    by_cases h : m ≤ l / 2 + 1
    · obtain ⟨p1, p2, p3, p4, _, _⟩ := un_mul hU m
      refine Ev.step (f := fun _ => some (spotL x y dx dy l m)) (fun k => ?_) (Ev.now _)
      show hamperref26_Spot.l0 (k + 1) m x y dx dy l = _
      simp only [hamperref26_Spot.l0]
      rw [hs, if_pos (by omega), spotL_near h]
      clear hs
      generalize (m : Int) * dx = X at *
      generalize (m : Int) * dy = Y at *
      rw [wsm (a := X) (by omega) (by omega), wsm (a := Y) (by omega) (by omega), wsm (a := x + X) (by omega) (by omega), wsm (a := y + Y) (by omega) (by omega)]
    · obtain ⟨s, hsv⟩ : ∃ s, l / 2 + 1 = s := ⟨_, rfl⟩
      obtain ⟨p1, p2, p3, p4, p5, p6⟩ := un_mul hU s
      have hfar : spotL x y dx dy l m = spotL (x + s * dx) (y + s * dy) (-dy) dx (l + 1) (m - s) := by
        have := spotL_far (x := x) (y := y) (dx := dx) (dy := dy) (l := l) (n := m) (by omega)
        rw [this, hsv]
      rw [hsv] at hs h
      rw [hfar]
      have hs1 : 1 ≤ s := by omega
      have hsl : s ≤ 4097 := by omega
      refine Ev.step (f := fun k => hamperref26_Spot.l0 k ((m - s : Nat) : Int) (x + s * dx) (y + s * dy) (-dy) dx ((l + 1 : Nat) : Int)) (fun k => ?_) (ih (m - s) (by omega) (x + s * dx) (y + s * dy) (-dy) dx (l + 1) (by omega) (by omega) (by omega) (by omega) (by omega) hU.turn)
      show hamperref26_Spot.l0 (k + 1) m x y dx dy l = _
      simp only [hamperref26_Spot.l0]
      rw [hs, if_neg (by omega)]
      clear hs hfar hsv
      have hms : ((m - s : Nat) : Int) = m - s := by omega
      have hl1 : ((l + 1 : Nat) : Int) = l + 1 := by omega
      rw [hms, hl1]
      generalize (s : Int) * dx = X at *
      generalize (s : Int) * dy = Y at *
      rw [wsm (a := X) (by omega) (by omega), wsm (a := Y) (by omega) (by omega), wsm (a := x + X) (by omega) (by omega), wsm (a := y + Y) (by omega) (by omega), wsm (a := (m : Int) - s) (by omega) (by omega), wsm (a := -dy) (by omega) (by omega),
        wsm (a := (l : Int) + 1) (by omega) (by omega)]

theorem spot_ev (m : Nat) (hm : m ≤ 8192) : Ev (fun k => hamperref26_Spot.f k m) (spot m) :=
  spot_ev_l m 0 0 1 0 0 (by omega) (by omega) (by omega) (by omega) (by omega) (.inl ⟨rfl, rfl⟩)

theorem num_ev (x y : Int) (hx : -8192 ≤ x ∧ x ≤ 8192) (hy : -8192 ≤ y ∧ y ≤ 8192) : Ev (fun k => hamperref26_Number.f k x y) (numF x y) := by
  have hb := kOf_bd x y
  obtain ⟨k, hk⟩ : ∃ k, kOf x y = k := ⟨_, rfl⟩
  rw [hk] at hb
  have last : Ev (fun j => hamperref26_Number.j2 j x y k) (numF x y) := by
    refine Ev.step (f := fun _ => some (numF x y)) (fun j => ?_) (Ev.now _)
    simp only [hamperref26_Number.j2]
    have q1 : 0 ≤ 4 * k * (k + 1) ∧ 4 * k * (k + 1) ≤ 32768 * 8193 := ⟨Int.mul_nonneg (by omega) (by omega), Int.mul_le_mul (by omega) (by omega) (by omega) (by omega)⟩
    unfold numF
    rw [hk]
    rw [wsm (a := -k) (by omega) (by omega), wsm (a := 4 * k) (by omega) (by omega), wsm (a := k + 1) (by omega) (by omega)]
    generalize 4 * k * (k + 1) = Z at *
    rw [wsm (a := Z) (by omega) (by omega), wsm (a := k - x) (by omega) (by omega), wsm (a := 2 * k) (by omega) (by omega), wsm (a := y + k) (by omega) (by omega), wsm (a := x + k) (by omega) (by omega), wsm (a := 6 * k) (by omega) (by omega), wsm (a := k - y) (by omega) (by omega),
      wsm (a := Z - (k - x)) (by omega) (by omega), wsm (a := Z - 2 * k) (by omega) (by omega), wsm (a := Z - 2 * k - (y + k)) (by omega) (by omega), wsm (a := Z - 4 * k) (by omega) (by omega), wsm (a := Z - 4 * k - (x + k)) (by omega) (by omega),
      wsm (a := Z - 6 * k) (by omega) (by omega), wsm (a := Z - 6 * k - (k - y)) (by omega) (by omega)]
    split
    · rfl
    · split
      · rfl
      · split <;> rfl
  have s1 : ∀ a : Int, a = max (max x (-x)) y → Ev (fun j => hamperref26_Number.j1 j x y a) (numF x y) := fun a ha => by
    refine Ev.step (f := fun j => hamperref26_Number.j2 j x y k) (fun j => ?_) last
    simp only [hamperref26_Number.j1]
    rw [wsm (a := -y) (by omega) (by omega)]
    split
    · rw [show -y = k by omega]
    · rw [show a = k by omega]
  have s0 : ∀ a : Int, a = max x (-x) → Ev (fun j => hamperref26_Number.j0 j x y a) (numF x y) := fun a ha => by
    refine Ev.step (f := fun j => hamperref26_Number.j1 j x y (max a y)) (fun j => ?_) (s1 _ (by omega))
    simp only [hamperref26_Number.j0]
    split
    · rw [show max a y = y by omega]
    · rw [show max a y = a by omega]
  refine Ev.congr (f := fun j => hamperref26_Number.j0 j x y (max x (-x))) (fun j => ?_) (s0 _ rfl)
  simp only [hamperref26_Number.f]
  rw [wsm (a := -x) (by omega) (by omega)]
  split
  · rw [show max x (-x) = -x by omega]
  · rw [show max x (-x) = x by omega]

end Go.Proofs.Ytafdbibjcohdbaa.PChartDraws
