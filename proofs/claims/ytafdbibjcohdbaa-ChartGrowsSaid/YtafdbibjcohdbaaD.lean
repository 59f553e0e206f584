/-
  The walk along the spiral: its state at the k-th place, and complex steps inside a fence.
-/
import Derived.Test.YtafdbibjcohdbaaA
import Derived.TacticsIn
namespace Go.Proofs.Ytafdbibjcohdbaa

/-- Where the walk stands at place k: so many steps are left of the leg. -/
structure WalkAt (k : Nat) (x y dx dy : Int) (left l : Nat) : Prop where
  un : Un dx dy
  pos : 1 ≤ left
  near : ∀ t : Nat, t ≤ left → spot (k + t) = (x + t * dx, y + t * dy)
  far : ∀ t : Nat, spot (k + left + t) = spotL (x + left * dx) (y + left * dy) (-dy) dx (l + 1) t
  leg : l ≤ k
  lim : left ≤ l / 2 + 1
  bx : -(k : Int) ≤ x ∧ x ≤ k
  byy : -(k : Int) ≤ y ∧ y ≤ k

theorem WalkAt.here {k : Nat} {x y dx dy : Int} {left l : Nat} (h : WalkAt k x y dx dy left l) : spot k = (x, y) := by
  have := h.near 0 (Nat.zero_le _)
  simpa using this

theorem WalkAt.start : WalkAt 0 0 0 1 0 1 0 where
  un := .inl ⟨rfl, rfl⟩
  pos := Nat.le_refl _
  near := fun t ht => by
    rw [Nat.zero_add]
    exact spotL_near (by omega)
  far := fun t => by
    by_cases h : t = 0
    · subst h
      rw [spotL_zero]
      exact spotL_near (by omega)
    · have := spotL_far (x := 0) (y := 0) (dx := 1) (dy := 0) (l := 0) (n := 0 + 1 + t) (by omega)
      rw [show 0 + 1 + t - (0 / 2 + 1) = t by omega] at this
      exact this
  leg := Nat.le_refl _
  lim := by omega
  bx := by omega
  byy := by omega

theorem WalkAt.next {k : Nat} {x y dx dy : Int} {left l : Nat} (h : WalkAt k x y dx dy (left + 1) l) (hl : 1 ≤ left) : WalkAt (k + 1) (x + dx) (y + dy) dx dy left l where
  un := h.un
  lim := by have := h.lim; omega
  pos := hl
  near := fun t ht => by
    have := h.near (t + 1) (by omega)
    rw [show k + 1 + t = k + (t + 1) by omega, this]
    rcases h.un with ⟨rfl, rfl⟩ | ⟨rfl, rfl⟩ | ⟨rfl, rfl⟩ | ⟨rfl, rfl⟩ <;> simp <;> omega
  far := fun t => by
    have := h.far t
    rw [show k + 1 + left + t = k + (left + 1) + t by omega, this]
    congr 1
    · rcases h.un with ⟨rfl, rfl⟩ | ⟨rfl, rfl⟩ | ⟨rfl, rfl⟩ | ⟨rfl, rfl⟩ <;> simp <;> omega
    · rcases h.un with ⟨rfl, rfl⟩ | ⟨rfl, rfl⟩ | ⟨rfl, rfl⟩ | ⟨rfl, rfl⟩ <;> simp <;> omega
  leg := by have := h.leg; omega
  bx := by have := h.bx; rcases h.un with ⟨rfl, rfl⟩ | ⟨rfl, rfl⟩ | ⟨rfl, rfl⟩ | ⟨rfl, rfl⟩ <;> omega
  byy := by have := h.byy; rcases h.un with ⟨rfl, rfl⟩ | ⟨rfl, rfl⟩ | ⟨rfl, rfl⟩ | ⟨rfl, rfl⟩ <;> omega

theorem WalkAt.turn {k : Nat} {x y dx dy : Int} {l : Nat} (h : WalkAt k x y dx dy 1 l) : WalkAt (k + 1) (x + dx) (y + dy) (-dy) dx ((l + 1) / 2 + 1) (l + 1) where
  un := h.un.turn
  lim := Nat.le_refl _
  pos := by omega
  near := fun t ht => by
    have := h.far t
    rw [this, spotL_near ht]
    simp
  far := fun t => by
    have := h.far ((l + 1) / 2 + 1 + t)
    rw [show k + 1 + ((l + 1) / 2 + 1) + t = k + 1 + ((l + 1) / 2 + 1 + t) by omega, this]
    by_cases h0 : t = 0
    · subst h0
      rw [spotL_zero, spotL_near (by omega)]
      simp
    · rw [spotL_far (by omega), show (l + 1) / 2 + 1 + t - ((l + 1) / 2 + 1) = t by omega]
      simp
  leg := by have := h.leg; omega
  bx := by have := h.bx; rcases h.un with ⟨rfl, rfl⟩ | ⟨rfl, rfl⟩ | ⟨rfl, rfl⟩ | ⟨rfl, rfl⟩ <;> omega
  byy := by have := h.byy; rcases h.un with ⟨rfl, rfl⟩ | ⟨rfl, rfl⟩ | ⟨rfl, rfl⟩ | ⟨rfl, rfl⟩ <;> omega

section steps
variable {F : Fence} {n : Nat} {P : Program} {ops : Array Oper} {rest : List Oper} {o : Oper} {A : Act} {w : World} {Q : Exit → Act → World → Prop} {p q p' q' : Nat} {x y u v : Int}

theorem wpListIn_done {w' : World} (hg : o.guard = none) (hd : ∀ c, o.op ≠ .defer c) (ha : o.about P w A.eval = none) (val : Value)
    (hr : (execOp A.eval o).run P w = .ok (.value val) w') (h : wpListIn F n P ops Q rest (A.put o.dst val) w') : wpListIn F n P ops Q (o :: rest) A w := by
  refine wpListIn_plain hg fun K hK => ?_
  unfold Oper.wpIn
  refine ⟨fun f hf => (by rw [ha] at hf; cases hf), ?_⟩
  have e : (o.semAt F.round A.eval) = execOp A.eval o := by
    cases hro : F.round with
    | none => rfl
    | some l => exact Oper.semAt_some l _ _ hd
  rw [e, hr]
  exact hK _ _ h

theorem wpListIn_cadd (t t' : TypeId) (X Y : Operand) (ho : o.op = .binOp .add t X Y t') (hg : o.guard = none) (hx : A.eval X = .complex .f64 p q) (hy : A.eval Y = .complex .f64 p' q')
    (h1 : CI p q x y) (h2 : CI p' q' u v) (sx : Sm x) (sy : Sm y) (su : Sm u) (sv : Sm v)
    (h : ∀ re im, CI re im (x + u) (y + v) → wpListIn F n P ops Q rest (A.put o.dst (.complex .f64 re im)) w) : wpListIn F n P ops Q (o :: rest) A w := by
  obtain ⟨re, im, hb, hc⟩ := cadd h1 h2 sx sy su sv
  exact wpListIn_done hg (fun c e => by rw [ho] at e; cases e) (by unfold Oper.about; rw [ho]) _ (exec_binop ho hx hy (guard_add _ _ _ _ _) (run_complex_sum w .add (.inl rfl) t .f64 p q p' q' re im hb)) (h re im hc)

theorem wpListIn_cmul (t t' : TypeId) (X Y : Operand) (ho : o.op = .binOp .mul t X Y t') (hg : o.guard = none) (hx : A.eval X = .complex .f64 p q) (hy : A.eval Y = .complex .f64 p' q')
    (h1 : CI p q x y) (h2 : CI p' q' u v) (sx : Sm x) (sy : Sm y) (su : Sm u) (sv : Sm v)
    (h : ∀ re im, CI re im (x * u - y * v) (x * v + y * u) → wpListIn F n P ops Q rest (A.put o.dst (.complex .f64 re im)) w) : wpListIn F n P ops Q (o :: rest) A w := by
  obtain ⟨re, im, hb, hc⟩ := cmul h1 h2 sx sy su sv
  exact wpListIn_done hg (fun c e => by rw [ho] at e; cases e) (by unfold Oper.about; rw [ho]) _ (exec_binop ho hx hy (guard_mul _ _ _ _ _) (run_complex_mul w t p q p' q' re im hb)) (h re im hc)
end steps

end Go.Proofs.Ytafdbibjcohdbaa
