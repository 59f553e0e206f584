/-
  Complex numbers with whole parts: what the model's operations make of them is exact; and the same as steps of a walk.
-/
import Derived.Test.YtafdbibjcohdbaaFl
import Derived.Tactics
namespace Go.Proofs.Ytafdbibjcohdbaa

/-- The two words hold x and y. -/
def CI (p q : Nat) (x y : Int) : Prop := IsI p x ∧ IsI q y

/-- Not too great. -/
def Sm (x : Int) : Prop := -16777216 ≤ x ∧ x ≤ 16777216

theorem Sm.mul {x y : Int} (h1 : Sm x) (h2 : Sm y) : (x * y).natAbs ≤ 281474976710656 := by
  rw [Int.natAbs_mul]
  unfold Sm at *
  have k1 : x.natAbs ≤ 16777216 := by omega
  have k2 : y.natAbs ≤ 16777216 := by omega
  exact Nat.mul_le_mul k1 k2

section
variable {a b c d : Nat} {x y u v : Int}

theorem cadd (h1 : CI a b x y) (h2 : CI c d u v) (hx : Sm x) (hy : Sm y) (hu : Sm u) (hv : Sm v) : ∃ re im, cSumBits .add .f64 a b c d = some (re, im) ∧ CI re im (x + u) (y + v) := by
  unfold Sm at *
  obtain ⟨r, e1, k1⟩ := h1.1.add h2.1 (by omega)
  obtain ⟨r', e2, k2⟩ := h1.2.add h2.2 (by omega)
  exact ⟨r, r', by unfold cSumBits; rw [e1, e2]; rfl, k1, k2⟩

theorem csub (h1 : CI a b x y) (h2 : CI c d u v) (hx : Sm x) (hy : Sm y) (hu : Sm u) (hv : Sm v) : ∃ re im, cSumBits .sub .f64 a b c d = some (re, im) ∧ CI re im (x - u) (y - v) := by
  unfold Sm at *
  obtain ⟨r, e1, k1⟩ := h1.1.sub h2.1 (by omega)
  obtain ⟨r', e2, k2⟩ := h1.2.sub h2.2 (by omega)
  exact ⟨r, r', by unfold cSumBits; rw [e1, e2]; rfl, k1, k2⟩

theorem cmul (h1 : CI a b x y) (h2 : CI c d u v) (hx : Sm x) (hy : Sm y) (hu : Sm u) (hv : Sm v) : ∃ re im, cMulBits a b c d = some (re, im) ∧ CI re im (x * u - y * v) (x * v + y * u) := by
  have b1 := hx.mul hu
  have b2 := hy.mul hv
  have b3 := hx.mul hv
  have b4 := hy.mul hu
  obtain ⟨r1, e1, k1⟩ := h1.1.mul h2.1 (by omega)
  obtain ⟨r2, e2, k2⟩ := h1.2.mul h2.2 (by omega)
  obtain ⟨r3, e3, k3⟩ := k1.sub k2 (by omega)
  obtain ⟨r4, e4, k4⟩ := h1.1.mul h2.2 (by omega)
  obtain ⟨r5, e5, k5⟩ := h1.2.mul h2.1 (by omega)
  obtain ⟨r6, e6, k6⟩ := k4.add k5 (by omega)
  exact ⟨r3, r6, by unfold cMulBits; rw [e1, e2]; simp [e3, e4, e5, e6], k3, k6⟩

/-- One of the four units. -/
def Un (u v : Int) : Prop := (u = 1 ∧ v = 0) ∨ (u = 0 ∧ v = 1) ∨ (u = -1 ∧ v = 0) ∨ (u = 0 ∧ v = -1)

theorem cquo (h1 : CI a b x y) (h2 : CI c d u v) (hx : Sm x) (hy : Sm y) (hU : Un u v) : ∃ re im, cQuoBits a b c d = some (re, im) ∧ CI re im (x * u + y * v) (y * u - x * v) := by
  have hord := h2.1.abs.order h2.2.abs
  have hge : absGe c d = (compare ((u.natAbs : Int)) ((v.natAbs : Int)) == .gt || compare ((u.natAbs : Int)) ((v.natAbs : Int)) == .eq) := by
    unfold absGe
    rw [hord]
    rfl
  unfold Sm at *
  have hcase : (v = 0 ∧ (u = 1 ∨ u = -1)) ∨ (u = 0 ∧ (v = 1 ∨ v = -1)) := by unfold Un at hU; omega
  rcases hcase with ⟨rfl, hu⟩ | ⟨rfl, hv⟩
  · have hge1 : absGe c d = true := by rw [hge]; rcases hu with rfl | rfl <;> decide
    obtain ⟨ratio, e1, k1⟩ := h2.2.quo h2.1 hu (by decide)
    rw [Int.zero_mul] at k1
    obtain ⟨rd, e2, k2⟩ := k1.mul h2.2 (by decide)
    rw [Int.zero_mul] at k2
    obtain ⟨denom, e3, k3⟩ := h2.1.add k2 (by rcases hu with rfl | rfl <;> decide)
    rw [Int.add_zero] at k3
    obtain ⟨br, e4, k4⟩ := h1.2.mul k1 (by rw [Int.mul_zero]; decide)
    rw [Int.mul_zero] at k4
    obtain ⟨n1, e5, k5⟩ := h1.1.add k4 (by omega)
    rw [Int.add_zero] at k5
    obtain ⟨e, e6, k6⟩ := k5.quo k3 hu (by omega)
    obtain ⟨ar, e7, k7⟩ := h1.1.mul k1 (by rw [Int.mul_zero]; decide)
    rw [Int.mul_zero] at k7
    obtain ⟨n2, e8, k8⟩ := h1.2.sub k7 (by omega)
    rw [Int.sub_zero] at k8
    obtain ⟨f, e9, k9⟩ := k8.quo k3 hu (by omega)
    refine ⟨e, f, ?_, ?_⟩
    · unfold cQuoBits
      simp [hge1, e1, e2, e3, e4, e5, e6, e7, e8, e9, k6.nan]
    · rw [Int.mul_zero, Int.mul_zero, Int.add_zero, Int.sub_zero]
      exact ⟨k6, k9⟩
  · have hge1 : absGe c d = false := by rw [hge]; rcases hv with rfl | rfl <;> decide
    obtain ⟨ratio, e1, k1⟩ := h2.1.quo h2.2 hv (by decide)
    rw [Int.zero_mul] at k1
    obtain ⟨rc, e2, k2⟩ := k1.mul h2.1 (by decide)
    rw [Int.zero_mul] at k2
    obtain ⟨denom, e3, k3⟩ := h2.2.add k2 (by rcases hv with rfl | rfl <;> decide)
    rw [Int.add_zero] at k3
    obtain ⟨ar, e4, k4⟩ := h1.1.mul k1 (by rw [Int.mul_zero]; decide)
    rw [Int.mul_zero] at k4
    obtain ⟨n1, e5, k5⟩ := k4.add h1.2 (by omega)
    rw [Int.zero_add] at k5
    obtain ⟨e, e6, k6⟩ := k5.quo k3 hv (by omega)
    obtain ⟨br, e7, k7⟩ := h1.2.mul k1 (by rw [Int.mul_zero]; decide)
    rw [Int.mul_zero] at k7
    obtain ⟨n2, e8, k8⟩ := k7.sub h1.1 (by omega)
    rw [Int.zero_sub] at k8
    obtain ⟨f, e9, k9⟩ := k8.quo k3 hv (by omega)
    refine ⟨e, f, ?_, ?_⟩
    · unfold cQuoBits
      simp [hge1, e1, e2, e3, e4, e5, e6, e7, e8, e9, k6.nan]
    · rw [Int.mul_zero, Int.mul_zero, Int.zero_add, Int.zero_sub, ← Int.neg_mul]
      exact ⟨k6, k9⟩
end

section steps
variable {P : Program} {ops : Array Oper} {rest : List Oper} {o : Oper} {A : Act} {w : World} {Q : Exit → Act → World → Prop} {p q p' q' : Nat} {x y u v : Int}

theorem wpList_done {w' : World} (hw : Region.wanted o (yielded ops A.tmps) = true) (val : Value)
    (hr : (execOp A.eval o).run P w = .ok (.value val) w') (h : wpList P ops Q rest (A.put o.dst val) w') : wpList P ops Q (o :: rest) A w := by
  unfold wpList
  rw [if_pos hw]
  refine .inl ?_
  unfold Oper.wp
  rw [hr]
  exact h

theorem exec_binop {op : BinOp} {t t' : TypeId} {X Y : Operand} {vx vy val : Value} (ho : o.op = .binOp op t X Y t') (hx : A.eval X = vx) (hy : A.eval Y = vy) (hg : (eqGuard op t X Y vx vy).run P w = .ok () w)
    (hr : (binOp op t vx vy).run P w = .ok val w) : (execOp A.eval o).run P w = .ok (.value val) w := by
  unfold execOp
  rw [ho]
  simp only [hx, hy, Sem.run_bind, hg, Result.andThen_ok, hr, Sem.run_pure]

theorem guard_add (t : TypeId) (X Y : Operand) (a b : Value) : (eqGuard .add t X Y a b).run P w = .ok () w := rfl
theorem guard_sub (t : TypeId) (X Y : Operand) (a b : Value) : (eqGuard .sub t X Y a b).run P w = .ok () w := rfl
theorem guard_mul (t : TypeId) (X Y : Operand) (a b : Value) : (eqGuard .mul t X Y a b).run P w = .ok () w := rfl
theorem guard_quo (t : TypeId) (X Y : Operand) (a b : Value) : (eqGuard .quo t X Y a b).run P w = .ok () w := rfl

theorem wpList_cadd (t t' : TypeId) (X Y : Operand) (ho : o.op = .binOp .add t X Y t') (hw : Region.wanted o (yielded ops A.tmps) = true) (hx : A.eval X = .complex .f64 p q) (hy : A.eval Y = .complex .f64 p' q')
    (h1 : CI p q x y) (h2 : CI p' q' u v) (sx : Sm x) (sy : Sm y) (su : Sm u) (sv : Sm v)
    (h : ∀ re im, CI re im (x + u) (y + v) → wpList P ops Q rest (A.put o.dst (.complex .f64 re im)) w) : wpList P ops Q (o :: rest) A w := by
  obtain ⟨re, im, hb, hc⟩ := cadd h1 h2 sx sy su sv
  exact wpList_done hw _ (exec_binop ho hx hy (guard_add _ _ _ _ _) (run_complex_sum w .add (.inl rfl) t .f64 p q p' q' re im hb)) (h re im hc)

theorem wpList_csub (t t' : TypeId) (X Y : Operand) (ho : o.op = .binOp .sub t X Y t') (hw : Region.wanted o (yielded ops A.tmps) = true) (hx : A.eval X = .complex .f64 p q) (hy : A.eval Y = .complex .f64 p' q')
    (h1 : CI p q x y) (h2 : CI p' q' u v) (sx : Sm x) (sy : Sm y) (su : Sm u) (sv : Sm v)
    (h : ∀ re im, CI re im (x - u) (y - v) → wpList P ops Q rest (A.put o.dst (.complex .f64 re im)) w) : wpList P ops Q (o :: rest) A w := by
  obtain ⟨re, im, hb, hc⟩ := csub h1 h2 sx sy su sv
  exact wpList_done hw _ (exec_binop ho hx hy (guard_sub _ _ _ _ _) (run_complex_sum w .sub (.inr rfl) t .f64 p q p' q' re im hb)) (h re im hc)

theorem wpList_cmul (t t' : TypeId) (X Y : Operand) (ho : o.op = .binOp .mul t X Y t') (hw : Region.wanted o (yielded ops A.tmps) = true) (hx : A.eval X = .complex .f64 p q) (hy : A.eval Y = .complex .f64 p' q')
    (h1 : CI p q x y) (h2 : CI p' q' u v) (sx : Sm x) (sy : Sm y) (su : Sm u) (sv : Sm v)
    (h : ∀ re im, CI re im (x * u - y * v) (x * v + y * u) → wpList P ops Q rest (A.put o.dst (.complex .f64 re im)) w) : wpList P ops Q (o :: rest) A w := by
  obtain ⟨re, im, hb, hc⟩ := cmul h1 h2 sx sy su sv
  exact wpList_done hw _ (exec_binop ho hx hy (guard_mul _ _ _ _ _) (run_complex_mul w t p q p' q' re im hb)) (h re im hc)

theorem wpList_cquo (t t' : TypeId) (X Y : Operand) (ho : o.op = .binOp .quo t X Y t') (hw : Region.wanted o (yielded ops A.tmps) = true) (hx : A.eval X = .complex .f64 p q) (hy : A.eval Y = .complex .f64 p' q')
    (h1 : CI p q x y) (h2 : CI p' q' u v) (sx : Sm x) (sy : Sm y) (hU : Un u v)
    (h : ∀ re im, CI re im (x * u + y * v) (y * u - x * v) → wpList P ops Q rest (A.put o.dst (.complex .f64 re im)) w) : wpList P ops Q (o :: rest) A w := by
  obtain ⟨re, im, hb, hc⟩ := cquo h1 h2 sx sy hU
  exact wpList_done hw _ (exec_binop ho hx hy (guard_quo _ _ _ _ _) (run_complex_quo w t p q p' q' re im hb).1) (h re im hc)
end steps

end Go.Proofs.Ytafdbibjcohdbaa
