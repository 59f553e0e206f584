/-
  letters: what the picture's places are called, one behind the other.
-/
import Derived.Test.YtafdbibjcohdbaaLe
namespace Go.Proofs.Ytafdbibjcohdbaa
open Go.RowKit

def anyNeg (l : List Int) : Bool := l.any fun x => decide (x < 0)
theorem anyNeg_iff (l : List Int) : anyNeg l = true ↔ ∃ x ∈ l, x < 0 := by simp [anyNeg]
theorem anyNeg_at {l : List Int} (h : anyNeg l = false) {x : Int} (hx : x ∈ l) : 0 ≤ x := by
  unfold anyNeg at h
  rw [List.any_eq_false] at h
  have := h x hx
  simpa using this

/-- More than so many. -/
def over (left : Int) : List Int → Bool
  | [] => false
  | x :: l => if x > left then true else over (left - x) l

/-- The letters of things, the first of which is the i-th. -/
def lettersFrom (i : Nat) : List Int → List UInt8
  | [] => []
  | x :: l => List.replicate x.toNat (97 + i % 26).toUInt8 ++ lettersFrom (i + 1) l

/-- 0, or why there are none. -/
def lettersE (l : List Int) : Int := if anyNeg l = true then 2 else if (l.length : Int) > 65536 then 3 else if over 4096 l = true then 3 else 0
def lettersB (l : List Int) : List UInt8 := if lettersE l = 0 then lettersFrom 0 l else []

theorem lettersFrom_snoc (l : List Int) (x : Int) : ∀ i, lettersFrom i (l ++ [x]) = lettersFrom i l ++ List.replicate x.toNat (97 + (i + l.length) % 26).toUInt8 := by
  induction l with
  | nil => intro i; simp [lettersFrom]
  | cons y l ih =>
    intro i
    rw [List.cons_append, lettersFrom, lettersFrom, ih (i + 1), List.append_assoc, List.length_cons, show i + 1 + l.length = i + (l.length + 1) by omega]

theorem lettersFrom_length_le (l : List Int) : ∀ (i : Nat) (left : Int), 0 ≤ left → anyNeg l = false → over left l = false → ((lettersFrom i l).length : Int) ≤ left := by
  induction l with
  | nil => intro i left h _ _; simpa [lettersFrom] using h
  | cons x l ih =>
    intro i left h hn ho
    have h0 : 0 ≤ x := anyNeg_at hn (List.mem_cons_self ..)
    have hn' : anyNeg l = false := by simp [anyNeg] at hn ⊢; exact fun y hy => hn.2 y hy
    unfold over at ho
    split at ho
    · cases ho
    · have := ih (i + 1) (left - x) (by omega) hn' ho
      rw [lettersFrom, List.length_append, List.length_replicate]
      omega

theorem lettersFrom_take_le (l : List Int) : ∀ (i k : Nat), (lettersFrom i (l.take k)).length ≤ (lettersFrom i l).length := by
  induction l with
  | nil => intro i k; simp
  | cons x l ih =>
    intro i k
    cases k with
    | zero => simp [lettersFrom]
    | succ k =>
      have := ih (i + 1) k
      rw [List.take_succ_cons, lettersFrom, lettersFrom, List.length_append, List.length_append]
      omega

theorem take_snoc_l {l : List Int} {k : Nat} {x : Int} (h : l[k]? = some x) : l.take (k + 1) = l.take k ++ [x] := by
  obtain ⟨hk, rfl⟩ := List.getElem?_eq_some_iff.1 h
  rw [List.take_succ_eq_append_getElem hk]
theorem drop_cons_l {l : List Int} {k : Nat} {x : Int} (h : l[k]? = some x) : l.drop k = x :: l.drop (k + 1) := by
  obtain ⟨hk, rfl⟩ := List.getElem?_eq_some_iff.1 h
  rw [List.drop_eq_getElem_cons hk]

theorem Ints.below {w w' : World} {v : Value} {l : List Int} (h : Ints w v l) (hb : Below w.heap.size w w') : Ints w' v l := by
  obtain ⟨A, c, rfl, hc, hcell⟩ := h
  refine ⟨A, c, rfl, hc, fun h1 => ?_⟩
  obtain ⟨g, o, rfl, hg⟩ := hcell h1
  refine ⟨g, o, rfl, fun j x hx => ?_⟩
  exact (hb.cell (p := ⟨g, o + j, none⟩) (World.block_lt_of_cell? w _ (hg j x hx))).trans (hg j x hx)

theorem ret_bool {a b : Bool} (h : a = b) : Ending.returned (.bool a) = .returned (.bool b) := by rw [h]
theorem isBuilder_below {T e : TypeId} {B b : Nat} {bs : List Value} {w w' : World} (h : Lib.IsBuilderF T e B b bs w) (hb : Below w.heap.size w w') : Lib.IsBuilderF T e B b bs w' := by
  have k : ∀ p, Lib.BuilderAtF T e B b p bs w → Lib.BuilderAtF T e B b p bs w' := fun p h => by
    have hlt := h.lt
    obtain ⟨hB, v, hv, hown, hne⟩ := h
    exact ⟨hB, v, (hb.block b hlt).trans hv, hown.kept (row := none) ⟨hb.os, hb.tape, hb.output, hb.size, fun k hk _ => hb.block k hk⟩ (by cases hv : v.ownBlock <;> simp), hne⟩
  exact h.imp (k _) (k _)

theorem contains_neg (v : Value) (l : List Int) (hl : l.length ≤ 9223372036854775807) (w : World) (h : Ints w v l) :
    Calls Try.prog 25 #[v, .func (.func 27) #[] #[]] w fun e w' => e = .returned (.bool (anyNeg l)) ∧ w' = w := by
  have hi := fun W h => index_neg v l hl W h
  obtain ⟨b, hb⟩ : ∃ b, anyNeg l = b := ⟨_, rfl⟩
  have hb' : Hid (anyNeg l = b) := hb
  rw [hb]
  clear hb
  go_enter Try.func25, Try.ntmps25
  go_wp2_with (go_at_call 34; refine (hi _ h).mono ?_; rintro e w1 ⟨⟨r, rfl, hr⟩, rfl⟩; replace hr := Lib.hid hr)
  have hr' := hr.out
  have e : decide (0 ≤ r) = b := by
    rw [← hb'.out, Bool.eq_iff_iff, anyNeg_iff, ← hr']
    simp
  go_ret
  exact ⟨ret_bool e, rfl⟩

theorem enc_all : ∀ j : Fin 26, Utf8.encode (97 + (j.val : Int)) = ⟨#[(97 + j.val).toUInt8]⟩ := by decide
theorem enc26 (k : Nat) : Utf8.encode (97 + (k : Int) % 26) = ⟨#[(97 + k % 26).toUInt8]⟩ := by
  have := enc_all ⟨k % 26, Nat.mod_lt _ (by decide)⟩
  simpa using this

theorem replicate_str (c : UInt8) (n : Nat) : Lib.repeatL [c] n = List.replicate n c := by
  have := Lib.repeatL_replicate c 1 n
  simpa using this

set_option maxHeartbeats 2000000 in
set_option maxRecDepth 100000 in
theorem letters_any (v : Value) (l : List Int) (hl : l.length ≤ 17592186044416) (w : World) (h : Ints w v l) :
    Calls Try.prog 22 #[v] w fun e w' => e = .returned (.tuple #[.string ⟨(lettersB l).toArray⟩, .int .i64 (lettersE l)]) ∧ Below w.heap.size w w' := by
  have hcon := fun W h => contains_neg v l (by omega) W h
  obtain ⟨b, hb⟩ : ∃ b, anyNeg l = b := ⟨_, rfl⟩
  rw [hb] at hcon
  have hE : lettersE l = if b = true then 2 else if (l.length : Int) > 65536 then 3 else if over 4096 l = true then 3 else 0 := by rw [← hb]; rfl
  have hB : lettersB l = if lettersE l = 0 then lettersFrom 0 l else [] := rfl
  cases b with
  | true =>
    have e1 : lettersE l = 2 := hE
    have e2 : lettersB l = [] := by rw [hB, e1]; rfl
    rw [e1, e2]
    clear e1 e2 hE hB hb
    go_enter Try.func22, Try.ntmps22
    go_wp2_with (go_at_call 25; refine (hcon _ h).mono ?_; rintro e w1 ⟨rfl, rfl⟩)
    go_ret2
    exact ⟨rfl, Below.refl _ _⟩
  | false =>
    have hb' := Lib.hid hb
    clear hb
    by_cases hlen : (l.length : Int) > 65536
    · have e1 : lettersE l = 3 := by rw [hE]; simp [hlen]
      have e2 : lettersB l = [] := by rw [hB, e1]; rfl
      rw [e1, e2]
      clear e1 e2 hE hB
      obtain ⟨A, c, rfl, hc, hcell⟩ := id h
      clear hcell
      go_enter Try.func22, Try.ntmps22
      go_wp2_with (go_at_call 25; refine (hcon _ h).mono ?_; rintro e w1 ⟨rfl, rfl⟩)
      go_ret2
      exact ⟨rfl, Below.refl _ _⟩
    · have e1 : lettersE l = if over 4096 l = true then 3 else 0 := by rw [hE]; simp only [Bool.false_eq_true, if_false]; rw [if_neg hlen]
      obtain ⟨eE, heE⟩ : ∃ x, lettersE l = x := ⟨_, rfl⟩
      obtain ⟨eB, heB⟩ : ∃ x, lettersB l = x := ⟨_, rfl⟩
      rw [heE, heB]
      rw [heE] at e1 hB
      rw [heB] at hB
      replace e1 := Lib.hid e1
      replace hB := Lib.hid hB
      clear heE heB hE
      obtain ⟨A, c, rfl, hc, hcell0⟩ := id h
      have hcell := Lib.hid hcell0
      have hh := Lib.hid h
      clear hcell0
      have hlen' : l.length ≤ 65536 := by omega
      go_enter Try.func22, Try.ntmps22
      go_wp2_with (go_at_call 25; refine (hcon _ hh.out).mono ?_; rintro e w1 ⟨rfl, rfl⟩)
      clear hcon h
      go_loop [4, 6, 17] (fun s4 _ s17 => ∃ (k : Nat) (left : Int), k ≤ l.length ∧ s17 = .int .i64 k ∧ s4 = .int .i64 left ∧ 0 ≤ left ∧ left ≤ 4096 ∧ Hid (over left (l.drop k) = over 4096 l)) (fun _ _ s17 => l.length - (intOf s17).toNat)
      case atStart => exact ⟨0, 4096, Nat.zero_le _, rfl, rfl, by omega, by omega, Lib.hid rfl⟩
      case round =>
        obtain ⟨k, left, hk, rfl, rfl, hl0, hl1, hov⟩ := hrel
        by_cases hlt : k < l.length
        · obtain ⟨x, hx⟩ : ∃ x, l[k]? = some x := ⟨l[k]'hlt, List.getElem?_eq_getElem _⟩
          obtain ⟨g, o, rfl, hg⟩ := hcell.out (by omega)
          have hcx := hg k x hx
          have hx0 : 0 ≤ x := anyNeg_at hb'.out (List.mem_of_getElem? hx)
          have ho := hov.out
          rw [drop_cons_l hx, over] at ho
          clear hg hx hov
          by_cases hbig : x > left
          · rw [if_pos hbig] at ho
            have e2 : eE = 3 := by rw [e1.out, ← ho]; rfl
            have e3 : eB = [] := by rw [hB.out, e2]; rfl
            subst e2 e3
            clear ho
            go_wp2
            go_ret2
            exact ⟨rfl, Below.refl _ _⟩
          · rw [if_neg hbig] at ho
            replace ho := Lib.hid ho
            go_wp2
            go_round
            case rel => exact ⟨k + 1, left - x, hlt, rfl, rfl, by omega, by omega, ho⟩
            case measure => simp [intOf]; omega
        · have e : k = l.length := by omega
          subst e
          have ho := hov.out
          rw [List.drop_length] at ho
          have e2 : eE = 0 := by rw [e1.out, ← ho]; rfl
          have e3 : eB = lettersFrom 0 l := by rw [hB.out, e2]; rfl
          have ho' : over 4096 l = false := ho.symm
          have hbd := lettersFrom_length_le l 0 4096 (by omega) hb'.out ho'
          subst e2 e3
          replace ho' := Lib.hid ho'
          clear ho hov
          have hrep : ∀ (c : UInt8) (x : Int) W, 0 ≤ x → x ≤ 4096 → Calls Try.prog 24 #[.string ⟨#[c]⟩, .int .i64 x] W fun e w' => e = .returned (.string ⟨(List.replicate x.toNat c).toArray⟩) ∧ Below W.heap.size W w' := fun c x W h0 h1 => by
            have := Try.strings_Repeat ⟨#[c]⟩ x.toNat W (by omega) (by show 1 * _ ≤ _; omega)
            rw [Int.toNat_of_nonneg h0] at this
            simpa [replicate_str] using this
          obtain ⟨B, hBw⟩ : ∃ B, w1.heap.size = B := ⟨_, rfl⟩
          have hfresh := Lib.IsBuilderF.of (Lib.fresh_isBuilder 60 5 w1)
          rw [hBw] at hfresh
          replace hBw := Lib.hid hBw
          replace hfresh := Lib.hid hfresh
          replace hbd := Lib.hid hbd
          go_wp2
          rw [hBw.out]
          go_loopw [8, 9, 30] (fun _ _ s30 wr => ∃ k : Nat, k ≤ l.length ∧ s30 = .int .i64 k ∧ Hid (Lib.IsBuilderF 60 5 B B (Lib.byteCells (lettersFrom 0 (l.take k))) wr ∧ Below B w1 wr)) (fun _ _ s30 _ => l.length - (intOf s30).toNat)
          case atStart => exact ⟨0, Nat.zero_le _, rfl, Lib.hid ⟨hfresh.out, (Below.refl B w1).alloc (by rw [hBw.out]; exact Nat.le_refl _) _⟩⟩
          case round =>
            obtain ⟨k, hk, rfl, hR⟩ := hrel
            by_cases hlt : k < l.length
            · obtain ⟨x, hx⟩ : ∃ x, l[k]? = some x := ⟨l[k]'hlt, List.getElem?_eq_getElem _⟩
              obtain ⟨g, o, rfl, hg⟩ := hcell.out (by omega)
              have hcx := hg k x hx
              have hcw : wr.cell? ⟨g, o + k, none⟩ = some (.int .i64 x) := (hR.out.2.cell (p := ⟨g, o + k, none⟩) (by rw [← hBw.out]; exact World.block_lt_of_cell? w1 _ hcx)).trans hcx
              have hx0 : 0 ≤ x := anyNeg_at hb'.out (List.mem_of_getElem? hx)
              have hx' := Lib.hid hx
              clear hg hx hcx
              have hsn : lettersFrom 0 (l.take (k + 1)) = lettersFrom 0 (l.take k) ++ List.replicate x.toNat (97 + k % 26).toUInt8 := by
                rw [take_snoc_l hx'.out, lettersFrom_snoc, List.length_take, Nat.min_eq_left (by omega), Nat.zero_add]
              have hlb := lettersFrom_take_le l 0 (k + 1)
              rw [hsn, List.length_append, List.length_replicate] at hlb
              have hb1 : (lettersFrom 0 (l.take k)).length + x.toNat ≤ 4096 := by have := hbd.out; omega
              have hr24 := hrep (97 + k % 26).toUInt8 x wr hx0 (by omega)
              rw [← enc26] at hr24
              obtain ⟨S, hS⟩ : ∃ S : ByteArray, (⟨(List.replicate x.toNat (97 + k % 26).toUInt8).toArray⟩ : ByteArray) = S := ⟨_, rfl⟩
              rw [hS] at hr24
              have hw28 : ∀ W, Below wr.heap.size wr W → Calls Try.prog 28 #[.pointer (some ⟨B, 0, none⟩), .string S] W fun e w' => (∃ n : Int, e = .returned (.tuple #[.int .i64 n, .nilIface])) ∧ Hid (Lib.IsBuilderF 60 5 B B (Lib.byteCells (lettersFrom 0 (l.take (k + 1)))) w' ∧ Below B w1 w') := fun W hW => by
                have hz1 := hR.out.2.size
                rw [hBw.out] at hz1
                have hz2 := hW.size
                rw [← hS]
                refine (write_any B B _ ⟨(List.replicate x.toNat (97 + k % 26).toUInt8).toArray⟩ W (isBuilder_below hR.out.1 hW) (by rw [Lib.byteCells_length]; show _ + (List.replicate _ _).toArray.size ≤ _; simp; omega) (by omega)).mono ?_
                rintro e w' ⟨rfl, h1, h2⟩
                replace h1 : Lib.IsBuilderF 60 5 B B (Lib.byteCells (lettersFrom 0 (List.take k l)) ++ Lib.byteCells (List.replicate x.toNat (97 + k % 26).toUInt8)) w' := h1
                rw [← Lib.byteCells_append, ← hsn] at h1
                exact ⟨⟨_, rfl⟩, h1, (hR.out.2.trans (hW.mono (by omega))).trans h2⟩
              clear hsn hlb hb1 hrep hS
              go_wp2_with (first
                | (go_at_call 24; refine hr24.mono ?_; clear hr24; rintro e w2 ⟨rfl, hb2⟩)
                | (go_at_call 28; refine (hw28 _ hb2).mono ?_; clear hw28; rintro e w3 ⟨⟨n3, rfl⟩, hb3⟩))
              go_roundw
              case rel => exact ⟨k + 1, hlt, rfl, hb3⟩
              case measure => simp [intOf]; omega
            · have e : k = l.length := by omega
              subst e
              rw [List.take_length] at hR
              have hst := Try.Builder_String_any_f _ _ _ _ hR.out.1 (by have := hR.out.2.size; rw [hBw.out] at this; exact this)
              go_wp2_with (go_at_call 29; refine hst.mono ?_; clear hst; rintro e w2 ⟨rfl, _, hb2⟩; replace hb2 := Lib.hid hb2)
              go_ret2
              refine ⟨rfl, ?_⟩
              have := hR.out.2.trans hb2.out
              rw [← hBw.out] at this
              exact this

end Go.Proofs.Ytafdbibjcohdbaa
