/-
  A map of rows of integers of the call's own: look-up, and 'm[k] = append(m[k], v)' by its entry.
-/
import Derived.Maps.OwnRows
import Derived.Maps.OwnOps
import Derived.WideKeyEntry
import Derived.WideKeyArr
import Derived.WalkKit
namespace Go.Proofs.Ytfefbelglohfdaa
open Go.RowKit Go.Maps Go.MapKept Go.WideElems
open Go.ChangeMaps (setBlock heap_setBlock_same heap_setBlock_other)
open Go.WideMaps (KeyLaw)

section
variable {P : Program} {k t E e : TypeId} {q : IntKind} {w w' : World} {b : Nat} {No : Nat → Prop} {G : Value → List Int}

/-- Block b is a map; the element at each key owns the numbers 'G key'; no row lies in a block of which 'No' holds; no two keys' rows are one. -/
def Grp (P : Program) (k e : TypeId) (q : IntKind) (w : World) (b : Nat) (No : Nat → Prop) (G : Value → List Int) : Prop :=
  ∃ es clock, w.heap[b]? = some (.map es clock) ∧ Stamped es clock ∧ (∀ x ∈ es.toList, ∃ l, keyOf P k x.key = some l) ∧
    (∀ x ∈ es.toList, w.ownsInts 0 e q x.val (G x.key)) ∧ (∀ key, (∀ x ∈ es.toList, x.key ≠ key) → G key = []) ∧
    (∀ x ∈ es.toList, ∀ y ∈ es.toList, x.key ≠ y.key → x.val.ownBlock = none ∨ x.val.ownBlock ≠ y.val.ownBlock) ∧
    ∀ x ∈ es.toList, ∀ g, x.val.ownBlock = some g → ¬ No g

theorem owns_ne {es : Array MapEntry} {c : Nat} {v : Value} {zs : List Int} (h : w.ownsInts 0 e q v zs) (hb : w.heap[b]? = some (.map es c)) : v.ownBlock ≠ some b := by
  intro hv
  rcases h.1.2 with ⟨rfl, _⟩ | ⟨g, cap, cur, rfl, _, hg, _⟩
  · simp [Value.ownBlock] at hv
  · simp only [Value.ownBlock, Option.some.injEq] at hv
    subst hv
    rw [hb] at hg
    simp at hg

theorem Grp.made (w : World) (P : Program) (k e : TypeId) (q : IntKind) (No : Nat → Prop) : Grp P k e q (w.alloc (.map #[] 0)) w.heap.size No (fun _ => []) :=
  ⟨#[], 0, (MapKept.heap_alloc w _).1, stamped_empty 0, by simp, by simp, fun _ _ => rfl, by simp, by simp⟩

theorem Grp.lt (h : Grp P k e q w b No G) : b < w.heap.size := by
  obtain ⟨es, clock, hb, _⟩ := h
  exact (Array.getElem?_eq_some_iff.1 hb).1

theorem Grp.kept {row : Option Nat} (h : Grp P k e q w b No G) (hg : w.grownBy w' row) (hb' : some b ≠ row) (hr : ∀ j, row = some j → No j ∨ w.heap.size ≤ j) : Grp P k e q w' b No G := by
  have hlt := h.lt
  obtain ⟨es, clock, hb, hst, hks, hrow, habs, hap, hno⟩ := h
  refine ⟨es, clock, (hg.block b hlt hb').trans hb, hst, hks, fun x hx => (hrow x hx).kept hg ?_, habs, hap, hno⟩
  cases hx' : x.val.ownBlock with
  | none => exact Or.inl rfl
  | some g =>
    refine Or.inr (fun e1 => ?_)
    rcases hr g e1.symm with h1 | h1
    · exact hno x hx g hx' h1
    · have := ((hrow x hx).1.lt g hx').2
      omega

theorem Grp.more {No' : Nat → Prop} (h : Grp P k e q w b No G) (hn : ∀ g, No' g → No g ∨ w.heap.size ≤ g) : Grp P k e q w b No' G := by
  obtain ⟨es, clock, hb, hst, hks, hrow, habs, hap, hno⟩ := h
  refine ⟨es, clock, hb, hst, hks, hrow, habs, hap, fun x hx g hg hN => ?_⟩
  rcases hn g hN with h1 | h1
  · exact hno x hx g hg h1
  · have := ((hrow x hx).1.lt g hg).2
    omega

theorem Grp.look (h : Grp P k e q w b No G) (K : KeyLaw P k) (ht : P.underlying t = some (.map k E)) (hz : (zeroValue E).run P w = .ok (.slice none 0 0) w) {key : Value} {kl : Lit} (hkey : keyOf P k key = some kl) :
    ∃ v, (Instr.lookup t (.map (some b)) key false).run P w = .ok v w ∧ w.ownsInts 0 e q v (G key) ∧ ∀ g, v.ownBlock = some g → ¬ No g := by
  obtain ⟨es, clock, hb, hst, hks, hrow, habs, hap, hno⟩ := h
  rcases K.find w hkey es.toList hks with ⟨h1, h2⟩ | ⟨j, e0, h1, h2, h3⟩
  · refine ⟨.slice none 0 0, by simp [Instr.lookup, run_underlying ht, MapKept.run_getObj_map hb, K.check w _ hkey, h1, hz, Result.andThen], ?_, by simp [Value.ownBlock]⟩
    rw [habs key h2]
    exact World.ownsInts_nil _ _ _ _
  · refine ⟨e0.val, by simp [Instr.lookup, run_underlying ht, MapKept.run_getObj_map hb, K.check w _ hkey, h1, Result.andThen], ?_, hno e0 (List.mem_of_getElem? h2)⟩
    rw [← h3]
    exact hrow e0 (List.mem_of_getElem? h2)

/-- The relation behind a store at 'key'. -/
theorem Grp.stored {es es1 es' : Array MapEntry} {c1 c' : Nat} {w1 w2 : World} {key v v' : Value} {zs' : List Int}
    (hks : ∀ x ∈ es.toList, ∃ l, keyOf P k x.key = some l) (hrow : ∀ x ∈ es.toList, w1.ownsInts 0 e q x.val (G x.key)) (habs : ∀ key', (∀ x ∈ es.toList, x.key ≠ key') → G key' = [])
    (hap : ∀ x ∈ es.toList, ∀ y ∈ es.toList, x.key ≠ y.key → x.val.ownBlock = none ∨ x.val.ownBlock ≠ y.val.ownBlock) (hno : ∀ x ∈ es.toList, ∀ g, x.val.ownBlock = some g → ¬ No g)
    (hkey : ∃ l, keyOf P k key = some l) (hst : Stamped es' c') (hwho : ∀ x ∈ es'.toList, (x ∈ es.toList ∧ x.key ≠ key) ∨ (x.key = key ∧ x.val = v'))
    (hall : ∀ key', (∀ x ∈ es'.toList, x.key ≠ key') → key' ≠ key ∧ ∀ x ∈ es.toList, x.key ≠ key')
    (hv : ∀ x ∈ es.toList, x.key ≠ key → x.val.ownBlock = none ∨ x.val.ownBlock ≠ v.ownBlock)
    (hb2 : w2.heap[b]? = some (.map es1 c1)) (hg : w1.grownBy w2 v.ownBlock) (ho : w2.ownsInts 0 e q v' zs') (hloc : v'.ownBlock = v.ownBlock ∨ ∃ g, v'.ownBlock = some g ∧ w1.heap.size ≤ g)
    (hvn : ∀ g, v'.ownBlock = some g → ¬ No g) {G' : Value → List Int} (hG1 : G' key = zs') (hG2 : ∀ key', key' ≠ key → G' key' = G key') :
    Grp P k e q (setBlock w2 b (.map es' c')) b No G' ∧ w2.grownBy (setBlock w2 b (.map es' c')) (some b) := by
  have hg3 : w2.grownBy (setBlock w2 b (.map es' c')) (some b) := ⟨rfl, rfl, rfl, by simp [setBlock], fun i _ hi => heap_setBlock_other hb2 _ (fun e1 => hi (by rw [e1]))⟩
  have old : ∀ x ∈ es.toList, x.key ≠ key → w2.ownsInts 0 e q x.val (G x.key) := fun x hx hne => (hrow x hx).kept hg (hv x hx hne)
  have old_new : ∀ x ∈ es.toList, x.key ≠ key → x.val.ownBlock = none ∨ x.val.ownBlock ≠ v'.ownBlock := by
    intro x hx hne
    rcases hloc with h1 | ⟨g, h1, h2⟩
    · rw [h1]
      exact hv x hx hne
    · cases hx' : x.val.ownBlock with
      | none => exact Or.inl rfl
      | some gx =>
        have := ((hrow x hx).1.lt gx hx').2
        refine Or.inr (fun e1 => ?_)
        rw [h1] at e1
        cases e1
        omega
  refine ⟨⟨es', c', heap_setBlock_same hb2 _, hst, fun x hx => ?_, fun x hx => ?_, fun key' hk' => ?_, fun x hx y hy hne => ?_, fun x hx g hxg => ?_⟩, hg3⟩
  · rcases hwho x hx with ⟨h1, _⟩ | ⟨h1, _⟩
    · exact hks x h1
    · rw [h1]; exact hkey
  · rcases hwho x hx with ⟨h1, h2⟩ | ⟨h1, h2⟩
    · rw [hG2 _ h2]
      exact (old x h1 h2).kept hg3 (Or.inr (owns_ne (old x h1 h2) hb2))
    · rw [h1, hG1, h2]
      exact ho.kept hg3 (Or.inr (owns_ne ho hb2))
  · obtain ⟨h1, h2⟩ := hall key' hk'
    rw [hG2 _ h1]
    exact habs key' h2
  · rcases hwho x hx with ⟨hx0, hxk⟩ | ⟨hxk, hxv⟩ <;> rcases hwho y hy with ⟨hy0, hyk⟩ | ⟨hyk, hyv⟩
    · exact hap x hx0 y hy0 hne
    · rw [hyv]
      exact old_new x hx0 hxk
    · rw [hxv]
      cases hv' : v'.ownBlock with
      | none => exact Or.inl rfl
      | some g =>
        refine Or.inr (fun e1 => ?_)
        rcases old_new y hy0 hyk with h | h
        · rw [h] at e1
          cases e1
        · exact h (by rw [hv', e1])
    · exact absurd (hxk.trans hyk.symm) hne
  · rcases hwho x hx with ⟨h1, _⟩ | ⟨_, h2⟩
    · exact hno x h1 g hxg
    · exact hvn g (h2 ▸ hxg)

/-- 'm[k] = f(m[k])' by its entry. -/
theorem Grp.entry (h : Grp P k e q w b No G) (K : KeyLaw P k) (ht : P.underlying t = some (.map k E)) (hz : ∀ u : World, (zeroValue E).run P u = .ok (.slice none 0 0) u) {key : Value} {kl : Lit} (hkey : keyOf P k key = some kl) :
    ∃ v st w1, (Instr.mapEntry t (.map (some b)) key).run P w = .ok (.tuple #[v, goInt st]) w1 ∧ w.grownBy w1 (some b) ∧ w1.heap.size = w.heap.size ∧ w1.ownsInts 0 e q v (G key) ∧ (∀ g, v.ownBlock = some g → ¬ No g) ∧ v.ownBlock ≠ some b ∧
      ∀ (w2 : World) (v' : Value) (zs' : List Int), w1.grownBy w2 v.ownBlock → w2.ownsInts 0 e q v' zs' → (v'.ownBlock = v.ownBlock ∨ ∃ g, v'.ownBlock = some g ∧ w1.heap.size ≤ g ∧ ¬ No g) →
        ∃ w3, (Instr.entryStore t (.map (some b)) (goInt st) v').run P w2 = .ok () w3 ∧ w2.grownBy w3 (some b) ∧ ∀ G' : Value → List Int, G' key = zs' → (∀ key', key' ≠ key → G' key' = G key') → Grp P k e q w3 b No G' := by
  have hlt := h.lt
  obtain ⟨es, clock, hb, hst, hks, hrow, habs, hap, hno⟩ := h
  obtain ⟨s1, s2, s3⟩ := hst
  have hgs : ∀ (es1 : Array MapEntry) (c1 : Nat), w.grownBy (setBlock w b (.map es1 c1)) (some b) := fun es1 c1 => ⟨rfl, rfl, rfl, by simp [setBlock], fun i _ hi => heap_setBlock_other hb _ (fun e1 => hi (by rw [e1]))⟩
  rcases K.find w hkey es.toList hks with ⟨h1, h2⟩ | ⟨j, e0, h1, h2, h3⟩
  · have hg1 := hgs (es.push ⟨key, .slice none 0 0, clock⟩) (clock + 1)
    have hb1 : (setBlock w b (.map (es.push ⟨key, .slice none 0 0, clock⟩) (clock + 1))).heap[b]? = _ := heap_setBlock_same hb _
    refine ⟨.slice none 0 0, clock, setBlock w b (.map (es.push ⟨key, .slice none 0 0, clock⟩) (clock + 1)), ?_, hg1, by simp [setBlock], ?_, by simp [Value.ownBlock], by simp [Value.ownBlock], fun w2 v' zs' hg ho hloc => ?_⟩
    · simp [Instr.mapEntry, run_underlying ht, MapKept.run_getObj_map hb, K.check w false hkey, h1, hz, MapKept.run_setObj_map _ hb, Result.andThen, setBlock]
    · rw [habs key h2]
      exact World.ownsInts_nil _ _ _ _
    · have hb2 : w2.heap[b]? = some (.map (es.push ⟨key, .slice none 0 0, clock⟩) (clock + 1)) := (hg.block b (by simpa [setBlock] using hlt) (by simp [Value.ownBlock])).trans hb1
      have hidx : (es.push ⟨key, .slice none 0 0, clock⟩).findIdx? (fun e => ((e.born : Nat) : Int) == ((clock : Nat) : Int)) = some es.size := by
        rw [findIdx_arr]
        exact findIdx_born (l := (es.push ⟨key, .slice none 0 0, clock⟩).toList) (j := es.size) (e0 := ⟨key, .slice none 0 0, clock⟩) (by
          simp only [Array.toList_push, List.map_append, List.map_cons, List.map_nil]
          refine List.nodup_append.2 ⟨s2, by simp, fun a ha c hc e1 => ?_⟩
          simp only [List.mem_singleton] at hc
          obtain ⟨x, hx, rfl⟩ := List.mem_map.1 ha
          have := s1 x hx
          omega) (by simp)
      have hmod : (es.push ⟨key, .slice none 0 0, clock⟩).modify es.size (fun e => { e with val := v' }) = es.push ⟨key, v', clock⟩ := by
        apply Array.ext'
        rw [Array.toList_modify, Array.toList_push, Array.toList_push, ← Array.length_toList, modify_last]
      have hS := fun (G' : Value → List Int) hG1 hG2 => Grp.stored (P := P) (k := k) (e := e) (q := q) (No := No) (G := G) (b := b) (es := es) (es' := es.push ⟨key, v', clock⟩) (c' := clock + 1) (w1 := setBlock w b (.map (es.push ⟨key, .slice none 0 0, clock⟩) (clock + 1))) (w2 := w2) (key := key) (v := .slice none 0 0) (v' := v') (zs' := zs')
        hks (fun x hx => (hrow x hx).kept hg1 (Or.inr (owns_ne (hrow x hx) hb))) habs hap hno ⟨_, hkey⟩ (stamped_push ⟨s1, s2, s3⟩ h2)
        (fun x hx => by
          simp only [Array.toList_push, List.mem_append, List.mem_singleton] at hx
          rcases hx with hx | rfl
          · exact Or.inl ⟨hx, h2 x hx⟩
          · exact Or.inr ⟨rfl, rfl⟩)
        (fun key' hk' => ⟨fun e1 => hk' ⟨key, v', clock⟩ (by simp) e1.symm, fun x hx => hk' x (by simp [hx])⟩)
        (fun x hx _ => by cases x.val.ownBlock <;> simp [Value.ownBlock]) hb2 hg ho (hloc.imp id (fun ⟨g, a1, a2, _⟩ => ⟨g, a1, a2⟩))
        (fun g hg' hN => by
          rcases hloc with h4 | ⟨g', h4, _, h5⟩
          · rw [h4] at hg'; simp [Value.ownBlock] at hg'
          · rw [h4] at hg'; cases hg'; exact h5 hN) (G' := G') hG1 hG2
      refine ⟨setBlock w2 b (.map (es.push ⟨key, v', clock⟩) (clock + 1)), ?_, ⟨rfl, rfl, rfl, by simp [setBlock], fun i _ hi => heap_setBlock_other hb2 _ (fun e1 => hi (by rw [e1]))⟩, fun G' hG1 hG2 => (hS G' hG1 hG2).1⟩
      simp [Instr.entryStore, MapKept.run_getObj_map hb2, asInt, asIntOf, goInt, hidx, hmod, MapKept.run_setObj_map _ hb2, Result.andThen, setBlock]
  · have hj : es[j]? = some e0 := by simpa using h2
    have hm0 : e0 ∈ es.toList := List.mem_of_getElem? h2
    have hsame : es.modify j (fun e => { e with key := key }) = es := by
      apply Array.ext'
      rw [Array.toList_modify, Go.ChangeMaps.modify_eq_set _ _ _ _ h2]
      have : ({ e0 with key := key } : MapEntry) = e0 := by rw [← h3]
      rw [this]
      exact set_self _ _ _ h2
    have hg1 := hgs es clock
    have hb1 : (setBlock w b (.map es clock)).heap[b]? = some (.map es clock) := heap_setBlock_same hb _
    have hnb := owns_ne (hrow e0 hm0) hb
    have huniq : ∀ i x, es.toList[i]? = some x → x.key = key → i = j := by
      intro i x hi hxk
      have hi' : (es.toList.map (·.key))[i]? = some key := by simp [hi, hxk]
      have hj' : (es.toList.map (·.key))[j]? = some key := by simp [hj, h3]
      obtain ⟨a1, a2⟩ := List.getElem?_eq_some_iff.1 hi'
      obtain ⟨a3, a4⟩ := List.getElem?_eq_some_iff.1 hj'
      exact (List.getElem_inj s3).1 (a2.trans a4.symm)
    refine ⟨e0.val, e0.born, setBlock w b (.map es clock), ?_, hg1, by simp [setBlock], ?_, hno e0 hm0, hnb, fun w2 v' zs' hg ho hloc => ?_⟩
    · simp [Instr.mapEntry, run_underlying ht, MapKept.run_getObj_map hb, K.check w false hkey, h1, hj, h3, K.stays w hkey, hsame, MapKept.run_setObj_map _ hb, Result.andThen, setBlock]
    · rw [← h3]
      exact (hrow e0 hm0).kept hg1 (Or.inr hnb)
    · have hb2 : w2.heap[b]? = some (.map es clock) := (hg.block b (by simpa [setBlock] using hlt) (fun e1 => hnb e1.symm)).trans hb1
      have hidx : es.findIdx? (fun e => ((e.born : Nat) : Int) == ((e0.born : Nat) : Int)) = some j := by
        rw [findIdx_arr]
        exact findIdx_born s2 h2
      have hl : (es.modify j (fun e => { e with val := v' })).toList = es.toList.set j { e0 with val := v' } := by
        rw [Array.toList_modify, Go.ChangeMaps.modify_eq_set _ _ _ _ h2]
      have hjl : j < es.toList.length := (List.getElem?_eq_some_iff.1 h2).1
      have hS := fun (G' : Value → List Int) hG1 hG2 => Grp.stored (P := P) (k := k) (e := e) (q := q) (No := No) (G := G) (b := b) (es := es) (es' := es.modify j (fun e => { e with val := v' })) (c' := clock) (w1 := setBlock w b (.map es clock)) (w2 := w2) (key := key) (v := e0.val) (v' := v') (zs' := zs')
        hks (fun x hx => (hrow x hx).kept hg1 (Or.inr (owns_ne (hrow x hx) hb))) habs hap hno ⟨_, hkey⟩ (stamped_modify ⟨s1, s2, s3⟩ _ _ (fun _ _ => rfl) (fun _ _ _ => rfl))
        (fun x hx => by
          rw [hl] at hx
          obtain ⟨i, hi⟩ := List.mem_iff_getElem?.1 hx
          by_cases hij : j = i
          · subst hij
            rw [List.getElem?_set_self hjl] at hi
            cases hi
            exact Or.inr ⟨h3, rfl⟩
          · rw [List.getElem?_set_ne hij] at hi
            exact Or.inl ⟨List.mem_of_getElem? hi, fun e1 => hij (huniq i x hi e1).symm⟩)
        (fun key' hk' => by
          have hnew : ({ e0 with val := v' } : MapEntry) ∈ (es.modify j (fun e => { e with val := v' })).toList := by
            rw [hl]
            exact List.mem_iff_getElem?.2 ⟨j, List.getElem?_set_self hjl⟩
          refine ⟨fun e1 => hk' _ hnew (h3.trans e1.symm), fun x hx e1 => ?_⟩
          obtain ⟨i, hi⟩ := List.mem_iff_getElem?.1 hx
          by_cases hij : j = i
          · subst hij
            rw [h2] at hi
            cases hi
            exact hk' _ hnew e1
          · exact hk' x (by rw [hl]; exact List.mem_iff_getElem?.2 ⟨i, by rw [List.getElem?_set_ne hij]; exact hi⟩) e1)
        (fun x hx hne => hap x hx e0 hm0 (by rw [h3]; exact hne)) hb2 hg ho (hloc.imp id (fun ⟨g, a1, a2, _⟩ => ⟨g, a1, a2⟩))
        (fun g hg' hN => by
          rcases hloc with h4 | ⟨g', h4, _, h5⟩
          · rw [h4] at hg'; exact hno e0 hm0 g hg' hN
          · rw [h4] at hg'; cases hg'; exact h5 hN) (G' := G') hG1 hG2
      refine ⟨setBlock w2 b (.map (es.modify j (fun e => { e with val := v' })) clock), ?_, ⟨rfl, rfl, rfl, by simp [setBlock], fun i _ hi => heap_setBlock_other hb2 _ (fun e1 => hi (by rw [e1]))⟩, fun G' hG1 hG2 => (hS G' hG1 hG2).1⟩
      simp [Instr.entryStore, MapKept.run_getObj_map hb2, asInt, asIntOf, goInt, hidx, MapKept.run_setObj_map _ hb2, Result.andThen, setBlock]

end
end Go.Proofs.Ytfefbelglohfdaa
