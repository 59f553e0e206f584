/-
  route.name: whether a text is a name, for every text.
-/
import Derived.Test.YtlpgkkaeojnndaaDoorS
import Derived.WalkKit
import Derived.WalkSpells
import Derived.WalkLawsBesides
import Derived.Handy
import Derived.LoopTactic
import Derived.Below
namespace Go.Proofs.YtlpgkkaeojnndaaDoor
open Go.RowKit

theorem iter_below (w : World) (s : ByteArray) (pos : Nat) : Below w.heap.size w (w.iter s pos) := (Below.refl _ w).alloc (Nat.le_refl _) _

theorem b47 {c : UInt8} {b : Int} (h : (c.toNat : Int) = b) (e : b = 47) : c = 47 := UInt8.toNat_inj.1 (by show c.toNat = 47; omega)
theorem b0 {c : UInt8} {b : Int} (h : (c.toNat : Int) = b) (e : b = 0) : c = 0 := UInt8.toNat_inj.1 (by show c.toNat = 0; omega)

theorem name_short (s : ByteArray) (h : s.size < 1) : nameB s = false := decide_eq_false fun hn => by have := hn.1; rw [size_data] at this; omega
theorem name_long (s : ByteArray) (h : 255 < s.size) : nameB s = false := decide_eq_false fun hn => by have := hn.2.1; rw [size_data] at this; omega

theorem name_quick (s : ByteArray) (w : World) (h : s.size < 1 ∨ 255 < s.size ∨ s.data.toList = [46] ∨ s.data.toList = [46, 46]) :
    Calls Tryd.prog 29 #[.string s] w fun e w' => e = .returned (.bool false) ∧ w = w' := by
  by_cases h1 : s.size < 1
  · clear h
    go_enter Tryd.func29, Tryd.ntmps29
    go_wp2
    go_ret
    exact ⟨rfl, rfl⟩
  by_cases h2 : 255 < s.size
  · clear h
    go_enter Tryd.func29, Tryd.ntmps29
    go_wp2
    go_ret
    exact ⟨rfl, rfl⟩
  by_cases h3 : s.data.toList = [46]
  · clear h
    have e3 : (s.toList == [46]) = true := by rw [ByteArray.toList_eq, h3]; rfl
    clear h3
    go_enter Tryd.func29, Tryd.ntmps29
    go_wp2
    go_ret
    exact ⟨rfl, rfl⟩
  · have h4 : s.data.toList = [46, 46] := by
      rcases h with h | h | h | h
      · exact absurd h h1
      · exact absurd h h2
      · exact absurd h h3
      · exact h
    have e3 : (s.toList == [46]) = false := by rw [ByteArray.toList_eq, h4]; rfl
    have e4 : (s.toList == [46, 46]) = true := by rw [ByteArray.toList_eq, h4]; rfl
    clear h h3 h4
    go_enter Tryd.func29, Tryd.ntmps29
    go_wp2
    go_ret
    exact ⟨rfl, rfl⟩

set_option maxHeartbeats 1000000 in
theorem name_slow (s : ByteArray) (w : World) (h1 : 1 ≤ s.size) (h2 : s.size ≤ 255) (h3 : s.data.toList ≠ [46]) (h4 : s.data.toList ≠ [46, 46]) :
    Calls Tryd.prog 29 #[.string s] w fun e w' => e = .returned (.bool (decide (cleanL s.data.toList))) ∧ Below w.heap.size w w' := by
  have e3 : (s.toList == [46]) = false := beq_eq_false_iff_ne.2 (by rw [ByteArray.toList_eq]; exact h3)
  have e4 : (s.toList == [46, 46]) = false := beq_eq_false_iff_ne.2 (by rw [ByteArray.toList_eq]; exact h4)
  have d1 : decide ((s.size : Int) < 1) = false := decide_eq_false (by omega)
  have d2 : decide (255 < (s.size : Int)) = false := decide_eq_false (by omega)
  clear h3 h4
  go_enter Tryd.func29, Tryd.ntmps29
  go_wp2
  clear e3 e4
  go_loopw [4] (fun s4 w' => ∃ pos : Nat, w' = w.iter s pos ∧ pos ≤ s.size ∧ Hid (cleanL (s.data.toList.take pos))) (fun _ w' => s.size - w'.iterPos w.heap.size)
  case atStart => exact ⟨0, rfl, Nat.zero_le _, fun c hc => by simp at hc⟩
  case round =>
    obtain ⟨pos, rfl, hp0, hcl⟩ := hrel
    by_cases hp : pos < s.size
    · by_cases ha : (s[pos]'hp).toNat < 128
      · have hnx : ∀ ty, (Instr.next (.pointer (some ⟨w.heap.size, 0, none⟩)) true ty).run Tryd.prog (w.iter s pos) = _ := fun ty => run_next_ascii w s pos ty hp ha
        have hat := at_data s pos hp
        obtain ⟨c, hc⟩ : ∃ c, s[pos]'hp = c := ⟨_, rfl⟩
        rw [hc] at hnx hat ha
        clear hc
        obtain ⟨b, hb⟩ : ∃ b : Int, (c.toNat : Int) = b := ⟨_, rfl⟩
        rw [hb] at hnx
        have hat' : Hid (s.data.toList[pos]? = some c) := hat
        have hb' : Hid ((c.toNat : Int) = b) := hb
        clear hat hb ha
        by_cases c1 : b = 47
        · have hn : Hid (¬ cleanL s.data.toList) := not_clean _ pos c hat'.out (.inl (b47 hb'.out c1))
          clear hb' hat'
          go_wp2
          go_ret
          exact ⟨by rw [decide_eq_false hn.out]; rfl, iter_below w s _⟩
        by_cases c2 : b = 0
        · have hn : Hid (¬ cleanL s.data.toList) := not_clean _ pos c hat'.out (.inr (b0 hb'.out c2))
          clear hb' hat'
          go_wp2
          go_ret
          exact ⟨by rw [decide_eq_false hn.out]; rfl, iter_below w s _⟩
        · have hn : Hid (cleanL (s.data.toList.take (pos + 1))) := clean_take _ pos c hat'.out hcl.out ⟨fun e => c1 (by have := hb'.out; rw [e] at this; exact this.symm), fun e => c2 (by have := hb'.out; rw [e] at this; exact this.symm)⟩
          clear hb' hat' hcl
          have q1 : (b == 47) = false := beq_eq_false_iff_ne.2 c1
          have q2 : (b == 0) = false := beq_eq_false_iff_ne.2 c2
          go_wp2
          exact ⟨⟨pos + 1, rfl, by omega, hn⟩, by simp; omega⟩
      · have hnx : ∀ ty, (Instr.next (.pointer (some ⟨w.heap.size, 0, none⟩)) true ty).run Tryd.prog (w.iter s pos) = _ := fun ty => run_next_any w s pos ty hp
        have hd := decode_high s pos hp (by omega)
        have hb := decode_bytes s pos hp (by omega)
        obtain ⟨r, hr⟩ : ∃ r : Int, ((Utf8.decode s pos).1 : Int) = r := ⟨_, rfl⟩
        obtain ⟨n, hn⟩ : ∃ n : Nat, (Utf8.decode s pos).2 = n := ⟨_, rfl⟩
        have hr0 : 128 ≤ r := by omega
        rw [hr, hn] at hnx
        rw [hn] at hb
        have hn0 : 1 ≤ n := by omega
        have hle : pos + n ≤ s.size := by
          obtain ⟨hj, _⟩ := hb (pos + n - 1) (by omega) (by omega)
          omega
        have hcl2 : Hid (cleanL (s.data.toList.take (pos + n))) := clean_upto s pos n hcl.out hb
        clear hr hn hd hb hcl ha
        have q1 : (r == 47) = false := beq_eq_false_iff_ne.2 (by omega)
        have q2 : (r == 0) = false := beq_eq_false_iff_ne.2 (by omega)
        go_wp2
        exact ⟨⟨pos + n, rfl, by omega, hcl2⟩, by simp; omega⟩
    · have hnx : ∀ ty, (Instr.next (.pointer (some ⟨w.heap.size, 0, none⟩)) true ty).run Tryd.prog (w.iter s pos) = _ := fun ty => run_next_end w s pos ty hp
      have hn : Hid (cleanL s.data.toList) := by
        have := hcl.out
        rw [List.take_of_length_le (by rw [size_data]; omega)] at this
        exact this
      clear hcl
      go_wp2
      go_ret
      exact ⟨by rw [decide_eq_true hn.out]; rfl, iter_below w s _⟩

/-- route.name. -/
theorem name_any (s : ByteArray) (w : World) :
    Calls Tryd.prog 29 #[.string s] w fun e w' => e = .returned (.bool (nameB s)) ∧ Below w.heap.size w w' := by
  by_cases h : s.size < 1 ∨ 255 < s.size ∨ s.data.toList = [46] ∨ s.data.toList = [46, 46]
  · refine (name_quick s w h).mono fun e w' ⟨he, hw⟩ => ⟨?_, ?_⟩
    · rw [he]
      have : nameB s = false := decide_eq_false fun hn => by
        have h1 := hn.1; have h2 := hn.2.1
        rw [size_data] at h1 h2
        rcases h with h | h | h | h
        · omega
        · omega
        · exact hn.2.2.1 h
        · exact hn.2.2.2.1 h
      rw [this]
    · rw [← hw]; exact Below.refl _ _
  · refine (name_slow s w (by omega) (by omega) (fun e => h (by simp [e])) (fun e => h (by simp [e]))).mono fun e w' ⟨he, hw⟩ => ⟨?_, hw⟩
    rw [he]
    have : decide (cleanL s.data.toList) = nameB s := by
      unfold nameB
      rw [decide_eq_decide]
      exact ⟨fun hc => ⟨by rw [size_data]; omega, by rw [size_data]; omega, fun e => h (by simp [e]), fun e => h (by simp [e]), hc⟩, fun hn => hn.2.2.2.2⟩
    rw [this]

end Go.Proofs.YtlpgkkaeojnndaaDoor
