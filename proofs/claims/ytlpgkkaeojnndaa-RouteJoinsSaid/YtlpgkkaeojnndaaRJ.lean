/-
  The document's Join (as printed) makes what route.Join makes.
-/
import Derived.Test.YtlpgkkaeojnndaaR
import Derived.Test.YtlpgkkaeojnndaaJ
namespace Go.Proofs.Ytlpgkkaeojnndaa
open Go.RowKit Go.Proofs.YtlpgkkaeojnndaaW.PrintWords Go.Proofs.YtlpgkkaeojnndaaW.PrintLast Go.Proofs.YtlpgkkaeojnndaaW.PrintMore Go.Proofs.Ytlpgkkaeojnndaa.PRouteJoins

theorem join_snoc : ∀ (ls : List (List UInt8)) (x : List UInt8), ls ≠ [] → Lib.join (ls ++ [x]) [47] = Lib.join ls [47] ++ 47 :: x
  | [], _, h => absurd rfl h
  | [a], x, _ => by rw [Lib.join_one]; show Lib.join [a, x] [47] = _; rw [join_cons2, Lib.join_one]
  | a :: b :: ls, x, _ => by
    show Lib.join (a :: b :: (ls ++ [x])) [47] = _
    rw [join_cons2, join_cons2, show b :: (ls ++ [x]) = (b :: ls) ++ [x] from rfl, join_snoc (b :: ls) x (by simp)]
    simp

theorem data_append (a b : ByteArray) : (a ++ b).data.toList = a.data.toList ++ b.data.toList := by
  rw [ByteArray.data_append, Array.toList_append]

theorem sumN_take_le (l : List ByteArray) (j : Nat) : sumN (l.take j) ≤ sumN l := by
  have h : sumN l = sumN (l.take j) + sumN (l.drop j) := by
    unfold sumN
    rw [← List.sum_append, ← List.map_append, List.take_append_drop]
  omega

theorem size_of_data {s : ByteArray} {l : List UInt8} (h : s.data.toList = l) : s.size = l.length := by rw [← h, size_data]

theorem joinR_end (l : List ByteArray) (hn : allNames l) (s : ByteArray) (hs : s.data.toList = Lib.join (datas l) [47]) :
    (if validB s = true then some (s, (0 : Int)) else some ((⟨#[]⟩ : ByteArray), 20)) = some (joinR l) := by
  have hdn : ∀ p ∈ datas l, ∀ c ∈ p, c ≠ 47 := fun p hp => by
    obtain ⟨x, hx, rfl⟩ := List.mem_map.1 hp
    exact name_no (hn x hx)
  by_cases h0 : l = []
  · subst h0
    have hv : ¬ validL s.data.toList := fun h => by
      have := h.2.1 [] (by rw [hs]; show ([] : List UInt8) ∈ pieces (Lib.join [] [47]); rw [Lib.join_nil]; simp [pieces])
      have := this.1
      simp at this
    rw [if_neg (by rw [valid_not hv]; simp), joinR_no fun h => by have := h.2.2.1; simp at this]
  · have hp : pieces s.data.toList = datas l := by rw [hs]; exact pieces_join _ (by simpa [datas] using h0) hdn
    have hlen := join_length l h0
    rw [← hs, size_data] at hlen
    have h1 : 1 ≤ l.length := by cases l with | nil => exact absurd rfl h0 | cons => simp
    have hiff : validL s.data.toList ↔ joinOk l := by
      unfold validL joinOk
      rw [hp, size_data]
      simp only [datas, List.length_map]
      constructor
      · rintro ⟨a, b, c⟩
        exact ⟨hn, by omega, h1, c⟩
      · rintro ⟨a, b, c, d⟩
        refine ⟨by omega, fun p hp => ?_, d⟩
        obtain ⟨x, hx, rfl⟩ := List.mem_map.1 hp
        exact hn x hx
    by_cases hok : joinOk l
    · rw [if_pos (valid_yes (hiff.2 hok)), joinR_yes hok, ← hs]
    · rw [if_neg (by rw [valid_not fun h => hok (hiff.1 h)]; simp), joinR_no hok]

theorem rjoin_from (l : List ByteArray) (M : Nat) (hM : ∀ x ∈ l, x.size ≤ M) (hM1 : M ≤ 9223372036854775807) (hl : l.length ≤ 8796093022208) (d : Nat) : ∀ (k j : Nat) (s : ByteArray), j + d = l.length → 2 * d + M + 5000 < k → allNames (l.take j) →
    s.data.toList = Lib.join (datas (l.take j)) [47] → s.size ≤ 1280 → hamperref17_Join.l0 k l s (j : Int) = some (joinR l) := by
  induction d with
  | zero =>
    intro k j s hj hk hn hs h1
    obtain ⟨k, rfl⟩ : ∃ m, k = m + 1 := ⟨k - 1, by omega⟩
    rw [List.take_of_length_le (by omega)] at hn hs
    simp only [hamperref17_Join.l0]
    rw [if_neg (by omega), rvalid_is s k (by omega), Option.bind_some]
    exact joinR_end l hn s hs
  | succ d ih =>
    intro k j s hj hk hn hs h1
    obtain ⟨k, rfl⟩ : ∃ m, k = m + 1 := ⟨k - 1, by omega⟩
    obtain ⟨x, hx⟩ : ∃ x, l[j]? = some x := ⟨l[j]'(by omega), List.getElem?_eq_getElem _⟩
    have hxM := hM x (List.mem_of_getElem? hx)
    simp only [hamperref17_Join.l0]
    rw [if_pos (by omega), if_pos (by omega), rd_at hx, rname_is x (by omega) k (by omega), Option.bind_some]
    obtain ⟨k, rfl⟩ : ∃ m, k = m + 1 := ⟨k - 1, by omega⟩
    have hno : ∀ s i, hamperref17_Join.j1 (k + 1) l s i true = some ((⟨#[]⟩ : ByteArray), 20) := fun s i => by rw [hamperref17_Join.j1]; exact if_pos rfl
    by_cases h : nameL x.data.toList
    · rw [if_pos (name_yes h)]
      have hx5 : x.size ≤ 255 := by have := h.2.1; rwa [size_data] at this
      by_cases hbig : (s.size : Int) > 1024
      · rw [decide_eq_true hbig, hno, joinR_no]
        rintro ⟨_, h2, _⟩
        have h0 : l.take j ≠ [] := fun e => by
          rw [e] at hs
          have h6 : s.size = 0 := (size_of_data hs).trans rfl
          omega
        have h3 := join_length (l.take j) h0
        rw [← hs, size_data] at h3
        have h4 := sumN_take_le l j
        omega
      · rw [decide_eq_false hbig]
        simp only [hamperref17_Join.j1]
        rw [if_neg (by simp)]
        have hn2 : allNames (l.take (j + 1)) := fun y hy => by
          rw [take_snoc_at l j x hx] at hy
          rcases List.mem_append.1 hy with hy | hy
          · exact hn y hy
          · rw [List.mem_singleton] at hy; subst hy; exact h
        by_cases hj0 : (j : Int) > 0
        · rw [if_pos hj0, if_pos (by omega), if_pos (by omega), if_pos (by omega), rd_at hx]
          have hs2 : ((s ++ (⟨#[47]⟩ : ByteArray)) ++ x).data.toList = Lib.join (datas (l.take (j + 1))) [47] := by
            rw [data_append, data_append, hs, take_snoc_at l j x hx]
            unfold datas
            rw [List.map_append, List.map_cons, List.map_nil, join_snoc]
            · simp
            · intro e
              have h5 := congrArg List.length e
              rw [List.length_map, List.length_take, List.length_nil] at h5
              omega
          have hz : (s ++ (⟨#[47]⟩ : ByteArray)).size = s.size + 1 := by rw [← size_data, data_append, List.length_append, size_data]; rfl
          have hz2 : ((s ++ (⟨#[47]⟩ : ByteArray)) ++ x).size = s.size + 1 + x.size := by rw [← size_data, data_append, List.length_append, size_data, size_data, hz]
          rw [if_pos (by rw [hz]; omega), wrap_succ (show j < l.length by omega) (by omega)]
          exact ih k (j + 1) _ (by omega) (by omega) hn2 hs2 (by omega)
        · obtain rfl : j = 0 := by omega
          rw [if_neg hj0, if_pos (by omega), if_pos (by omega), rd_at hx]
          have hs0 : s.data.toList = [] := by simpa [datas, Lib.join_nil] using hs
          have hs2 : (s ++ x).data.toList = Lib.join (datas (l.take (0 + 1))) [47] := by
            rw [data_append, hs0, take_snoc_at l 0 x hx]
            simp [datas, Lib.join_one]
          have hz2 : (s ++ x).size = s.size + x.size := by rw [← size_data, data_append, List.length_append, size_data, size_data]
          have hz0 : s.size = 0 := by rw [← size_data, hs0]; rfl
          rw [if_pos (by omega), wrap_succ (show 0 < l.length by omega) (by omega)]
          exact ih k (0 + 1) _ (by omega) (by omega) hn2 hs2 (by omega)
    · rw [if_neg (by rw [name_not h]; simp), hno, joinR_no fun hh => h (hh.1 x (List.mem_of_getElem? hx))]

theorem rjoin_is (l : List ByteArray) (hs : ∀ x ∈ l, x.size ≤ 9223372036854775807) (hl : l.length ≤ 8796093022208) : ∃ k, hamperref17_Join.f k l = some (joinR l) :=
  ⟨2 * l.length + 9223372036854775807 + 5001, rjoin_from l _ hs (Nat.le_refl _) hl l.length _ 0 _ (by omega) (by omega) (fun x hx => by simp at hx) (by simp [datas, Lib.join_nil]) (by decide)⟩

end Go.Proofs.Ytlpgkkaeojnndaa
