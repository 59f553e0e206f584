/-
  TokenLongest, plainly.
-/
import Derived.Test.YtfefbelglohfdaaX
import Derived.Test.YtfefbelglohfdaaPl
namespace Go.Proofs.Ytfefbelglohfdaa
open Go.RowKit Go.Proofs.YtfefbelglohfdaaW.PrintWords Go.Proofs.YtfefbelglohfdaaW.PrintLast Go.Proofs.YtfefbelglohfdaaW.PrintMore
open PTok

theorem band_i64 (a : Int) (c : Nat) (hc : c < 9223372036854775808) : ∃ n : Nat, n ≤ c ∧ Go.bits .and .i64 a (c : Int) = (n : Int) := by
  have hx : (BitVec.ofInt 64 a).toNat &&& c ≤ c := Nat.and_le_right
  have h2 : (BitVec.ofInt 64 (c : Int)).toNat = c := by
    rw [BitVec.ofInt_natCast, BitVec.toNat_ofNat]; exact Nat.mod_eq_of_lt (by omega)
  refine ⟨(BitVec.ofInt 64 a).toNat &&& c, hx, ?_⟩
  show IntKind.i64.wrap ((BitVec.ofInt 64 a &&& BitVec.ofInt 64 (c : Int)).toNat : Int) = _
  rw [BitVec.toNat_and, h2, IntKind.wrap_i64]
  omega

/-- What a token's answer must not be. -/
def NoWorse (least n dd d r : Int) : Prop := ¬ (least ≤ r ∧ (n < r ∨ (r = n ∧ d < dd)))

theorem longest_chk {least n dd d x : Int} {v : Option Bool} (h : NoWorse least n dd d x) :
    (if x ≥ least then (if x > n then (some false) else (if x = n then (if d < dd then (some false) else v) else v)) else v) = v := by
  unfold NoWorse at h
  split
  · split
    · exfalso; omega
    · split
      · split
        · exfalso; omega
        · rfl
      · rfl
  · rfl

/-- One piece is measured: what follows, by what it measures. -/
theorem longest_l2 (L : List Int) (window least most : Int) (T : List S30) (a d : Nat) (i n dd : Int) (hd : 1 ≤ d) (hda : d ≤ a) (ha : a ≤ L.length) (hL : L.length ≤ 1048576) (K : Nat)
    (hK : hamperlaw06_TokenLongest.l1 K L window least most T (a : Int) i n dd (wrap64 ((d : Int) + 1)) = some true) :
    ∀ j x : Nat, a + x + j = L.length → NoWorse least n dd (d : Int) ((x : Int) + rn L (most.toNat - x) (a + x) (a - d + x)) →
      ∃ k, hamperlaw06_TokenLongest.l2 k L window least most T (a : Int) i n dd (d : Int) (x : Int) = some true := by
  intro j
  induction j with
  | zero =>
    intro x hj h
    rw [rn_zero (by omega)] at h
    have h : NoWorse least n dd (d : Int) (x : Int) := by simpa using h
    refine ⟨K + 1, ?_⟩
    unfold hamperlaw06_TokenLongest.l2
    rw [w64 (show -9223372036854775808 ≤ (a : Int) + x by omega) (by omega), if_neg (show ¬ (a : Int) + x < (L.length : Int) by omega), longest_chk h, hK]
    simp
  | succ j ih =>
    intro x hj h
    by_cases c1 : (x : Int) < most
    · by_cases c2 : rd L ((a + x : Nat) : Int) = rd L ((a - d + x : Nat) : Int)
      · obtain ⟨m, hm⟩ : ∃ m, most.toNat - x = m + 1 := ⟨most.toNat - x - 1, by omega⟩
        have e : rn L (most.toNat - x) (a + x) (a - d + x) = rn L (most.toNat - (x + 1)) (a + (x + 1)) (a - d + (x + 1)) + 1 := by
          rw [hm]
          show (if _ then _ else _) = _
          rw [if_pos ⟨by omega, c2⟩, show most.toNat - (x + 1) = m by omega]
          rfl
        obtain ⟨k, hk⟩ := ih (x + 1) (by omega) (by
          rw [e] at h
          have e2 : (((x + 1 : Nat) : Int)) + (rn L (most.toNat - (x + 1)) (a + (x + 1)) (a - d + (x + 1)) : Int) = (x : Int) + ((rn L (most.toNat - (x + 1)) (a + (x + 1)) (a - d + (x + 1)) + 1 : Nat) : Int) := by omega
          rw [e2]
          exact h)
        refine ⟨k + 1, ?_⟩
        unfold hamperlaw06_TokenLongest.l2
        rw [if_pos c1, w64 (show -9223372036854775808 ≤ (a : Int) + x by omega) (by omega), w64 (show -9223372036854775808 ≤ (a : Int) + x - d by omega) (by omega), if_pos (show (a : Int) + x < (L.length : Int) by omega), if_pos (by omega), if_pos (by omega), if_pos (by omega),
          show (a : Int) + x - d = ((a - d + x : Nat) : Int) by omega, show (a : Int) + x = ((a + x : Nat) : Int) by omega, if_pos c2, w64 (by omega) (by omega), show (x : Int) + 1 = ((x + 1 : Nat) : Int) by omega]
        exact hk
      · have h : NoWorse least n dd (d : Int) (x : Int) := by
          have e : rn L (most.toNat - x) (a + x) (a - d + x) = 0 := by
            cases most.toNat - x with
            | zero => rfl
            | succ m =>
              show (if _ then _ else _) = _
              rw [if_neg (fun h => c2 h.2)]
          rw [e] at h
          simpa using h
        refine ⟨K + 1, ?_⟩
        unfold hamperlaw06_TokenLongest.l2
        rw [if_pos c1, w64 (show -9223372036854775808 ≤ (a : Int) + x by omega) (by omega), w64 (show -9223372036854775808 ≤ (a : Int) + x - d by omega) (by omega), if_pos (show (a : Int) + x < (L.length : Int) by omega), if_pos (by omega), if_pos (by omega), if_pos (by omega),
          show (a : Int) + x - d = ((a - d + x : Nat) : Int) by omega, show (a : Int) + x = ((a + x : Nat) : Int) by omega, if_neg c2, longest_chk h, hK]
    · have h : NoWorse least n dd (d : Int) (x : Int) := by
        rw [show most.toNat - x = 0 by omega] at h
        simpa [rn] using h
      refine ⟨K + 1, ?_⟩
      unfold hamperlaw06_TokenLongest.l2
      rw [if_neg c1, longest_chk h, hK]

/-- All distances of one token. -/
theorem longest_l1 (L : List Int) (window least most : Int) (T : List S30) (a : Nat) (i n dd : Int) (ha : a ≤ L.length) (hL : L.length ≤ 1048576) (hn : 0 ≤ n) (hn2 : n ≤ 1048576) (hi : 0 ≤ i) (hi2 : i ≤ 1048576) (K : Nat)
    (hK : hamperlaw06_TokenLongest.l0 K L window least most T ((a : Int) + (mx n 1)) (i + 1) = some true)
    (hb : ∀ d : Nat, 1 ≤ d → d ≤ a → (d : Int) ≤ window → NoWorse least n dd (d : Int) (rI L most a d)) :
    ∀ j d : Nat, d + j = a + 1 → 1 ≤ d → ∃ k, hamperlaw06_TokenLongest.l1 k L window least most T (a : Int) i n dd (d : Int) = some true := by
  have hmx : 0 ≤ mx n 1 ∧ mx n 1 ≤ 1048576 := by unfold mx; split <;> omega
  have hend : ∀ d : Int, hamperlaw06_TokenLongest.j2 (K + 1) L window least most T (a : Int) i n dd d false = some true := fun d => by
    unfold hamperlaw06_TokenLongest.j2
    rw [if_neg (by simp), w64 (by omega) (by omega), w64 (by omega) (by omega)]
    exact hK
  intro j
  induction j with
  | zero =>
    intro d hd _
    refine ⟨K + 1 + 1, ?_⟩
    unfold hamperlaw06_TokenLongest.l1
    rw [if_neg (by omega)]
    exact hend _
  | succ j ih =>
    intro d hd h1
    by_cases c1 : (d : Int) ≤ window
    · by_cases c2 : (d : Int) ≤ 300
      · obtain ⟨k, hk⟩ := ih (d + 1) (by omega) (by omega)
        obtain ⟨k2, hk2⟩ := longest_l2 L window least most T a d i n dd h1 (by omega) ha hL k (by
          rw [w64 (by omega) (by omega), show (d : Int) + 1 = ((d + 1 : Nat) : Int) by omega]
          exact hk) (L.length - a) 0 (by omega) (by
          have := hb d h1 (by omega) c1
          unfold rI at this
          simpa using this)
        refine ⟨k2 + 1 + 1, ?_⟩
        unfold hamperlaw06_TokenLongest.l1
        rw [if_pos (by omega), if_pos c1, decide_eq_true c2]
        unfold hamperlaw06_TokenLongest.j2
        rw [if_pos rfl]
        exact hk2
      · refine ⟨K + 1 + 1, ?_⟩
        unfold hamperlaw06_TokenLongest.l1
        rw [if_pos (by omega), if_pos c1, decide_eq_false c2]
        exact hend _
    · refine ⟨K + 1 + 1, ?_⟩
      unfold hamperlaw06_TokenLongest.l1
      rw [if_pos (by omega), if_neg c1]
      exact hend _

/-- All tokens. -/
theorem longest_l0 (L : List Int) (window least most : Int) (hw : 1 ≤ window) (hl : 1 ≤ least) (hL : L.length ≤ 1048576) :
    ∀ (suf pre : List S30) (a : Nat), Toks L window least most a suf → pre.length ≤ a → ∃ k, hamperlaw06_TokenLongest.l0 k L window least most (pre ++ suf) (a : Int) (pre.length : Int) = some true
  | [], pre, a, h, hp => by
    have h' : a = L.length := h
    refine ⟨1, ?_⟩
    unfold hamperlaw06_TokenLongest.l0
    rw [if_neg (by simp), h']
    simp
  | t :: r, pre, a, h, hp => by
    have hlen := toks_length hl (t :: r) a h
    have hr : rd_T30 (pre ++ t :: r) (pre.length : Int) = t := by
      unfold rd_T30
      simp [List.getD_eq_getElem?_getD]
    have hlc : (pre ++ t :: r).length = pre.length + r.length + 1 := by simp; omega
    simp only [List.length_cons] at hlen
    have key : ∀ (n dd : Int) (a2 : Nat), t.f0 = n → t.f1 = dd → 0 ≤ n → n ≤ 1048576 → (a : Int) + mx n 1 = (a2 : Int) → pre.length + 1 ≤ a2 → Toks L window least most a2 r →
        (∀ d : Nat, 1 ≤ d → d ≤ a → (d : Int) ≤ window → NoWorse least n dd (d : Int) (rI L most a d)) → ∃ k, hamperlaw06_TokenLongest.l0 k L window least most (pre ++ t :: r) (a : Int) (pre.length : Int) = some true := by
      intro n dd a2 e0 e1 hn hn2 e2 hp2 ht hb
      obtain ⟨K, hK⟩ := longest_l0 L window least most hw hl hL r (pre ++ [t]) a2 ht (by simp; omega)
      obtain ⟨k, hk⟩ := longest_l1 L window least most (pre ++ t :: r) a (pre.length : Int) n dd (by omega) hL hn hn2 (by omega) (by omega) K (by
        rw [e2]
        have e3 : (((pre ++ [t]).length : Nat) : Int) = (pre.length : Int) + 1 := by simp
        rw [e3] at hK
        rw [show pre ++ [t] ++ r = pre ++ t :: r by simp] at hK
        exact hK) hb a 1 (by omega) (by omega)
      refine ⟨k + 1, ?_⟩
      unfold hamperlaw06_TokenLongest.l0
      rw [if_pos (by omega), if_pos (by omega), hr, e0, e1]
      exact hk
    have hle := full_le L most a (min a window.toNat)
    have hmax := fun (d : Nat) (h1 : 1 ≤ d) (h2 : d ≤ a) (h3 : (d : Int) ≤ window) => full_max L most a (min a window.toNat) d h1 (by omega)
    obtain ⟨hlt, ⟨h1, h2, h3⟩ | ⟨h1, h2, h3⟩⟩ := h
    · refine key (full L most a (min a window.toNat)).1 (full L most a (min a window.toNat)).2 (a + (full L most a (min a window.toNat)).1.toNat) (by rw [h2]) (by rw [h2]) (by omega) (by omega) ?_ (by omega) h3 fun d h4 h5 h6 => ?_
      · unfold mx
        split <;> omega
      · obtain ⟨h7, h8⟩ := hmax d h4 h5 h6
        rintro ⟨_, h9 | ⟨h9, h10⟩⟩
        · omega
        · have := h8 h10
          omega
    · refine key 0 0 (a + 1) (by rw [h2]) (by rw [h2]) (by omega) (by omega) (by simp [mx]) (by omega) h3 fun d h4 h5 h6 => ?_
      obtain ⟨h7, _⟩ := hmax d h4 h5 h6
      rintro ⟨h8, _⟩
      omega

theorem longest_ok (l : List Int) (hl : l.length ≤ 1048576) (hb : ∀ x ∈ l, 0 ≤ x ∧ x < 256) (a0 a1 a2 a3 : Int) : ∃ k, hamperlaw06_TokenLongest.f k l a0 a1 a2 a3 = some true := by
  have hfit : Fits l := ⟨by omega, hb⟩
  obtain ⟨n1, hn1, e1⟩ := band_i64 a1 65535 (by omega)
  obtain ⟨n2, hn2, e2⟩ := band_i64 a2 7 (by omega)
  obtain ⟨n3, hn3, e3⟩ := band_i64 a3 255 (by omega)
  have e1 : Go.bits .and .i64 a1 65535 = (n1 : Int) := e1
  have e2 : Go.bits .and .i64 a2 7 = (n2 : Int) := e2
  have e3 : Go.bits .and .i64 a3 255 = (n3 : Int) := e3
  obtain ⟨window, hw⟩ : ∃ window : Int, window = 1 + (n1 : Int) := ⟨_, rfl⟩
  obtain ⟨least, hle⟩ : ∃ least : Int, least = 1 + (n2 : Int) := ⟨_, rfl⟩
  obtain ⟨most, hm⟩ : ∃ most : Int, most = 8 + (n3 : Int) := ⟨_, rfl⟩
  obtain ⟨kp, suf, hkp, ht⟩ := parse_ok l window least most (by omega) (by omega) hl l.length 0 [] (by omega) (by omega) (by simp)
  have hkp' : hamperref06_Parse.f kp l ((0 : Nat) : Int) window least most = some suf := by
    unfold hamperref06_Parse.f
    simpa using hkp
  have hP : ∀ k, kp ≤ k → tokP.f k l ((0 : Nat) : Int) window least most = some (suf, 0) := fun k hk => by
    unfold tokP.f token_Parse.f
    rw [if_pos hfit, if_pos (by omega), if_neg (by omega), if_neg (by omega), if_neg (by omega), if_neg (by omega), if_neg (by omega), at_rounds (hamperref06_Parse.mono _ _ _ _ _) hk hkp']
    rfl
  obtain ⟨k0, hk0⟩ := longest_l0 l window least most (by omega) (by omega) hl suf [] 0 ht (by simp)
  refine ⟨max kp k0, ?_⟩
  unfold hamperlaw06_TokenLongest.f
  rw [e1, e2, e3, w64 (x := 1 + (n1 : Int)) (by omega) (by omega), w64 (x := 1 + (n2 : Int)) (by omega) (by omega), w64 (x := 8 + (n3 : Int)) (by omega) (by omega), ← hw, ← hle, ← hm]
  have hP' : tokP.f (max kp k0) l 0 window least most = some (suf, 0) := hP _ (Nat.le_max_left _ _)
  rw [hP', Option.bind_some, if_pos rfl]
  exact at_rounds (g := fun k => hamperlaw06_TokenLongest.l0 k l window least most suf 0 0) (fun k => (hamperlaw06_TokenLongest.mono_l k).1 _ _ _ _ _ _ _) (Nat.le_max_right kp k0) hk0

end Go.Proofs.Ytfefbelglohfdaa
