/- The walks of OnceFrom, the reference's and the program's. -/
import Derived.Test.YtefnaimopkmpmaaCo
namespace Go.Proofs.Ytefnaimopkmpmaa
open Go.RowKit
set_option linter.unusedVariables false

def find1 (P : Nat → Bool) (a : Nat) : Nat → Option Nat
  | 0 => none
  | f + 1 => if P a then some a else find1 P (a + 1) f
theorem find1_yes {P : Nat → Bool} {a f : Nat} (h : P a = true) (hf : 0 < f) : find1 P a f = some a := by
  obtain ⟨g, rfl⟩ : ∃ g, f = g + 1 := ⟨f - 1, by omega⟩
  rw [find1, if_pos h]
theorem find1_no {P : Nat → Bool} {a f : Nat} (h : P a = false) (hf : 0 < f) : find1 P a f = find1 P (a + 1) (f - 1) := by
  obtain ⟨g, rfl⟩ : ∃ g, f = g + 1 := ⟨f - 1, by omega⟩
  rw [find1, if_neg (by rw [h]; decide)]; rfl
def onceAt (s : List UInt8) (i n : Nat) : Bool := (placesL s ((s.drop i).take n)).length == 1
def once (s : List UInt8) (i : Int) : Option Nat := if vt s && (decide (0 ≤ i) && decide (i ≤ s.length - 1)) then find1 (onceAt s i.toNat) 1 (s.length - i.toNat) else none
def onceN (s : ByteArray) (i : Int) : Int := ((once s.data.toList i).getD 0 : Nat)
def onceB (s : ByteArray) (i : Int) : Bool := (once s.data.toList i).isSome
theorem once_no {s : List UInt8} {i : Int} (h : vt s = false ∨ ¬ (0 ≤ i ∧ i ≤ s.length - 1)) : once s i = none := by
  unfold once; rw [if_neg]
  rcases h with h | h
  · rw [h]; simp
  · intro e; rw [Bool.and_eq_true, Bool.and_eq_true, decide_eq_true_eq, decide_eq_true_eq] at e; exact h e.2
theorem once_yes {s : List UInt8} {i : Nat} (h : vt s = true) (hi : i < s.length) : once s i = find1 (onceAt s i) 1 (s.length - i) := by
  unfold once; rw [if_pos]
  · rfl
  · rw [h, decide_eq_true (by omega), decide_eq_true (by omega)]; rfl

theorem inR_yes {n lo hi : Int} (h1 : lo ≤ n) (h2 : n ≤ hi) : (decide (lo ≤ n) && decide (n ≤ hi)) = true := by simp [h1, h2]
theorem inR_no {n lo hi : Int} (h : ¬ (lo ≤ n ∧ n ≤ hi)) : (decide (lo ≤ n) && decide (n ≤ hi)) = false := by
  cases e : (decide (lo ≤ n) && decide (n ≤ hi)) with
  | false => rfl
  | true => rw [Bool.and_eq_true, decide_eq_true_eq, decide_eq_true_eq] at e; exact absurd e h
theorem s_inRange (n lo hi : Int) (w : World) : Calls Try.prog 54 #[.int .i64 n, .int .i64 lo, .int .i64 hi] w fun e w' => e = .returned (.bool (decide (lo ≤ n) && decide (n ≤ hi))) ∧ w = w' := by
  by_cases h1 : lo ≤ n
  · by_cases h2 : n ≤ hi
    · rw [inR_yes h1 h2]
      go_enter Try.func54, Try.ntmps54
      go_wp2
      go_ret
      exact ⟨ret_bool (by first | rfl | simpa using h2), rfl⟩
    · rw [inR_no (fun h => h2 h.2)]
      go_enter Try.func54, Try.ntmps54
      go_wp2
      go_ret
      exact ⟨ret_bool (by first | rfl | (simp; omega)), rfl⟩
  · rw [inR_no (fun h => h1 h.1)]
    go_enter Try.func54, Try.ntmps54
    go_wp2
    go_ret
    exact ⟨ret_bool (by first | rfl | (simp; omega)), rfl⟩
theorem i_within (n lo hi : Int) (w : World) : Calls Try.prog 55 #[.int .i64 n, .int .i64 lo, .int .i64 hi] w fun e w' => e = .returned (.bool (decide (lo ≤ n) && decide (n ≤ hi))) ∧ w = w' := by
  by_cases h1 : lo ≤ n
  · by_cases h2 : n ≤ hi
    · rw [inR_yes h1 h2]
      go_enter Try.func55, Try.ntmps55
      go_wp2
      go_ret
      exact ⟨ret_bool (by first | rfl | simpa using h2), rfl⟩
    · rw [inR_no (fun h => h2 h.2)]
      go_enter Try.func55, Try.ntmps55
      go_wp2
      go_ret
      exact ⟨ret_bool (by first | rfl | (simp; omega)), rfl⟩
  · rw [inR_no (fun h => h1 h.1)]
    go_enter Try.func55, Try.ntmps55
    go_wp2
    go_ret
    exact ⟨ret_bool (by first | rfl | (simp; omega)), rfl⟩
theorem s_inR {n lo hi : Int} {b : Bool} (w : World) (h : (decide (lo ≤ n) && decide (n ≤ hi)) = b) : Calls Try.prog 54 #[.int .i64 n, .int .i64 lo, .int .i64 hi] w fun e w' => e = .returned (.bool b) ∧ w = w' := by
  rw [← h]; exact s_inRange n lo hi w
theorem i_inR {n lo hi : Int} {b : Bool} (w : World) (h : (decide (lo ≤ n) && decide (n ≤ hi)) = b) : Calls Try.prog 55 #[.int .i64 n, .int .i64 lo, .int .i64 hi] w fun e w' => e = .returned (.bool b) ∧ w = w' := by
  rw [← h]; exact i_within n lo hi w
theorem cut_mid (s : ByteArray) (i n : Nat) : (s.extract i (i + n)).data.toList = (s.data.toList.drop i).take n := by
  rw [Lib.extract_data, Nat.add_sub_cancel_left]
theorem ret_two (k : Int) (b : Bool) {k' : Int} {b' : Bool} (h1 : k = k') (h2 : b = b') : Ending.returned (.tuple #[.int .i64 k, .bool b]) = .returned (.tuple #[.int .i64 k', .bool b']) := by rw [h1, h2]

set_option maxHeartbeats 1000000 in
theorem i_OnceFrom0 (s : ByteArray) (i : Int) (w : World) (hs : s.size ≤ maxLen) (wi : (Lit.int .i64 i).wf = true) : Calls Try.prog 39 #[.string s, .int .i64 i] w fun e w' => e = .returned (.tuple #[.int .i64 (onceN s i), .bool (onceB s i)]) ∧ Below w.heap.size w w' := by
  cases h1 : vt s.data.toList
  · unfold onceN onceB; rw [once_no (.inl h1)]
    go_enter Try.func39, Try.ntmps39
    go_wp2_with fail
    refine (i_ValidText _ _ hs).mono ?_; rintro e w1 ⟨rfl, hb1⟩
    go_wp2
    go_ret2
    exact ⟨rfl, hb1⟩
  · have hsz := vt_size h1
    by_cases hi : 0 ≤ i ∧ i ≤ (s.size : Int) - 1
    · obtain ⟨hi0, hi1⟩ := hi
      obtain ⟨j, rfl⟩ := Int.eq_ofNat_of_zero_le hi0
      unfold onceN onceB; rw [once_yes h1 (by rw [list_len]; omega)]
      go_enter Try.func39, Try.ntmps39
      go_wp2_with fail
      refine (i_ValidText _ _ hs).mono ?_; rintro e w1 ⟨rfl, hb1⟩
      go_wp2_with fail
      refine (i_inR _ (inR_yes hi0 hi1)).mono ?_; rintro e w2 ⟨rfl, rfl⟩
      have s1 := hb1.size
      go_wp2
      have HV := Lib.hid h1; clear h1
      go_loopw [6] (fun p wr => ∃ k : Nat, 1 ≤ k ∧ k ≤ s.size - j + 1 ∧ p = .int .i64 k ∧ find1 (onceAt s.data.toList j) 1 (s.data.toList.length - j) = find1 (onceAt s.data.toList j) k (s.size - j + 1 - k) ∧ Below w.heap.size w wr) (fun p _ => s.size + 1 - (intOf p).toNat)
      case atStart => exact ⟨1, by omega, by omega, rfl, by rw [list_len]; rfl, hb1⟩
      case round =>
        obtain ⟨k, hk0, hk, rfl, hf, hb⟩ := hrel
        have HF := Lib.hid hf; clear hf
        by_cases hlt : j + k ≤ s.size
        · go_wp2_with fail
          refine (i_places s (s.extract j (j + k)) _ HV.out (by rw [ByteArray.size_extract]; unfold maxLen; omega)).mono ?_; rintro e w2 ⟨pa, n, ca, rfl, HN, hle, hr, hb2⟩
          have hb12 := hb.trans (hb2.mono hb.size)
          have HN2 := HN.out
          rw [cut_mid] at HN2
          have HN3 := Lib.hid HN2; clear HN2
          by_cases hn : n = 1
          · subst hn
            go_wp2
            go_ret2
            rw [HF.out, find1_yes (by unfold onceAt; rw [HN3.out]; rfl) (by omega)]
            exact ⟨rfl, hb12⟩
          · have hn2 : ((n : Int) == 1) = false := beq_eq_false_iff_ne.2 (by omega)
            go_wp2
            go_roundw
            case rel => exact ⟨k + 1, by omega, by omega, by go_num, by rw [HF.out, find1_no (by unfold onceAt; rw [HN3.out]; exact beq_eq_false_iff_ne.2 hn) (by omega)]; rfl, hb12⟩
            case measure => simp [intOf]; omega
        · go_wp2
          go_ret2
          rw [HF.out, show s.size - j + 1 - k = 0 by omega]
          exact ⟨rfl, hb⟩
    · unfold onceN onceB; rw [once_no (.inr (by rw [list_len]; exact hi))]
      go_enter Try.func39, Try.ntmps39
      go_wp2_with fail
      refine (i_ValidText _ _ hs).mono ?_; rintro e w1 ⟨rfl, hb1⟩
      go_wp2_with fail
      refine (i_inR _ (inR_no hi)).mono ?_; rintro e w2 ⟨rfl, rfl⟩
      go_wp2
      go_ret2
      exact ⟨rfl, hb1⟩

theorem win_yes {s : ByteArray} {at' i n : Nat} (h : ((s.extract at' (at' + n)).toList == (s.extract i (i + n)).toList) = true) (hi : i + n ≤ s.size) : atB s.data.toList ((s.data.toList.drop i).take n) at' = true := by
  have := str_eq h; rw [cut_mid, cut_mid] at this
  unfold atB; rw [List.length_take, List.length_drop, list_len, Nat.min_eq_left (by omega)]
  exact decide_eq_true this
theorem win_no {s : ByteArray} {at' i n : Nat} (h : ((s.extract at' (at' + n)).toList == (s.extract i (i + n)).toList) = false) (hi : i + n ≤ s.size) : atB s.data.toList ((s.data.toList.drop i).take n) at' = false := by
  have := str_ne h; rw [cut_mid, cut_mid] at this
  unfold atB; rw [List.length_take, List.length_drop, list_len, Nat.min_eq_left (by omega)]
  exact decide_eq_false this
theorem sel0_len_yes {P : Nat → Bool} {k : Nat} (h : P k = true) : (sel P 0 (k + 1)).length = (sel P 0 k).length + 1 := by
  rw [sel_yes (by rw [Nat.zero_add]; exact h)]; simp
theorem sel0_len_no {P : Nat → Bool} {k : Nat} (h : P k = false) : (sel P 0 (k + 1)).length = (sel P 0 k).length := by
  rw [sel_no (by rw [Nat.zero_add]; exact h)]

set_option maxHeartbeats 2000000 in
theorem s_OnceFrom0 (s : ByteArray) (i : Int) (w : World) (hs : s.size ≤ maxLen) (wi : (Lit.int .i64 i).wf = true) : Calls Try.prog 38 #[.string s, .int .i64 i] w fun e w' => e = .returned (.tuple #[.int .i64 (onceN s i), .bool (onceB s i)]) ∧ Below w.heap.size w w' := by
  cases h1 : vt s.data.toList
  · unfold onceN onceB; rw [once_no (.inl h1)]
    go_enter Try.func38, Try.ntmps38
    go_wp2_with fail
    refine (s_validText _ _ hs).mono ?_; rintro e w1 ⟨rfl, rfl⟩
    go_wp2
    go_ret2
    exact ⟨rfl, Below.refl _ _⟩
  · have hsz := vt_size h1
    by_cases hi : 0 ≤ i ∧ i ≤ (s.size : Int) - 1
    · obtain ⟨hi0, hi1⟩ := hi
      obtain ⟨j, rfl⟩ := Int.eq_ofNat_of_zero_le hi0
      unfold onceN onceB; rw [once_yes h1 (by rw [list_len]; omega)]
      go_enter Try.func38, Try.ntmps38
      go_wp2_with fail
      refine (s_validText _ _ hs).mono ?_; rintro e w1 ⟨rfl, rfl⟩
      go_wp2_with fail
      refine (s_inR _ (inR_yes hi0 hi1)).mono ?_; rintro e w2 ⟨rfl, rfl⟩
      go_wp2
      have HV := Lib.hid h1; clear h1
      go_loopw [6, 7, 8] (fun p _ _ wr => ∃ k : Nat, 1 ≤ k ∧ k ≤ s.size - j + 1 ∧ p = .int .i64 k ∧ find1 (onceAt s.data.toList j) 1 (s.data.toList.length - j) = find1 (onceAt s.data.toList j) k (s.size - j + 1 - k) ∧ Still w wr) (fun p _ _ _ => s.size + 1 - (intOf p).toNat)
      case atStart => exact ⟨1, by omega, by omega, rfl, by rw [list_len]; rfl, Still.refl _⟩
      case round =>
        obtain ⟨k, hk0, hk, rfl, hf, hst⟩ := hrel
        have HF := Lib.hid hf; clear hf
        obtain ⟨wo, rfl⟩ : ∃ wo : World, wo = wr := ⟨_, rfl⟩
        by_cases hlt : j + k ≤ s.size
        · go_wp2
          go_loopw [7, 8] (fun c a wr => ∃ m n : Nat, m ≤ s.size + 1 ∧ n ≤ m ∧ a = .int .i64 m ∧ c = .int .i64 n ∧ (sel (atB s.data.toList ((s.data.toList.drop j).take k)) 0 m).length = n ∧ Still w wr) (fun _ a _ => s.size + 1 - (intOf a).toNat)
          case atStart => exact ⟨0, 0, by omega, by omega, rfl, rfl, rfl, hst⟩
          case round =>
            obtain ⟨m, n, hm, hn, rfl, rfl, hc, hst2⟩ := hrel
            have HC := Lib.hid hc; clear hc
            by_cases hml : m + k ≤ s.size
            · go_wp2
              have e1 : IntKind.i64.wrap ((m : Int) + k) = m + k := IntWalk.i64_in _ (by omega)
              have e2 : ((m : Int) + k) ≤ s.size := by omega
              have e3 : ((m : Int) + k).toNat = m + k := by omega
              have e4 : (0 : Int) ≤ (m : Int) + k := by omega
              have e5 : IntKind.i64.wrap ((j : Int) + k) = j + k := IntWalk.i64_in _ (by omega)
              have e6 : ((j : Int) + k) ≤ s.size := by omega
              have e7 : ((j : Int) + k).toNat = j + k := by omega
              have e8 : (0 : Int) ≤ (j : Int) + k := by omega
              have e9 : m ≤ s.size := by omega
              have e10 : (m : Int) ≤ m + k := by omega
              have e11 : (j : Int) ≤ j + k := by omega
              go_quiet (fail)
              clear e1 e5
              go_wp2
              · have hy := win_yes ‹_› hlt
                go_roundw
                case rel => exact ⟨m + 1, n + 1, by omega, by omega, by go_num, by go_num, by rw [sel0_len_yes hy, HC.out], hst2.drewN _⟩
                case measure => simp [intOf]; omega
              · have hy := win_no ‹_› hlt
                go_roundw
                case rel => exact ⟨m + 1, n, by omega, by omega, by go_num, by go_num, by rw [sel0_len_no hy, HC.out], hst2.drewN _⟩
                case measure => simp [intOf]; omega
            · have ew : ((s.data.toList.drop j).take k).length = k := by rw [List.length_take, List.length_drop, list_len]; omega
              have ep := places_upto (s := s.data.toList) (t := (s.data.toList.drop j).take k) (by rw [ew]; omega) (k := m) (by rw [ew, list_len]; omega)
              have HP := Lib.hid ep; clear ep ew
              by_cases hn1 : n = 1
              · subst hn1
                go_wp2
                go_ret2
                rw [HF.out, find1_yes (by unfold onceAt; rw [HP.out, HC.out]; rfl) (by omega)]
                exact ⟨rfl, hst2.1⟩
              · have hn2 : ((n : Int) == 1) = false := beq_eq_false_iff_ne.2 (by omega)
                go_wp2
                go_roundw
                case rel => exact ⟨k + 1, by omega, by omega, by go_num, by rw [HF.out, find1_no (by unfold onceAt; rw [HP.out, HC.out]; exact beq_eq_false_iff_ne.2 hn1) (by omega)]; rfl, hst2⟩
                case measure => simp [intOf]; omega
        · go_wp2
          go_ret2
          rw [HF.out, show s.size - j + 1 - k = 0 by omega]
          exact ⟨rfl, hst.1⟩
    · unfold onceN onceB; rw [once_no (.inr (by rw [list_len]; exact hi))]
      go_enter Try.func38, Try.ntmps38
      go_wp2_with fail
      refine (s_validText _ _ hs).mono ?_; rintro e w1 ⟨rfl, rfl⟩
      go_wp2_with fail
      refine (s_inR _ (inR_no hi)).mono ?_; rintro e w2 ⟨rfl, rfl⟩
      go_wp2
      go_ret2
      exact ⟨rfl, Below.refl _ _⟩
theorem s_OnceFrom (s : ByteArray) (i : Int) (w : World) (hs : s.size ≤ maxLen) (wi : (Lit.int .i64 i).wf = true) : Calls Try.prog 38 #[.string s, .int .i64 i] w fun e w' => e = .returned (.tuple #[.int .i64 (onceN s i), .bool (onceB s i)]) ∧ Below w.heap.size w w' := s_OnceFrom0 s i w hs wi
theorem i_OnceFrom (s : ByteArray) (i : Int) (w : World) (hs : s.size ≤ maxLen) (wi : (Lit.int .i64 i).wf = true) : Calls Try.prog 39 #[.string s, .int .i64 i] w fun e w' => e = .returned (.tuple #[.int .i64 (onceN s i), .bool (onceB s i)]) ∧ Below w.heap.size w w' := i_OnceFrom0 s i w hs wi
end Go.Proofs.Ytefnaimopkmpmaa
