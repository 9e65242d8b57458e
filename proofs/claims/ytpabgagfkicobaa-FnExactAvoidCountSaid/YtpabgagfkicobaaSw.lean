/- validWords: the reference's walk. -/
import Derived.Test.YtpabgagfkicobaaSs
namespace Go.Proofs.Ytpabgagfkicobaa
open Go.RowKit
set_option linter.unusedVariables false

/-- A word: 1 up to 6 letters. -/
def wOk (x : ByteArray) : Bool := vt x.data.toList && (decide (1 ≤ x.size) && decide (x.size ≤ 6))
def wsOk (xs : List ByteArray) : Bool := xs.all wOk && decide (xs.length ≤ 6)
theorem wsOk_bad {xs : List ByteArray} {k : Nat} (hk : k < xs.length) (h : wOk (xs[k]?.getD ⟨#[]⟩) = false) : wsOk xs = false := by
  unfold wsOk
  have : xs.all wOk = false := by
    rw [List.all_eq_false]
    rw [List.getElem?_eq_getElem hk] at h
    exact ⟨_, List.getElem_mem hk, by simpa using h⟩
  rw [this]; rfl
theorem wsOk_all {xs : List ByteArray} (h : ∀ i, i < xs.length → wOk (xs[i]?.getD ⟨#[]⟩) = true) : wsOk xs = decide (xs.length ≤ 6) := by
  unfold wsOk
  have : xs.all wOk = true := by
    rw [List.all_eq_true]
    intro x hx
    obtain ⟨i, hi, e⟩ := List.getElem_of_mem hx
    have := h i hi
    rw [List.getElem?_eq_getElem hi] at this
    rw [← e]; exact this
  rw [this]; rfl
theorem inR_yes {n lo hi : Int} (h1 : lo ≤ n) (h2 : n ≤ hi) : (decide (lo ≤ n) && decide (n ≤ hi)) = true := by simp [h1, h2]
theorem inR_no {n lo hi : Int} (h : ¬ (lo ≤ n ∧ n ≤ hi)) : (decide (lo ≤ n) && decide (n ≤ hi)) = false := by
  cases e : (decide (lo ≤ n) && decide (n ≤ hi)) with
  | false => rfl
  | true => rw [Bool.and_eq_true, decide_eq_true_eq, decide_eq_true_eq] at e; exact absurd e h
theorem s_inRangeW (n lo hi : Int) (w : World) : Calls Try.prog 32 #[.int .i64 n, .int .i64 lo, .int .i64 hi] w fun e w' => e = .returned (.bool (decide (lo ≤ n) && decide (n ≤ hi))) ∧ w = w' := by
  by_cases h1 : lo ≤ n
  · by_cases h2 : n ≤ hi
    · rw [inR_yes h1 h2]
      go_enter Try.func32, Try.ntmps32
      go_wp2
      go_ret
      exact ⟨ret_bool (by first | rfl | simpa using h2), rfl⟩
    · rw [inR_no (fun h => h2 h.2)]
      go_enter Try.func32, Try.ntmps32
      go_wp2
      go_ret
      exact ⟨ret_bool (by first | rfl | (simp; omega)), rfl⟩
  · rw [inR_no (fun h => h1 h.1)]
    go_enter Try.func32, Try.ntmps32
    go_wp2
    go_ret
    exact ⟨ret_bool (by first | rfl | (simp; omega)), rfl⟩
theorem i_within (n lo hi : Int) (w : World) : Calls Try.prog 34 #[.int .i64 n, .int .i64 lo, .int .i64 hi] w fun e w' => e = .returned (.bool (decide (lo ≤ n) && decide (n ≤ hi))) ∧ w = w' := by
  by_cases h1 : lo ≤ n
  · by_cases h2 : n ≤ hi
    · rw [inR_yes h1 h2]
      go_enter Try.func34, Try.ntmps34
      go_wp2
      go_ret
      exact ⟨ret_bool (by first | rfl | simpa using h2), rfl⟩
    · rw [inR_no (fun h => h2 h.2)]
      go_enter Try.func34, Try.ntmps34
      go_wp2
      go_ret
      exact ⟨ret_bool (by first | rfl | (simp; omega)), rfl⟩
  · rw [inR_no (fun h => h1 h.1)]
    go_enter Try.func34, Try.ntmps34
    go_wp2
    go_ret
    exact ⟨ret_bool (by first | rfl | (simp; omega)), rfl⟩
theorem s_inR {n lo hi : Int} {b : Bool} (w : World) (h : (decide (lo ≤ n) && decide (n ≤ hi)) = b) : Calls Try.prog 32 #[.int .i64 n, .int .i64 lo, .int .i64 hi] w fun e w' => e = .returned (.bool b) ∧ w = w' := by
  rw [← h]; exact s_inRangeW n lo hi w
theorem i_inR {n lo hi : Int} {b : Bool} (w : World) (h : (decide (lo ≤ n) && decide (n ≤ hi)) = b) : Calls Try.prog 34 #[.int .i64 n, .int .i64 lo, .int .i64 hi] w fun e w' => e = .returned (.bool b) ∧ w = w' := by
  rw [← h]; exact i_within n lo hi w
theorem cut_mid (s : ByteArray) (i n : Nat) : (s.extract i (i + n)).data.toList = (s.data.toList.drop i).take n := by
  rw [Lib.extract_data, Nat.add_sub_cancel_left]
theorem ret_two (k : Int) (b : Bool) {k' : Int} {b' : Bool} (h1 : k = k') (h2 : b = b') : Ending.returned (.tuple #[.int .i64 k, .bool b]) = .returned (.tuple #[.int .i64 k', .bool b']) := by rw [h1, h2]--@end
set_option maxHeartbeats 2000000 in
theorem s_validWords (pa : Option Addr) (n ca : Nat) (xs : List ByteArray) (lo hi : Nat) (w : World) (hl : xs.length = n) (hn : n ≤ 1048576) (hsz : ∀ x ∈ xs, x.size ≤ maxLen) (hr : RowF w lo hi pa n (strF xs)) :
    Calls Try.prog 27 #[.slice pa n ca] w fun e w' => e = .returned (.bool (wsOk xs)) ∧ Still w w' := by
  have HL := Lib.hid hl; have HS := Lib.hid hsz; clear hl hsz
  go_enter Try.func27, Try.ntmps27
  go_wp2
  go_loopw [3] (fun i wr => ∃ k : Nat, k ≤ n ∧ i = .int .i64 k ∧ Hid (∀ i, i < k → wOk (xs[i]?.getD ⟨#[]⟩) = true) ∧ Still w wr) (fun i _ => n - (intOf i).toNat)
  case atStart => exact ⟨0, Nat.zero_le _, rfl, Lib.hid (fun i hi => by omega), Still.refl _⟩
  case round =>
    obtain ⟨k, hk, rfl, HK, hst⟩ := hrel
    by_cases hlt : k < n
    · obtain ⟨g, rfl, _, _, c0, _⟩ := (hr.kept hst.1) k hlt
      have hzs := str_size HS.out k
      unfold strF at c0
      obtain ⟨z, hz⟩ : ∃ z, z = xs[k]?.getD ⟨#[]⟩ := ⟨_, rfl⟩
      rw [← hz] at c0 hzs
      have e1 : (k : Int) < n := by omega
      cases hv : vt z.data.toList with
      | false =>
        have hb := wsOk_bad (xs := xs) (k := k) (by rw [HL.out]; exact hlt) (by rw [← hz]; unfold wOk; rw [hv]; rfl)
        have HB := Lib.hid hb
        clear hb hz
        go_wp2_with (first | (go_at_call 48; refine (s_validText z _ hzs).mono ?_; rintro e w' ⟨rfl, rfl⟩) | (go_at_call 32; refine (s_inRangeW _ _ _ _).mono ?_; rintro e w' ⟨rfl, rfl⟩))
        go_ret
        exact ⟨by rw [HB.out]; rfl, hst⟩
      | true =>
        by_cases hin : 1 ≤ z.size ∧ z.size ≤ 6
        · have d1 : decide ((1 : Int) ≤ z.size) = true := decide_eq_true (by omega)
          have d2 : decide ((z.size : Int) ≤ 6) = true := decide_eq_true (by omega)
          have hok : wOk (xs[k]?.getD ⟨#[]⟩) = true := by rw [← hz]; unfold wOk; rw [hv, decide_eq_true hin.1, decide_eq_true hin.2]; rfl
          have HOK := Lib.hid hok
          obtain ⟨i1, i2⟩ := hin
          clear hok hz
          go_wp2_with (first | (go_at_call 48; refine (s_validText z _ hzs).mono ?_; rintro e w' ⟨rfl, rfl⟩) | (go_at_call 32; refine (s_inRangeW _ _ _ _).mono ?_; rintro e w' ⟨rfl, rfl⟩))
          go_roundw
          case rel => exact ⟨k + 1, by omega, by go_num, Lib.hid (fun i hi => by
              by_cases e : i = k
              · subst e; exact HOK.out
              · exact HK.out i (by omega)), hst⟩
          case measure => simp [intOf]; omega
        · have hb := wsOk_bad (xs := xs) (k := k) (by rw [HL.out]; exact hlt) (by
            rw [← hz]; unfold wOk; rw [hv, Bool.true_and]
            by_cases h1 : 1 ≤ z.size
            · rw [decide_eq_false (p := z.size ≤ 6) (fun h => hin ⟨h1, h⟩), Bool.and_false]
            · rw [decide_eq_false h1, Bool.false_and])
          have HB := Lib.hid hb
          have hd : (decide ((1 : Int) ≤ z.size) && decide ((z.size : Int) ≤ 6)) = false := by
            by_cases h1 : 1 ≤ z.size
            · rw [decide_eq_false (p := (z.size : Int) ≤ 6) (fun h => hin ⟨h1, by omega⟩), Bool.and_false]
            · rw [decide_eq_false (p := (1 : Int) ≤ z.size) (by omega), Bool.false_and]
          clear hb hz hin
          go_wp2_with (first | (go_at_call 48; refine (s_validText z _ hzs).mono ?_; rintro e w' ⟨rfl, rfl⟩) | (go_at_call 32; refine (s_inRangeW _ _ _ _).mono ?_; rintro e w' ⟨rfl, rfl⟩; rw [hd]))
          go_ret
          exact ⟨by rw [HB.out]; rfl, hst⟩
    · obtain rfl : k = n := by omega
      have hend := wsOk_all (xs := xs) (by rw [HL.out]; exact HK.out)
      rw [HL.out] at hend
      have HE := Lib.hid hend; clear hend
      go_wp2
      go_ret
      refine ⟨?_, hst⟩
      rw [HE.out]
      by_cases h6 : k ≤ 6
      · rw [decide_eq_true h6, decide_eq_true (by omega)]; rfl
      · rw [decide_eq_false h6, decide_eq_false (by omega)]; rfl
end Go.Proofs.Ytpabgagfkicobaa
