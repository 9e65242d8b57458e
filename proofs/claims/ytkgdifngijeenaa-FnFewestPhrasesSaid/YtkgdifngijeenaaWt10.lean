/- Walk of the law FnFewestPhrases over drawn texts: one letter more is at most one phrase more. -/
import Derived.Test.YtkgdifngijeenaaFw
import Derived.Test.YtkgdifngijeenaaOpB
namespace Go.Proofs.Ytkgdifngijeenaa
open Go.RowKit
set_option linter.unusedVariables false

theorem sz41 {s : ByteArray} (h : s.size ≤ 41) : s.size ≤ maxLen := by unfold maxLen; omega
theorem empty_yes {u : ByteArray} (h : ¬ 0 < u.size) : u.toList.isEmpty = true := by
  rw [Lib.toList_data]; have : u.data.toList.length = 0 := by rw [Array.length_toList]; show u.size = 0; omega
  rw [List.length_eq_zero_iff.1 this]; rfl
theorem empty_no {u : ByteArray} (h : 0 < u.size) : u.toList.isEmpty = false := by
  rw [Lib.toList_data]; have : 0 < u.data.toList.length := by simpa using h
  cases e : u.data.toList with
  | nil => rw [e] at this; simp at this
  | cons a l => rfl
theorem cut_last {s : ByteArray} (h : 0 < s.size) : s.data.toList = (s.extract 0 (s.size - 1)).data.toList ++ [s.data.toList[s.size - 1]?.getD 0] := by
  rw [pre_take]
  have e := List.take_append_drop (s.size - 1) s.data.toList
  have h2 : s.data.toList.drop (s.size - 1) = [s.data.toList[s.size - 1]?.getD 0] := by
    rw [drop_cons s (s.size - 1) (by omega), List.drop_of_length_le (by rw [list_len]; omega), List.getElem?_eq_getElem (by rw [list_len]; omega)]; rfl
  rw [h2] at e; exact e.symm
theorem vt_less {t : List UInt8} {z : UInt8} (h : vt (t ++ [z]) = true) : vt t = true := by
  unfold vt at *
  rw [Bool.and_eq_true, decide_eq_true_eq, List.all_eq_true] at *
  rw [List.length_append, List.length_singleton] at h
  exact ⟨fun x hx => h.1 x (by simp [hx]), by omega⟩
theorem few_less {s : ByteArray} (h0 : 0 < s.size) (hv : vt s.data.toList = true) :
    fewI (s.extract 0 (s.size - 1)).data.toList ≤ fewI s.data.toList ∧ fewI s.data.toList ≤ fewI (s.extract 0 (s.size - 1)).data.toList + 1 := by
  have e := cut_last h0
  obtain ⟨t, ht⟩ : ∃ t, t = (s.extract 0 (s.size - 1)).data.toList := ⟨_, rfl⟩
  rw [← ht] at e ⊢
  rw [e] at hv ⊢
  rw [fewI_yes hv, fewI_yes (vt_less hv)]
  exact few_step t _ t.length 0 (by omega) (by omega)
theorem fewI_range {s : List UInt8} : -1 ≤ fewI s ∧ fewI s ≤ 40 ∧ (vt s = true → 0 ≤ fewI s) := by
  cases h : vt s with
  | false => rw [fewI_no h]; exact ⟨by omega, by omega, fun h => by cases h⟩
  | true =>
    rw [fewI_yes h]
    have := few_bound s s.length 0
    have hl : s.length ≤ 40 := by unfold vt at h; rw [Bool.and_eq_true, decide_eq_true_eq] at h; exact h.2
    exact ⟨by omega, by omega, fun _ => this.1⟩
theorem fewI_nil {s : ByteArray} (h : ¬ 0 < s.size) : fewI s.data.toList = 0 := by
  have e : s.data.toList = [] := List.length_eq_zero_iff.1 (by rw [list_len]; omega)
  rw [e]; rfl

set_option maxHeartbeats 1000000 in
theorem walk_FnFewestPhrases (pa : Option Addr) (n cap : Nat) (w : World) (hx : CodeAt w pa n cap) :
    Calls Try.prog 8 #[.slice pa n cap] w fun e w' => e = .returned (.bool true) ∧ Below w.heap.size w w' := by
  have hcap := hx.2.1; have hnc := hx.1
  unfold maxLen at hcap
  have HC := Lib.hid hx; clear hx
  by_cases hn : n ≤ 1048576
  · go_enter Try.func8, Try.ntmps8
    go_wp2_with fail
    refine (d_DrawFewestPhrases _ _ _ _ HC.out).mono ?_; rintro e w1 ⟨s, rfl, hs, hb1⟩
    go_wp2_with fail
    refine (i_FewestPhrases s _ (sz41 hs)).mono ?_; rintro e w2 ⟨rfl, hb2⟩
    have hB2 := below_then hb1 hb2; clear hb1 hb2
    go_wp2_with fail
    refine (s_FewestPhrases s _ (sz41 hs)).mono ?_; rintro e w3 ⟨rfl, hb3⟩
    have hB3 := below_then hB2 hb3; clear hB2 hb3
    have hrg := @fewI_range s.data.toList
    cases h1 : vt s.data.toList
    · have hno := fewI_no h1
      have HNO := Lib.hid hno
      rw [hno]
      clear hno hrg h1
      go_wp2_with fail
      refine (s_FewestPhrases s _ (sz41 hs)).mono ?_; rintro e w4 ⟨rfl, hb4⟩
      rw [HNO.out]
      go_wp2
      go_ret
      exact ⟨rfl, below_then hB3 hb4⟩
    · have hr0 := hrg.2.2 h1
      have hr1 := hrg.2.1
      clear hrg
      by_cases h0 : 0 < s.size
      · have he := empty_no h0
        have hl := few_less h0 h1
        have hrg2 := @fewI_range (s.extract 0 (s.size - 1)).data.toList
        obtain ⟨c, hc⟩ : ∃ c, c = fewI s.data.toList := ⟨_, rfl⟩
        obtain ⟨d, hd⟩ : ∃ d, d = fewI (s.extract 0 (s.size - 1)).data.toList := ⟨_, rfl⟩
        rw [← hc] at hl hr0 hr1 ⊢
        rw [← hd] at hl hrg2
        obtain ⟨l1, l2⟩ := hl
        obtain ⟨r1, r2, _⟩ := hrg2
        have HD := Lib.hid hd
        have hsx : (s.extract 0 (s.size - 1)).size ≤ 41 := by rw [ByteArray.size_extract]; omega
        clear hc hd h1
        go_wp2_with fail
        refine (i_FewestPhrases (s.extract 0 (s.size - 1)) _ (sz41 hsx)).mono ?_; rintro e w4 ⟨rfl, hb4⟩
        rw [← HD.out]
        go_wp2
        go_ret
        exact ⟨rfl, below_then hB3 hb4⟩
      · have he := empty_yes h0
        have hz := fewI_nil h0
        rw [hz]
        clear hz hr0 hr1
        go_wp2
        go_ret
        exact ⟨rfl, hB3⟩
  · go_enter Try.func8, Try.ntmps8
    go_wp2
    go_ret
    exact ⟨rfl, Below.refl _ _⟩
end Go.Proofs.Ytkgdifngijeenaa
