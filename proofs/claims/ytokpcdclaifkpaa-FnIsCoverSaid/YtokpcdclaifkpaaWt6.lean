/- Walk of the law FnIsCover over drawn texts: covers stand at both ends. -/
import Derived.Test.YtokpcdclaifkpaaWt2
namespace Go.Proofs.Ytokpcdclaifkpaa
open Go.RowKit
set_option linter.unusedVariables false

def gapAt (xs : List Int) (m : Nat) (i : Nat) : Bool := i == 0 || decide (xs[i]?.getD 0 - xs[i - 1]?.getD 0 ≤ m)
def endsB (xs : List Int) (m L : Nat) (n : Nat) : Bool := (xs[0]?.getD 0 == 0) && (xs[n - 1]?.getD 0 + m == (L : Int))
theorem take_getD {xs : List Int} {k : Nat} (h : k < xs.length) : xs.take (k + 1) = xs.take k ++ [(xs[k]?.getD (0 : Int) : Int)] := by
  rw [List.take_add_one, List.getElem?_eq_getElem h]; rfl
theorem covL_gaps {xs : List Int} {m : Nat} (h0 : (0 : Int) ≤ xs[0]?.getD (0 : Int)) (k : Nat) (hk : k < xs.length) :
    covL m (xs.take (k + 1)) = if (xs[0]?.getD 0 == 0) && allTo (gapAt xs m) (k + 1) then some (xs[k]?.getD 0 + m) else none := by
  induction k with
  | zero =>
    rw [take_getD hk, List.take_zero, List.nil_append]
    show covStep m (some 0) (xs[0]?.getD 0) = _
    have ht : allTo (gapAt xs m) (0 + 1) = true := rfl
    rw [ht, Bool.and_true]
    by_cases e : xs[0]?.getD 0 = 0
    · rw [if_pos (beq_iff_eq.2 e), covStep, if_neg (by omega)]
    · rw [if_neg (by rw [beq_iff_eq]; exact e), covStep, if_pos (by omega)]
  | succ k ih =>
    rw [take_getD hk, covL_snoc, ih (by omega)]
    have ha : allTo (gapAt xs m) (k + 1 + 1) = (allTo (gapAt xs m) (k + 1) && gapAt xs m (k + 1)) := rfl
    rw [ha]
    cases hA : (xs[0]?.getD 0 == 0) && allTo (gapAt xs m) (k + 1) with
    | false =>
      rw [← Bool.and_assoc, hA, Bool.false_and]; rfl
    | true =>
      rw [← Bool.and_assoc, hA, Bool.true_and, if_pos rfl]
      have hg : gapAt xs m (k + 1) = decide (xs[k + 1]?.getD 0 - xs[k]?.getD 0 ≤ m) := rfl
      rw [hg]
      by_cases e : xs[k + 1]?.getD 0 - xs[k]?.getD 0 ≤ m
      · rw [if_pos (decide_eq_true e), covStep, if_neg (by omega)]
      · rw [if_neg (by rw [decide_eq_true_eq]; exact e), covStep, if_pos (by omega)]
theorem cover_ends {s w : List UInt8} {n : Nat} (hn : (placesL s w).length = n) (hn0 : 0 < n) : coverB s w = (endsB (placesL s w) w.length s.length n && allTo (gapAt (placesL s w) w.length) n) := by
  obtain ⟨k, rfl⟩ : ∃ k, n = k + 1 := ⟨n - 1, by omega⟩
  have h0 : (0 : Int) ≤ (placesL s w)[0]?.getD (0 : Int) := by
    have := sel_mem (List.getElem_mem (l := placesL s w) (n := 0) (by omega))
    rw [List.getElem?_eq_getElem (by omega)]; simp only [Option.getD_some]; omega
  have := covL_gaps (m := w.length) h0 k (by omega)
  rw [List.take_of_length_le (by omega)] at this
  unfold coverB endsB
  rw [this, Nat.add_sub_cancel]
  cases hA : ((placesL s w)[0]?.getD 0 == 0) with
  | false => simp
  | true =>
    cases hG : allTo (gapAt (placesL s w) w.length) (k + 1) with
    | false => simp
    | true =>
      simp only [Bool.and_true, Bool.true_and, if_true]
      rw [Bool.eq_iff_iff, decide_eq_true_eq, beq_iff_eq]
      constructor
      · intro h; exact Option.some.inj h
      · intro h; rw [h]
theorem cover_none {s w : List UInt8} (hs : 0 < s.length) (hn : (placesL s w).length = 0) : coverB s w = false := by
  unfold coverB; rw [List.length_eq_zero_iff.1 hn]
  refine decide_eq_false ?_
  intro h
  have h2 : some (0 : Int) = some (s.length : Int) := h
  have := Option.some.inj h2
  omega
theorem isCover_yes {s t : ByteArray} (h1 : vt s.data.toList = true) (h2 : vt t.data.toList = true) (h3 : s.data.toList.isEmpty = false) (h4 : t.data.toList.isEmpty = false) : isCoverB s t = coverB s.data.toList t.data.toList := by
  unfold isCoverB; rw [h1, h2, h3, h4]; rfl

set_option maxHeartbeats 8000000 in
theorem walk_FnIsCover (pa : Option Addr) (n cap : Nat) (w : World) (hx : CodeAt w pa n cap) :
    Calls Try.prog 5 #[.slice pa n cap] w fun e w' => e = .returned (.bool true) ∧ Below w.heap.size w w' := by
  have hcap := hx.2.1; have hnc := hx.1
  unfold maxLen at hcap
  have HC := Lib.hid hx; clear hx
  by_cases hn : n ≤ 1048576
  · go_enter Try.func5, Try.ntmps5
    go_wp2_with fail
    refine (d_DrawIsCover _ _ _ _ HC.out).mono ?_; rintro e w1 ⟨s, t, rfl, hs, ht, hb1⟩
    go_wp2_with fail
    refine (i_IsCover s t _ (size41 hs) (size41 ht)).mono ?_; rintro e w2 ⟨rfl, hb2⟩
    have hB2 := Below.then hb1 hb2; clear hb1 hb2
    go_wp2_with fail
    refine (s_IsCover s t _ (size41 hs) (size41 ht)).mono ?_; rintro e w3 ⟨rfl, hb3⟩
    have hB3 := Below.then hB2 hb3; clear hB2 hb3
    go_wp2_with fail
    refine (i_ValidText s _ (size41 hs)).mono ?_; rintro e w4 ⟨rfl, hb4⟩
    have hB4 := Below.then hB3 hb4; clear hB3 hb4
    cases h1 : vt s.data.toList
    · go_wp2_with fail
      refine (s_IsCover s t _ (size41 hs) (size41 ht)).mono ?_; rintro e w5 ⟨rfl, hb5⟩
      go_wp2
      go_ret
      exact ⟨rfl, Below.then hB4 hb5⟩
    · go_wp2_with fail
      refine (i_ValidText t _ (size41 ht)).mono ?_; rintro e w5 ⟨rfl, hb5⟩
      have hB5 := Below.then hB4 hb5; clear hB4 hb5
      cases h2 : vt t.data.toList
      · go_wp2_with fail
        refine (s_IsCover s t _ (size41 hs) (size41 ht)).mono ?_; rintro e w6 ⟨rfl, hb6⟩
        go_wp2
        go_ret
        exact ⟨rfl, Below.then hB5 hb6⟩
      · cases h3 : s.data.toList.isEmpty
        · have he3 := emp_no' h3
          cases h4 : t.data.toList.isEmpty
          · have he4 := emp_no' h4
            have hsz := vt_size h1; have htz := vt_size h2
            have hs0 := size_pos h3; have ht0 := size_pos h4
            have HCv := Lib.hid (isCover_yes h1 h2 h3 h4)
            have HP := Lib.hid (placesOf_yes h1 h2 h4)
            go_wp2_with fail
            refine (i_PlacesOf s t _ (size41 hs) (size41 ht)).mono ?_; rintro e w6 ⟨pb, m, cb, rfl, HN, hle, hr, hb6⟩
            have hB6 := Below.then hB5 hb6; clear hB5 hb6
            have hlb := HN.out
            rw [HP.out] at hr hlb
            have HL := Lib.hid hlb; clear hlb
            by_cases hm0 : m = 0
            · have hc := HCv.out.trans (cover_none (by rw [list_len]; exact hs0) (HL.out.trans hm0))
              have hmz : ((m : Int) == 0) = true := beq_iff_eq.2 (by omega)
              clear hm0
              go_wp2
              go_ret
              exact ⟨rfl, hB6⟩
            · have hmz : ((m : Int) == 0) = false := beq_eq_false_iff_ne.2 (by omega)
              have hce := HCv.out.trans (cover_ends HL.out (by omega))
              rw [list_len, list_len] at hce
              have HE := Lib.hid hce; clear hce
              obtain ⟨g, rfl, _, _, c0, _⟩ := hr.getInt (i := 0) (by rw [HL.out]; omega)
              obtain ⟨g2, e2, _, _, c1, _⟩ := hr.getInt (i := m - 1) (by rw [HL.out]; omega)
              cases e2
              have b0 := sel_mem (List.getElem_mem (l := placesL s.data.toList t.data.toList) (n := 0) (by rw [HL.out]; omega))
              have b1 := sel_mem (List.getElem_mem (l := placesL s.data.toList t.data.toList) (n := m - 1) (by rw [HL.out]; omega))
              rw [list_len] at b0 b1
              have hends : endsB (placesL s.data.toList t.data.toList) t.size s.size m = (((placesL s.data.toList t.data.toList)[0]?.getD 0 == 0) && ((placesL s.data.toList t.data.toList)[m - 1]?.getD 0 + t.size == (s.size : Int))) := rfl
              obtain ⟨x0, hx0⟩ : ∃ x, x = (placesL s.data.toList t.data.toList)[0]?.getD 0 := ⟨_, rfl⟩
              obtain ⟨x1, hx1⟩ : ∃ x, x = (placesL s.data.toList t.data.toList)[m - 1]?.getD 0 := ⟨_, rfl⟩
              have b1' : 0 ≤ x1 ∧ x1 < 40 := by rw [hx1, List.getElem?_eq_getElem (by rw [HL.out]; omega)]; simp only [Option.getD_some]; omega
              rw [← hx0] at c0 hends
              rw [← hx1] at c1 hends
              clear hx0 hx1 b0 b1
              obtain ⟨hb10, hb11⟩ := b1'
              obtain ⟨A, hA⟩ : ∃ A, A = endsB (placesL s.data.toList t.data.toList) t.size s.size m := ⟨_, rfl⟩
              rw [← hA] at hends
              have HE2 : Hid (isCoverB s t = (A && allTo (gapAt (placesL s.data.toList t.data.toList) t.size) m)) := Lib.hid (by rw [hA]; exact HE.out)
              have HEN := Lib.hid hends
              clear hends hA HE
              obtain ⟨m', rfl⟩ : ∃ m', m = m' + 1 := ⟨m - 1, by omega⟩
              rw [Nat.add_sub_cancel] at c1
              have loop : True := trivial
              by_cases hx00 : x0 = 0
              · have hx0b : (x0 == 0) = true := beq_iff_eq.2 hx00
                have HX := Lib.hid hx00; clear hx00
                go_wp2
                go_loopw [8, 9] (fun a i wr => ∃ (k : Nat) (b : Bool), 1 ≤ k ∧ k ≤ m' + 1 ∧ i = .int .i64 k ∧ a = .bool b ∧ b = (A && allTo (gapAt (placesL s.data.toList t.data.toList) t.size) k) ∧ Below w.heap.size w wr ∧ Row wr w5.heap.size w6.heap.size (some ⟨g, 0, none⟩) (ints (placesL s.data.toList t.data.toList))) (fun _ i _ => m' + 1 - (intOf i).toNat)
                case atStart => exact ⟨1, _, by omega, by omega, rfl, rfl, by rw [HEN.out, HX.out]; simp [allTo, gapAt], hB6, hr⟩
                case round =>
                  obtain ⟨k, b, hk1, hk, rfl, rfl, hbb, hB, hrk⟩ := hrel
                  clear hB6 hr
                  have HBB := Lib.hid hbb; clear hbb
                  by_cases hlt : k < m' + 1
                  · have hstep : ∀ q : Nat, (A && allTo (gapAt (placesL s.data.toList t.data.toList) t.size) (q + 1)) = ((A && allTo (gapAt (placesL s.data.toList t.data.toList) t.size) q) && gapAt (placesL s.data.toList t.data.toList) t.size q) := fun q => (Bool.and_assoc _ _ _).symm
                    have hst := hstep k
                    rw [← HBB.out] at hst
                    cases b
                    · have HST := Lib.hid hst; clear hst hstep
                      go_wp2
                      go_quiet (fail)
                      go_wp2
                      go_roundw
                      case rel => exact ⟨k + 1, false, by omega, by omega, by go_num, rfl, by rw [HST.out]; rfl, below_drewN hB _, hrk⟩
                      case measure => simp [intOf]; omega
                    · obtain ⟨j, rfl⟩ : ∃ j, k = j + 1 := ⟨k - 1, by omega⟩
                      obtain ⟨g1, e1, _, _, d1, _⟩ := hrk.getInt (i := j + 1) (by rw [HL.out]; omega)
                      cases e1
                      obtain ⟨g2, e2, _, _, d2, _⟩ := hrk.getInt (i := j) (by rw [HL.out]; omega)
                      cases e2
                      have b0 := sel_mem (List.getElem_mem (l := placesL s.data.toList t.data.toList) (n := j + 1) (by rw [HL.out]; omega))
                      have b1 := sel_mem (List.getElem_mem (l := placesL s.data.toList t.data.toList) (n := j) (by rw [HL.out]; omega))
                      rw [list_len] at b0 b1
                      have hga : gapAt (placesL s.data.toList t.data.toList) t.size (j + 1) = decide ((placesL s.data.toList t.data.toList)[j + 1]?.getD 0 - (placesL s.data.toList t.data.toList)[j]?.getD 0 ≤ (t.size : Int)) := rfl
                      obtain ⟨y1, hy1⟩ : ∃ x, x = (placesL s.data.toList t.data.toList)[j + 1]?.getD 0 := ⟨_, rfl⟩
                      obtain ⟨y0, hy0⟩ : ∃ x, x = (placesL s.data.toList t.data.toList)[j]?.getD 0 := ⟨_, rfl⟩
                      have q1 : 0 ≤ y1 ∧ y1 < 40 := by rw [hy1, List.getElem?_eq_getElem (by rw [HL.out]; omega)]; simp only [Option.getD_some]; omega
                      have q0 : 0 ≤ y0 ∧ y0 < 40 := by rw [hy0, List.getElem?_eq_getElem (by rw [HL.out]; omega)]; simp only [Option.getD_some]; omega
                      rw [← hy1] at d1 hga
                      rw [← hy0] at d2 hga
                      clear hy1 hy0 b0 b1 hstep
                      obtain ⟨q10, q11⟩ := q1
                      obtain ⟨q00, q01⟩ := q0
                      rw [hga] at hst
                      have HST := Lib.hid hst; clear hst hga
                      have hw1 : ((j : Int) + 1 - 1) = (j : Int) := by omega
                      go_wp2
                      go_quiet (fail)
                      go_wp2
                      go_roundw
                      case rel => exact ⟨j + 1 + 1, _, by omega, by omega, by go_num, rfl, by rw [HST.out]; rfl, below_drewN hB _, hrk⟩
                      case measure => simp [intOf]; omega
                  · obtain rfl : k = m' + 1 := by omega
                    have hout : (isCoverB s t) = b := HE2.out.trans HBB.out.symm
                    go_wp2
                    go_ret
                    exact ⟨by rw [hout]; cases b <;> rfl, hB⟩
              · have hx0b : (x0 == 0) = false := beq_eq_false_iff_ne.2 hx00
                clear hx00
                go_wp2
                go_loopw [8, 9] (fun a i wr => ∃ (k : Nat) (b : Bool), 1 ≤ k ∧ k ≤ m' + 1 ∧ i = .int .i64 k ∧ a = .bool b ∧ b = (A && allTo (gapAt (placesL s.data.toList t.data.toList) t.size) k) ∧ Below w.heap.size w wr ∧ Row wr w5.heap.size w6.heap.size (some ⟨g, 0, none⟩) (ints (placesL s.data.toList t.data.toList))) (fun _ i _ => m' + 1 - (intOf i).toNat)
                case atStart => exact ⟨1, _, by omega, by omega, rfl, rfl, by rw [HEN.out, hx0b]; simp, hB6, hr⟩
                case round =>
                  obtain ⟨k, b, hk1, hk, rfl, rfl, hbb, hB, hrk⟩ := hrel
                  clear hB6 hr
                  have HBB := Lib.hid hbb; clear hbb
                  by_cases hlt : k < m' + 1
                  · have hstep : ∀ q : Nat, (A && allTo (gapAt (placesL s.data.toList t.data.toList) t.size) (q + 1)) = ((A && allTo (gapAt (placesL s.data.toList t.data.toList) t.size) q) && gapAt (placesL s.data.toList t.data.toList) t.size q) := fun q => (Bool.and_assoc _ _ _).symm
                    have hst := hstep k
                    rw [← HBB.out] at hst
                    cases b
                    · have HST := Lib.hid hst; clear hst hstep
                      go_wp2
                      go_quiet (fail)
                      go_wp2
                      go_roundw
                      case rel => exact ⟨k + 1, false, by omega, by omega, by go_num, rfl, by rw [HST.out]; rfl, below_drewN hB _, hrk⟩
                      case measure => simp [intOf]; omega
                    · obtain ⟨j, rfl⟩ : ∃ j, k = j + 1 := ⟨k - 1, by omega⟩
                      obtain ⟨g1, e1, _, _, d1, _⟩ := hrk.getInt (i := j + 1) (by rw [HL.out]; omega)
                      cases e1
                      obtain ⟨g2, e2, _, _, d2, _⟩ := hrk.getInt (i := j) (by rw [HL.out]; omega)
                      cases e2
                      have b0 := sel_mem (List.getElem_mem (l := placesL s.data.toList t.data.toList) (n := j + 1) (by rw [HL.out]; omega))
                      have b1 := sel_mem (List.getElem_mem (l := placesL s.data.toList t.data.toList) (n := j) (by rw [HL.out]; omega))
                      rw [list_len] at b0 b1
                      have hga : gapAt (placesL s.data.toList t.data.toList) t.size (j + 1) = decide ((placesL s.data.toList t.data.toList)[j + 1]?.getD 0 - (placesL s.data.toList t.data.toList)[j]?.getD 0 ≤ (t.size : Int)) := rfl
                      obtain ⟨y1, hy1⟩ : ∃ x, x = (placesL s.data.toList t.data.toList)[j + 1]?.getD 0 := ⟨_, rfl⟩
                      obtain ⟨y0, hy0⟩ : ∃ x, x = (placesL s.data.toList t.data.toList)[j]?.getD 0 := ⟨_, rfl⟩
                      have q1 : 0 ≤ y1 ∧ y1 < 40 := by rw [hy1, List.getElem?_eq_getElem (by rw [HL.out]; omega)]; simp only [Option.getD_some]; omega
                      have q0 : 0 ≤ y0 ∧ y0 < 40 := by rw [hy0, List.getElem?_eq_getElem (by rw [HL.out]; omega)]; simp only [Option.getD_some]; omega
                      rw [← hy1] at d1 hga
                      rw [← hy0] at d2 hga
                      clear hy1 hy0 b0 b1 hstep
                      obtain ⟨q10, q11⟩ := q1
                      obtain ⟨q00, q01⟩ := q0
                      rw [hga] at hst
                      have HST := Lib.hid hst; clear hst hga
                      have hw1 : ((j : Int) + 1 - 1) = (j : Int) := by omega
                      go_wp2
                      go_quiet (fail)
                      go_wp2
                      go_roundw
                      case rel => exact ⟨j + 1 + 1, _, by omega, by omega, by go_num, rfl, by rw [HST.out]; rfl, below_drewN hB _, hrk⟩
                      case measure => simp [intOf]; omega
                  · obtain rfl : k = m' + 1 := by omega
                    have hout : (isCoverB s t) = b := HE2.out.trans HBB.out.symm
                    go_wp2
                    go_ret
                    exact ⟨by rw [hout]; cases b <;> rfl, hB⟩
          · have he4 := emp_yes' h4
            go_wp2_with fail
            refine (s_IsCover s t _ (size41 hs) (size41 ht)).mono ?_; rintro e w6 ⟨rfl, hb6⟩
            go_wp2
            go_ret
            exact ⟨rfl, Below.then hB5 hb6⟩
        · have he3 := emp_yes' h3
          go_wp2_with fail
          refine (s_IsCover s t _ (size41 hs) (size41 ht)).mono ?_; rintro e w6 ⟨rfl, hb6⟩
          go_wp2
          go_ret
          exact ⟨rfl, Below.then hB5 hb6⟩
  · go_enter Try.func5, Try.ntmps5
    go_wp2
    go_ret
    exact ⟨rfl, Below.refl _ _⟩
end Go.Proofs.Ytokpcdclaifkpaa
