/- Walk of the law FnCoversOf over drawn texts: covers of covers cover. -/
import Derived.Test.YtokpcdclaifkpaaWt2
import Derived.Test.YtokpcdclaifkpaaCo
namespace Go.Proofs.Ytokpcdclaifkpaa
open Go.RowKit
set_option linter.unusedVariables false

/-- Letter j of s stands in a place of w. -/
def Cov (s w : List UInt8) (j : Nat) : Prop := ∃ i, i ≤ j ∧ j < i + w.length ∧ atB s w i = true
theorem cov_inv {s w : List UInt8} (hw : 0 < w.length) (k : Nat) :
    (∃ e : Nat, covL w.length (sel (atB s w) 0 k) = some (e : Int) ∧ (∀ j, j < e → Cov s w j) ∧ (∀ i, i < k → atB s w i = true → i + w.length ≤ e) ∧ (e = 0 ∨ ∃ i, atB s w i = true ∧ e = i + w.length)) ∨
    (covL w.length (sel (atB s w) 0 k) = none ∧ ∃ j, j < k ∧ ¬ Cov s w j) := by
  induction k with
  | zero => exact .inl ⟨0, rfl, fun j hj => by omega, fun i hi => by omega, .inl rfl⟩
  | succ k ih =>
    cases hP : atB s w k with
    | false =>
      rw [sel_no (by rw [Nat.zero_add]; exact hP)]
      rcases ih with ⟨e, h1, h2, h3, h4⟩ | ⟨h1, j, h2, h3⟩
      · exact .inl ⟨e, h1, h2, fun i hi ha => by
          by_cases ei : i = k
          · rw [ei, hP] at ha; cases ha
          · exact h3 i (by omega) ha, h4⟩
      · exact .inr ⟨h1, j, by omega, h3⟩
    | true =>
      rw [sel_yes (by rw [Nat.zero_add]; exact hP), covL_snoc, Nat.zero_add]
      rcases ih with ⟨e, h1, h2, h3, h4⟩ | ⟨h1, j, h2, h3⟩
      · rw [h1]
        by_cases hek : (e : Int) < k
        · refine .inr ⟨by rw [covStep, if_pos hek], e, by omega, ?_⟩
          rintro ⟨i, a1, a2, a3⟩
          by_cases hik : i < k
          · have := h3 i hik a3; omega
          · omega
        · refine .inl ⟨k + w.length, by rw [covStep, if_neg hek]; congr 1, fun j hj => ?_, fun i hi ha => ?_, .inr ⟨k, hP, rfl⟩⟩
          · by_cases hje : j < e
            · exact h2 j hje
            · exact ⟨k, by omega, hj, hP⟩
          · omega
      · exact .inr ⟨by rw [h1]; rfl, j, by omega, h3⟩
theorem coverB_iff {s w : List UInt8} (hw : 0 < w.length) : coverB s w = true ↔ ∀ j, j < s.length → Cov s w j := by
  unfold coverB placesL
  rw [decide_eq_true_eq]
  rcases cov_inv (s := s) hw s.length with ⟨e, h1, h2, h3, h4⟩ | ⟨h1, j, h2, h3⟩
  · have hle : e ≤ s.length := by
      rcases h4 with rfl | ⟨i, a1, rfl⟩
      · omega
      · exact atB_lt a1 hw
    rw [h1]
    constructor
    · intro h j hj
      have : e = s.length := by have := Option.some.inj h; omega
      exact h2 j (by omega)
    · intro h
      congr 1
      by_cases he : e = s.length
      · omega
      · obtain ⟨i, a1, a2, a3⟩ := h e (by omega)
        have := h3 i (by omega) a3; omega
  · rw [h1]
    constructor
    · intro h; cases h
    · intro h; exact absurd (h j h2) h3
theorem cov_trans {s : List UInt8} {n m : Nat} (hn : n ≤ s.length) (hm0 : 0 < m) (hm : m ≤ n) (h1 : coverB s (s.take n) = true) (h2 : coverB (s.take n) (s.take m) = true) : coverB s (s.take m) = true := by
  have ln : (s.take n).length = n := by rw [List.length_take]; omega
  have lm : (s.take m).length = m := by rw [List.length_take]; omega
  rw [coverB_iff (by omega)] at h1 h2 ⊢
  intro j hj
  obtain ⟨i, a1, a2, a3⟩ := h1 j hj
  obtain ⟨i', b1, b2, b3⟩ := h2 (j - i) (by omega)
  refine ⟨i + i', by omega, by omega, ?_⟩
  have ea := of_decide_eq_true a3
  have eb := of_decide_eq_true b3
  rw [ln] at ea
  rw [lm] at eb
  refine decide_eq_true ?_
  rw [lm]
  have hlb := congrArg List.length eb
  rw [List.length_take, List.length_drop, ln, lm] at hlb
  rw [← ea, List.drop_take, List.drop_drop, List.take_take] at eb
  rw [show min m (n - i') = m by omega] at eb
  exact eb
theorem cov_self {s : List UInt8} (h0 : 0 < s.length) : coverB s s = true := by
  rw [coverB_iff h0]
  intro j hj
  exact ⟨0, by omega, by omega, decide_eq_true (by simp)⟩
theorem vt_take {s : List UInt8} (h : vt s = true) (n : Nat) : vt (s.take n) = true := by
  unfold vt at *
  rw [Bool.and_eq_true, decide_eq_true_eq, List.all_eq_true] at *
  exact ⟨fun x hx => h.1 x (List.mem_of_mem_take hx), by rw [List.length_take]; omega⟩
/-- The covers of a cover are covers. -/
theorem cover_in {s : List UInt8} {x y : Int} (hx : x ∈ coversL s) (hy : y ∈ coversL (s.take x.toNat)) : inB (coversL s) y = true := by
  unfold coversL at *
  have bx := sel_mem hx
  have by' := sel_mem hy
  obtain ⟨i, rfl⟩ : ∃ i : Nat, x = ((1 + i : Nat) : Int) := ⟨(x - 1).toNat, by omega⟩
  obtain ⟨j, rfl⟩ : ∃ j : Nat, y = ((1 + j : Nat) : Int) := ⟨(y - 1).toNat, by omega⟩
  rw [Int.toNat_natCast] at hy by'
  obtain ⟨h1, h2⟩ := mem_sel.1 hx
  obtain ⟨h3, h4⟩ := mem_sel.1 hy
  have hl : (s.take (1 + i)).length = 1 + i := by rw [List.length_take]; omega
  rw [hl] at h3
  rw [inB_mem, mem_sel]
  refine ⟨by omega, ?_⟩
  unfold cvB at *
  rw [List.take_take, show min (1 + j) (1 + i) = 1 + j by omega] at h4
  exact cov_trans (by omega) (by omega) (by omega) h2 h4
theorem covers_last {s : List UInt8} (h0 : 0 < s.length) : coversL s ≠ [] ∧ (coversL s)[(coversL s).length - 1]?.getD 0 = s.length := by
  unfold coversL
  obtain ⟨m, hm⟩ : ∃ m, s.length = m + 1 := ⟨s.length - 1, by omega⟩
  rw [hm, sel_yes (by unfold cvB; rw [Nat.add_comm, ← hm, List.take_length]; exact cov_self h0)]
  refine ⟨by simp, ?_⟩
  rw [List.length_append, List.length_singleton, Nat.add_sub_cancel, List.getElem?_append_right (Nat.le_refl _), Nat.sub_self]
  simp; omega

set_option maxHeartbeats 8000000 in
theorem walk_FnCoversOf (pa : Option Addr) (n cap : Nat) (w : World) (hx : CodeAt w pa n cap) :
    Calls Try.prog 11 #[.slice pa n cap] w fun e w' => e = .returned (.bool true) ∧ Below w.heap.size w w' := by
  have hcap := hx.2.1; have hnc := hx.1
  unfold maxLen at hcap
  have HC := Lib.hid hx; clear hx
  by_cases hn : n ≤ 1048576
  · go_enter Try.func11, Try.ntmps11
    go_wp2_with fail
    refine (d_DrawCoversOf _ _ _ _ HC.out).mono ?_; rintro e w1 ⟨s, rfl, hs, hb1⟩
    go_wp2_with fail
    refine (i_CoversOf s _ (size41 hs)).mono ?_; rintro e w2 ⟨pb, m, cb, rfl, HN, hle, hr2, hb2⟩
    have hB2 := Below.then hb1 hb2; clear hb1 hb2
    go_wp2_with fail
    refine (s_CoversOf s _ (size41 hs)).mono ?_; rintro e w3 ⟨pc, m3, cc, rfl, HN3, _, hr3, hb3⟩
    obtain rfl : m = m3 := HN.out.symm.trans HN3.out
    have hB3 := Below.then hB2 hb3
    have hr2 := hr2.kept hb3
    clear hB2 hb3
    go_wp2_with fail
    refine (l_equalInts pb pc m cb cc _ _ _ _ _ _ HN.out hle hr2 hr3).mono ?_; rintro e w4 ⟨rfl, hb4⟩
    have hB4 := Below.then hB3 hb4
    have hr2 := hr2.kept hb4
    clear hB3 hb4 hr3
    by_cases hm0 : m = 0
    · have hmz : ((m : Int) == 0) = true := beq_iff_eq.2 (by omega)
      have HM0 := Lib.hid hm0; clear hm0
      go_wp2_with fail
      refine (s_CoversOf s _ (size41 hs)).mono ?_; rintro e w6 ⟨pd, m6, cd, rfl, HN6, _, hr6, hb6⟩
      obtain rfl : m = m6 := HN.out.symm.trans HN6.out
      have hB6 := Below.then hB4 hb6
      have hr2 := hr2.kept hb6
      go_wp2_with fail
      refine (l_equalInts pb pd m cb cd _ _ _ _ _ _ HN.out hle hr2 hr6).mono ?_; rintro e w7 ⟨rfl, hb7⟩
      go_wp2
      go_ret
      exact ⟨rfl, Below.then hB6 hb7⟩
    · have hmz : ((m : Int) == 0) = false := beq_eq_false_iff_ne.2 (by omega)
      have hv : vt s.data.toList = true := by
        cases h : vt s.data.toList with
        | true => rfl
        | false => have := HN.out; rw [coversOf_no h] at this; exact absurd this.symm hm0
      have hsz := vt_size hv
      have hlb := HN.out
      rw [coversOf_yes hv] at hr2 hlb
      have HL := Lib.hid hlb; clear hlb
      have HV := Lib.hid hv; clear hv
      have hs0 : 0 < s.size := by
        have h := HL.out
        by_cases e : s.size = 0
        · exfalso
          have := sel_le (cvB s.data.toList) 1 s.data.toList.length
          rw [list_len] at this
          unfold coversL at h
          rw [list_len] at h; omega
        · omega
      go_wp2
      go_loopw [5, 6, 7] (fun i _ _ wr => ∃ k : Nat, k ≤ m ∧ i = .int .i64 k ∧ Below w.heap.size w wr ∧ Row wr w1.heap.size w2.heap.size pb (ints (coversL s.data.toList))) (fun i _ _ _ => m - (intOf i).toNat)
      case atStart => exact ⟨0, by omega, rfl, hB4, hr2⟩
      case round =>
        obtain ⟨k, hk, rfl, hB, hr⟩ := hrel
        clear hB4 hr2
        by_cases hlt : k < m
        · have hkl : k < (coversL s.data.toList).length := by rw [HL.out]; exact hlt
          obtain ⟨g, rfl, _, _, c1, _⟩ := hr.getInt hkl
          have m1 : (coversL s.data.toList)[k]?.getD 0 ∈ coversL s.data.toList := by rw [List.getElem?_eq_getElem hkl]; exact List.getElem_mem _
          have b1 := sel_mem m1
          obtain ⟨p, hp⟩ : ∃ p : Nat, (coversL s.data.toList)[k]?.getD 0 = p := Int.eq_ofNat_of_zero_le (by omega)
          rw [hp] at b1 c1 m1
          rw [list_len] at b1
          clear hp
          have M1 := Lib.hid m1; clear m1
          have hpe : (s.extract 0 p).size = p := by rw [ByteArray.size_extract]; omega
          have HV2 := Lib.hid (show vt (s.extract 0 p).data.toList = true by rw [pre_take]; exact vt_take HV.out p)
          go_wp2_with fail
          refine (i_CoversOf (s.extract 0 p) _ (by unfold maxLen; omega)).mono ?_; rintro e w6 ⟨pd, m6, cd, rfl, HN6, hle6, hr6, hb6⟩
          rw [coversOf_yes HV2.out, pre_take] at hr6
          have hl6 := HN6.out
          rw [coversOf_yes HV2.out, pre_take] at hl6
          have HL6 := Lib.hid hl6; clear hl6 hpe
          have hB6 := Below.then hB hb6
          have hrr := hr.kept hb6
          clear hB hr hb6
          go_wp2
          go_loop [7] (fun i => ∃ l : Nat, l ≤ m6 ∧ i = .int .i64 l) (fun i => m6 - (intOf i).toNat)
          case atStart => exact ⟨0, by omega, rfl⟩
          case round =>
            obtain ⟨l, hl, rfl⟩ := hrel
            by_cases hll : l < m6
            · have hll2 : l < (coversL (s.data.toList.take p)).length := by rw [HL6.out]; exact hll
              obtain ⟨g2, rfl, _, _, c2, _⟩ := hr6.getInt hll2
              have m2 : (coversL (s.data.toList.take p))[l]?.getD 0 ∈ coversL (s.data.toList.take p) := by rw [List.getElem?_eq_getElem hll2]; exact List.getElem_mem _
              obtain ⟨y, hy⟩ : ∃ y, y = (coversL (s.data.toList.take p))[l]?.getD 0 := ⟨_, rfl⟩
              rw [← hy] at c2 m2
              have HI := Lib.hid (cover_in M1.out (by rw [Int.toNat_natCast]; exact m2))
              clear hy m2
              go_wp2_with fail
              refine (l_isInB _ m cb _ _ _ _ _ HI.out HL.out hle hrr).mono ?_; rintro e w9 ⟨rfl, rfl⟩
              go_wp2
              go_round
              case rel => exact ⟨l + 1, by omega, by go_num⟩
              case measure => simp [intOf]; omega
            · go_wp2
              go_roundw
              case rel => exact ⟨k + 1, by omega, by go_num, hB6, hrr⟩
              case measure => simp [intOf]; omega
        · go_wp2_with fail
          refine (l_ascends pb m cb _ _ _ _ HL.out hle hr (sel_asc _ _ _)).mono ?_; rintro e w8 ⟨rfl, hb8⟩
          have hr8 := hr.kept hb8
          have hlast := (covers_last (s := s.data.toList) (by rw [list_len]; exact hs0)).2
          rw [HL.out, list_len] at hlast
          obtain ⟨g, rfl, _, _, c1, _⟩ := hr8.getInt (i := m - 1) (by rw [HL.out]; omega)
          rw [hlast] at c1
          clear hlast
          obtain ⟨m', rfl⟩ : ∃ m', m = m' + 1 := ⟨m - 1, by omega⟩
          rw [Nat.add_sub_cancel] at c1
          go_wp2
          go_ret
          exact ⟨rfl, Below.then hB hb8⟩
  · go_enter Try.func11, Try.ntmps11
    go_wp2
    go_ret
    exact ⟨rfl, Below.refl _ _⟩
end Go.Proofs.Ytokpcdclaifkpaa
