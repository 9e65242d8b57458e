/- The walks of TurnPoints, the reference's and the program's; what a walk that marks a row leaves of others; the laws FnExactTurnPoints and FnTurnPoints. -/
import Derived.Test.YtkgdifngijeenaaTu
import Derived.Deep.RegionHeld3
namespace Go.Proofs.Ytkgdifngijeenaa
open Go.RowKit
set_option linter.unusedVariables false

/-- Of the blocks that were there only those from lo on and below hi may have turned. -/
def Only (lo hi : Nat) (w w' : World) : Prop := w'.os = w.os ∧ w'.tape = w.tape ∧ w'.output = w.output ∧ w.heap.size ≤ w'.heap.size ∧ ∀ k, k < w.heap.size → (k < lo ∨ hi ≤ k) → w'.heap[k]? = w.heap[k]?
theorem Only.refl (lo hi : Nat) (w : World) : Only lo hi w w := ⟨rfl, rfl, rfl, Nat.le_refl _, fun _ _ _ => rfl⟩
theorem Only.setCell {lo hi g i : Nat} {w w' : World} (h : Only lo hi w w') (h1 : lo ≤ g) (h2 : g < hi) (v : Value) : Only lo hi w (w'.setCell ⟨g, i, none⟩ v) :=
  ⟨h.1, h.2.1, h.2.2.1, by rw [World.size_setCell]; exact h.2.2.2.1, fun k hk ho => (Below.heap_setCell w' ⟨g, i, none⟩ v k (by show k ≠ g; omega)).trans (h.2.2.2.2 k hk ho)⟩
theorem Only.row {lo hi lo2 hi2 : Nat} {w w' : World} (h : Only lo hi w w') {pa : Option Addr} {vs : List Value} (hr : Row w lo2 hi2 pa vs) (ha : hi2 ≤ lo ∨ hi ≤ lo2) : Row w' lo2 hi2 pa vs := fun i v hv => by
  obtain ⟨g, e, h1, h2, h3, h4⟩ := hr i v hv
  have hb := h.2.2.2.2 g (cell_lt h3) (by omega)
  exact ⟨g, e, h1, h2, (World.cell?_of_block (a := ⟨g, i, none⟩) hb).trans h3, (World.frozen?_of_block (a := ⟨g, i, none⟩) hb).trans h4⟩
theorem Only.below {lo hi : Nat} {w w' : World} (h : Only lo hi w w') (B : Nat) (hB : B ≤ lo) (hs : B ≤ w.heap.size) : Below B w w' := ⟨h.1, h.2.1, h.2.2.1, h.2.2.2.1, fun k hk => h.2.2.2.2 k (by omega) (.inl (by omega))⟩
set_option maxHeartbeats 400000 in
theorem l_markIntSO (pa : Option Addr) (n ca : Nat) (xs : List Int) (lo hi : Nat) (w : World) (hn : xs.length = n) (hle : n ≤ 1048576) (ra : Row w lo hi pa (ints xs)) :
    Calls Try.prog 21 #[.slice pa n ca, .int .i64 1] w fun e w' => e = .returned (.int .i64 (1 + n)) ∧ Only lo hi w w' ∧ Row w' lo hi pa (ints (marks 1 n)) ∧ w'.heap.size = w.heap.size := by
  have HN := Lib.hid hn; clear hn
  go_enter Try.func21, Try.ntmps21
  go_wp2
  go_loopw [1, 5] (fun m i wr => ∃ k : Nat, k ≤ n ∧ i = .int .i64 k ∧ m = .int .i64 (1 + k) ∧ Only lo hi w wr ∧ Row wr lo hi pa (ints (marks 1 k) ++ (ints xs).drop k) ∧ wr.heap.size = w.heap.size) (fun _ i _ => n - (intOf i).toNat)
  case atStart => exact ⟨0, Nat.zero_le _, rfl, rfl, Only.refl _ _ _, ra, rfl⟩
  case round =>
    obtain ⟨k, hk, rfl, rfl, hb, hr, hs⟩ := hrel
    by_cases hlt : k < n
    · obtain ⟨g, rfl, hg1, hg2, hc, hf⟩ := hr k (.int .i64 (xs[k]?.getD 0)) (marks_at (by rw [HN.out]; exact hlt))
      go_wp2
      go_roundw
      case rel =>
        refine ⟨k + 1, by omega, by go_num, by go_num, hb.setCell hg1 hg2 _, ?_, by rw [World.size_setCell]; exact hs⟩
        rw [← marks_step (by rw [HN.out]; exact hlt)]
        exact hr.set (by simp [ints_length, marks_length, HN.out]; omega) _
      case measure => simp [intOf]; omega
    · obtain rfl : k = n := by omega
      go_wp2
      go_ret
      refine ⟨rfl, hb, ?_, hs⟩
      rw [List.drop_of_length_le (by rw [ints_length, HN.out]; exact Nat.le_refl _), List.append_nil] at hr
      exact hr

def turnI (xs : List Int) : List Int := if vpB xs then turnL xs else []
theorem turnI_no {xs : List Int} (h : vpB xs = false) : turnI xs = [] := by unfold turnI; rw [if_neg (by rw [h]; decide)]
theorem turnI_yes {xs : List Int} (h : vpB xs = true) : turnI xs = turnL xs := by unfold turnI; rw [if_pos h]
/-- What points are. -/
theorem vpB_parts {xs : List Int} (h : vpB xs = true) : 1 ≤ xs.length ∧ xs.length ≤ 6 ∧ xs[0]?.getD 0 = 0 ∧ (∀ i, i < xs.length → 0 ≤ xs[i]?.getD 0 ∧ xs[i]?.getD 0 ≤ 60) ∧ (∀ i, 0 < i → i < xs.length → xs[i - 1]?.getD 0 < xs[i]?.getD 0) := by
  unfold vpB at h
  rw [Bool.and_eq_true, Bool.and_eq_true, allTo_iff, decide_eq_true_eq] at h
  obtain ⟨⟨ha, hr⟩, h0⟩ := h
  have hr := rngB_yes hr
  have hp : ∀ i, i < xs.length → rngB (xs[i]?.getD 0) 0 60 = true ∧ (i = 0 ∨ xs[i - 1]?.getD 0 < xs[i]?.getD 0) := fun i hi => by
    have := ha i hi
    unfold ptAt at this
    rw [Bool.and_eq_true, Bool.or_eq_true, decide_eq_true_eq, decide_eq_true_eq] at this
    exact this
  refine ⟨by omega, by omega, h0, fun i hi => rngB_yes (hp i hi).1, fun i hi0 hi => ?_⟩
  rcases (hp i hi).2 with h | h
  · omega
  · exact h
theorem vpB_mk {xs : List Int} (h1 : 1 ≤ xs.length) (h2 : xs.length ≤ 6) (h3 : xs[0]?.getD 0 = 0) (h4 : ∀ i, i < xs.length → 0 ≤ xs[i]?.getD 0 ∧ xs[i]?.getD 0 ≤ 60) (h5 : ∀ i, 0 < i → i < xs.length → xs[i - 1]?.getD 0 < xs[i]?.getD 0) : vpB xs = true := by
  unfold vpB
  rw [rngB_mk (by omega) (by omega), decide_eq_true h3, (allTo_iff _ _).2 (fun i hi => ?_)]; rfl
  unfold ptAt
  rw [rngB_mk (h4 i hi).1 (h4 i hi).2, Bool.true_and, Bool.or_eq_true, decide_eq_true_eq, decide_eq_true_eq]
  by_cases e : i = 0
  · exact .inl e
  · exact .inr (h5 i (by omega) hi)
theorem vpB_all {xs : List Int} (h : vpB xs = true) (i : Nat) : 0 ≤ xs[i]?.getD 0 ∧ xs[i]?.getD 0 ≤ 60 := by
  by_cases hi : i < xs.length
  · exact (vpB_parts h).2.2.2.1 i hi
  · rw [List.getElem?_eq_none (by omega)]; exact ⟨Int.le_refl _, by decide⟩
theorem asc_le {xs : List Int} (h : vpB xs = true) {i j : Nat} (hij : i ≤ j) (hj : j < xs.length) : xs[i]?.getD 0 ≤ xs[j]?.getD 0 := by
  obtain ⟨_, _, _, _, ha⟩ := vpB_parts h
  induction j with
  | zero => obtain rfl : i = 0 := by omega
            exact Int.le_refl _
  | succ j ih =>
    by_cases e : i = j + 1
    · rw [e]; exact Int.le_refl _
    · have h1 := ih (by omega) (by omega)
      have h2 := ha (j + 1) (by omega) hj
      rw [show j + 1 - 1 = j by omega] at h2; omega
theorem turnL_len (xs : List Int) : (turnL xs).length = xs.length := turnTo_len _ _ _
theorem turnL_get {xs : List Int} {i : Nat} (hi : i < xs.length) : (turnL xs)[i]?.getD 0 = xs[xs.length - 1]?.getD 0 - xs[xs.length - 1 - i]?.getD 0 := by
  unfold turnL turnTo
  rw [List.getElem?_map, List.getElem?_range hi]; rfl
theorem turnL_vp {xs : List Int} (h : vpB xs = true) : vpB (turnL xs) = true := by
  obtain ⟨h1, h2, h3, h4, h5⟩ := vpB_parts h
  have hl := turnL_len xs
  refine vpB_mk (by omega) (by omega) ?_ ?_ ?_
  · rw [turnL_get (by omega), Nat.sub_zero]; omega
  · intro i hi
    rw [hl] at hi
    rw [turnL_get hi]
    have := asc_le h (i := xs.length - 1 - i) (j := xs.length - 1) (by omega) (by omega)
    have := h4 (xs.length - 1) (by omega)
    have := h4 (xs.length - 1 - i) (by omega)
    omega
  · intro i h0 hi
    rw [hl] at hi
    rw [turnL_get hi, turnL_get (by omega)]
    have := h5 (xs.length - 1 - (i - 1)) (by omega) (by omega)
    rw [show xs.length - 1 - (i - 1) - 1 = xs.length - 1 - i by omega] at this
    omega
theorem turnL_last {xs : List Int} (h : vpB xs = true) : (turnL xs)[xs.length - 1]?.getD 0 = xs[xs.length - 1]?.getD 0 := by
  obtain ⟨h1, _, h3, _, _⟩ := vpB_parts h
  rw [turnL_get (by omega), show xs.length - 1 - (xs.length - 1) = 0 by omega, h3]; omega
theorem turnL_twice {xs : List Int} (h : vpB xs = true) : turnL (turnL xs) = xs := by
  have hl := turnL_len xs
  have hl2 := turnL_len (turnL xs)
  have hlast := turnL_last h
  apply List.ext_getElem
  · omega
  · intro i h1 h2
    have e := turnL_get (xs := turnL xs) (i := i) (by omega)
    have e2 := turnL_get (xs := xs) (i := xs.length - 1 - i) (by omega)
    rw [show xs.length - 1 - (xs.length - 1 - i) = i by omega] at e2
    rw [hl, hlast, e2] at e
    rw [List.getElem?_eq_getElem h1, List.getElem?_eq_getElem h2] at e
    simp only [Option.getD_some] at e
    omega

set_option maxHeartbeats 400000 in
theorem s_TurnPoints (pa : Option Addr) (n ca : Nat) (xs : List Int) (w : World) (hn : xs.length = n) (hle : n ≤ 1048576) (ra : Rds w pa xs) :
    Calls Try.prog 19 #[.slice pa n ca] w (RetInts (turnI xs) w) := by
  have HN := Lib.hid hn; clear hn
  cases h1 : vpB xs with
  | false =>
    rw [turnI_no h1]
    go_enter Try.func19, Try.ntmps19
    go_wp2_with fail
    refine (s_validPoints pa n ca xs _ HN.out hle ra).mono ?_; rintro e w1 ⟨rfl, hb1⟩
    go_wp2
    go_ret
    exact ⟨none, 0, 0, rfl, Lib.hid rfl, by omega, Row.nil _ _ _ _, hb1⟩
  | true =>
    rw [turnI_yes h1]
    have HV := Lib.hid h1
    have hp := vpB_parts h1
    rw [HN.out] at hp
    obtain ⟨p1, p2, _⟩ := hp
    go_enter Try.func19, Try.ntmps19
    go_wp2_with fail
    refine (s_validPoints pa n ca xs _ HN.out hle ra).mono ?_; rintro e w1 ⟨rfl, hb1⟩
    go_wp2_with fail
    refine (s_turn pa n ca xs _ HN.out p1 p2 (vpB_all HV.out) (ra.kept hb1)).mono ?_; rintro e w2 ⟨pb, m, cb, rfl, HM, hm, hr, hb2⟩
    go_wp2
    go_ret
    exact ⟨pb, m, cb, rfl, HM, hm, hr.mono hb1.size (Nat.le_refl _), below_then hb1 hb2⟩
set_option maxHeartbeats 400000 in
theorem i_TurnPoints (pa : Option Addr) (n ca : Nat) (xs : List Int) (w : World) (hn : xs.length = n) (hle : n ≤ 1048576) (ra : Rds w pa xs) :
    Calls Try.prog 20 #[.slice pa n ca] w (RetInts (turnI xs) w) := by
  have HN := Lib.hid hn; clear hn
  cases h1 : vpB xs with
  | false =>
    rw [turnI_no h1]
    go_enter Try.func20, Try.ntmps20
    go_wp2_with fail
    refine (i_ValidPoints pa n ca xs _ HN.out hle ra).mono ?_; rintro e w1 ⟨rfl, hb1⟩
    go_wp2
    go_ret
    exact ⟨none, 0, 0, rfl, Lib.hid rfl, by omega, Row.nil _ _ _ _, hb1⟩
  | true =>
    rw [turnI_yes h1]
    have HV := Lib.hid h1
    have hp := vpB_parts h1
    rw [HN.out] at hp
    obtain ⟨p1, p2, _⟩ := hp
    go_enter Try.func20, Try.ntmps20
    go_wp2_with fail
    refine (i_ValidPoints pa n ca xs _ HN.out hle ra).mono ?_; rintro e w1 ⟨rfl, hb1⟩
    go_wp2_with fail
    refine (i_turned pa n ca xs _ HN.out p1 p2 (vpB_all HV.out) (ra.kept hb1)).mono ?_; rintro e w2 ⟨pb, m, cb, rfl, HM, hm, hr, hb2⟩
    go_wp2
    go_ret
    exact ⟨pb, m, cb, rfl, HM, hm, hr.mono hb1.size (Nat.le_refl _), below_then hb1 hb2⟩

set_option maxHeartbeats 2000000 in
theorem walk_FnExactTurnPoints (pa : Option Addr) (n cap : Nat) (w : World) (hx : IntsAt w pa n cap) :
    Calls Try.prog 5 #[.slice pa n cap] w fun e w' => e = .returned (.bool true) ∧ Below w.heap.size w w' := by
  obtain ⟨xs, hx⟩ := hx
  have hcap : cap ≤ 9223372036854775807 := by have := hx.2.2.1; unfold maxLen at this; omega
  have hnc := hx.2.1
  have HX := Lib.hid hx; clear hx
  by_cases hn : n ≤ 1048576
  · go_enter Try.func5, Try.ntmps5
    go_wp2_with fail
    refine (l_toIntS pa n cap xs _ HX.out hn).mono ?_; rintro e w1 ⟨p1, n1, c1, rfl, HN1, hle1, hr1, hb1⟩
    obtain rfl : n = n1 := HX.out.1.symm.trans HN1.out
    go_wp2_with fail
    refine (s_TurnPoints p1 n c1 xs _ HN1.out hle1 hr1.rds).mono ?_; rintro e w2 ⟨pw, m, cw, rfl, HM, hm, hrw, hb2⟩
    have hB2 := below_then hb1 hb2; clear hb1 hb2 hr1
    go_wp2_with fail
    refine (l_toIntS pa n cap xs _ (HX.out.kept hB2) hn).mono ?_; rintro e w3 ⟨p3, n3, c3, rfl, HN3, hle3, hr3, hb3⟩
    obtain rfl : n = n3 := HX.out.1.symm.trans HN3.out
    have hrw3 := hrw.kept hb3
    have s3 := hb3.size
    have hB3 := below_then hB2 hb3; clear hb3 hrw
    go_wp2_with fail
    refine (i_TurnPoints p3 n c3 xs _ HN3.out hle3 hr3.rds).mono ?_; rintro e w4 ⟨pg, m4, cg, rfl, HM4, hm4, hrg, hb4⟩
    obtain rfl : m = m4 := HM.out.symm.trans HM4.out
    have hr34 := hr3.kept hb4
    have hrw4 := hrw3.kept hb4
    have s4 := hb4.size
    have hB4 := below_then hB3 hb4; clear hb4 hr3 hrw3
    go_wp2_with fail
    refine (l_eqIntS pg pw m cg cw _ _ _ _ _ _ HM.out hm hrg hrw4).mono ?_; rintro e w5 ⟨rfl, hb5⟩
    have hr35 := hr34.kept hb5
    have hrw5 := hrw4.kept hb5
    have hrg5 := hrg.kept hb5
    have s5 := hb5.size
    have hB5 := below_then hB4 hb5; clear hb5 hr34 hrw4 hrg
    go_wp2_with fail
    refine (l_toIntS pa n cap xs _ (HX.out.kept hB5) hn).mono ?_; rintro e w6 ⟨p6, n6, c6, rfl, HN6, hle6, hr6, hb6⟩
    obtain rfl : n = n6 := HX.out.1.symm.trans HN6.out
    have hr36 := hr35.kept hb6
    have hrw6 := hrw5.kept hb6
    have hrg6 := hrg5.kept hb6
    have s6 := hb6.size
    have hB6 := below_then hB5 hb6; clear hb6 hr35 hrw5 hrg5
    go_wp2_with fail
    refine (l_eqIntS p3 p6 n c3 c6 _ _ _ _ _ _ HN3.out hle3 hr36 hr6).mono ?_; rintro e w7 ⟨rfl, hb7⟩
    have hr37 := hr36.kept hb7
    have hrw7 := hrw6.kept hb7
    have hrg7 := hrg6.kept hb7
    have s7 := hb7.size
    have hB7 := below_then hB6 hb7; clear hb7 hr36 hrw6 hrg6 hr6
    have sB2 := hB2.size
    -- the marks of the argument's copy
    go_wp2_with fail
    refine (l_markIntSO p3 n c3 xs _ _ _ HN3.out hle3 hr37).mono ?_; rintro e w8 ⟨rfl, ho8, hr38, hs8⟩
    have hrw8 := ho8.row hrw7 (.inl (Nat.le_refl _))
    have hrg8 := ho8.row hrg7 (.inr (Nat.le_refl _))
    have hB8 := hB7.trans (ho8.below w.heap.size sB2 (by omega))
    clear ho8 hr37 hrw7 hrg7
    go_wp2_with fail
    refine (l_eqIntS pg pw m cg cw _ _ _ _ _ _ HM.out hm hrg8 hrw8).mono ?_; rintro e w9 ⟨rfl, hb9⟩
    have hrw9 := hrw8.kept hb9
    have hrg9 := hrg8.kept hb9
    have s9 := hb9.size
    have hB9 := below_then hB8 hb9; clear hb9 hrw8 hrg8 hr38
    go_wp2_with fail
    refine (l_markIntSO pg m cg _ _ _ _ HM.out hm hrg9).mono ?_; rintro e w10 ⟨rfl, ho10, hrg10, hs10⟩
    have hrw10 := ho10.row hrw9 (.inl (by omega))
    have hB10 := hB9.trans (ho10.below w.heap.size (by omega) (by omega))
    clear ho10 hrw9 hrg9
    go_wp2_with fail
    refine (l_heldIntS pg m cg _ _ _ hm hrg10).mono ?_; rintro e w' ⟨rfl, rfl⟩
    go_wp2_with fail
    refine (l_toIntS pa n cap xs _ (HX.out.kept hB10) hn).mono ?_; rintro e w11 ⟨p11, n11, c11, rfl, HN11, hle11, hr11, hb11⟩
    obtain rfl : n = n11 := HX.out.1.symm.trans HN11.out
    have hrw11 := hrw10.kept hb11
    have hrg11 := hrg10.kept hb11
    have hB11 := below_then hB10 hb11; clear hb11 hrw10 hrg10
    go_wp2_with fail
    refine (i_TurnPoints p11 n c11 xs _ HN11.out hle11 hr11.rds).mono ?_; rintro e w12 ⟨ph, m12, ch, rfl, HM12, hm12, hrh, hb12⟩
    obtain rfl : m = m12 := HM.out.symm.trans HM12.out
    have hrw12 := hrw11.kept hb12
    have hrg12 := hrg11.kept hb12
    have hB12 := below_then hB11 hb12; clear hb12 hrw11 hrg11 hr11
    go_wp2_with fail
    refine (l_eqIntS ph pw m ch cw _ _ _ _ _ _ HM.out hm hrh hrw12).mono ?_; rintro e w13 ⟨rfl, hb13⟩
    have hrg13 := hrg12.kept hb13
    have hB13 := below_then hB12 hb13; clear hb13 hrw12 hrg12
    go_wp2_with fail
    refine (l_heldIntS pg m cg _ _ _ hm hrg13).mono ?_; rintro e w' ⟨rfl, rfl⟩
    go_wp2
    go_ret
    exact ⟨rfl, hB13⟩
  · go_enter Try.func5, Try.ntmps5
    go_wp2
    go_ret
    exact ⟨rfl, Below.refl _ _⟩

theorem two_kept {w w' : World} {g1 g2 : Nat} {o1 o2 : Nat} {v1 v2 : Value} (hb : Below w.heap.size w w') (h : w.cell? ⟨g1, o1, none⟩ = some v1 ∧ w.cell? ⟨g2, o2, none⟩ = some v2) : w'.cell? ⟨g1, o1, none⟩ = some v1 ∧ w'.cell? ⟨g2, o2, none⟩ = some v2 :=
  ⟨(hb.cell (p := ⟨g1, o1, none⟩) (cell_lt h.1)).trans h.1, (hb.cell (p := ⟨g2, o2, none⟩) (cell_lt h.2)).trans h.2⟩
set_option maxHeartbeats 2000000 in
theorem walk_FnTurnPoints (pa : Option Addr) (n cap : Nat) (w : World) (hx : CodeAt w pa n cap) :
    Calls Try.prog 6 #[.slice pa n cap] w fun e w' => e = .returned (.bool true) ∧ Below w.heap.size w w' := by
  have hcap := hx.2.1; have hnc := hx.1
  unfold maxLen at hcap
  have HC := Lib.hid hx; clear hx
  by_cases hn : n ≤ 1048576
  · go_enter Try.func6, Try.ntmps6
    go_wp2_with fail
    refine (d_DrawTurnPoints _ _ _ _ HC.out).mono ?_; rintro e w1 ⟨pb, m, ca, xs, rfl, HN, hm, hmc, hca, hr, hb1⟩
    unfold maxLen at hca
    go_wp2_with fail
    refine (i_TurnPoints pb m ca xs _ HN.out (by omega) hr).mono ?_; rintro e w2 ⟨pg, k, cg, rfl, HK, hk, hrg, hb2⟩
    have hr2 := hr.kept hb2
    have hB2 := below_then hb1 hb2; clear hb1 hb2 hr
    go_wp2_with fail
    refine (s_TurnPoints pb m ca xs _ HN.out (by omega) hr2).mono ?_; rintro e w3 ⟨ps, k3, cs, rfl, HK3, hk3, hrs, hb3⟩
    obtain rfl : k = k3 := HK.out.symm.trans HK3.out
    have hr3 := hr2.kept hb3
    have hrg3 := hrg.kept hb3
    have hB3 := below_then hB2 hb3; clear hB2 hb3 hr2 hrg
    go_wp2_with fail
    refine (l_equalIntsR pg ps k cg cs _ _ HK.out hk hrg3.rds hrs.rds).mono ?_; rintro e w4 ⟨rfl, hb4⟩
    have hr4 := hr3.kept hb4
    have hrg4 := hrg3.kept hb4
    have hB4 := below_then hB3 hb4; clear hB3 hb4 hr3 hrg3
    cases hv : vpB xs with
    | false =>
      obtain rfl : k = 0 := by have := HK.out; rw [turnI_no hv] at this; exact this.symm
      have HV := Lib.hid hv; clear hv
      go_wp2_with fail
      refine (s_TurnPoints pb m ca xs _ HN.out (by omega) hr4).mono ?_; rintro e w5 ⟨pt, k5, ct, rfl, HK5, hk5, hrt, hb5⟩
      obtain rfl : 0 = k5 := HK.out.symm.trans HK5.out
      have hrg5 := hrg4.kept hb5
      have hB5 := below_then hB4 hb5; clear hB4 hb5 hrg4
      go_wp2_with fail
      refine (l_equalIntsR pg pt 0 cg ct _ _ HK.out hk hrg5.rds hrt.rds).mono ?_; rintro e w6 ⟨rfl, hb6⟩
      go_wp2
      go_ret
      exact ⟨rfl, below_then hB5 hb6⟩
    | true =>
      have hp := vpB_parts hv
      rw [HN.out] at hp
      obtain ⟨p1, p2, _⟩ := hp
      have hti := turnI_yes hv
      have hkm : k = m := by have := HK.out; rw [hti, turnL_len, HN.out] at this; exact this.symm
      subst hkm
      rw [hti] at HK hrg4
      have hk0 : ((k : Int) == 0) = false := beq_eq_false_iff_ne.2 (by omega)
      have hvt := turnL_vp hv
      have htw := turnL_twice hv
      have hlast := turnL_last hv
      rw [HN.out] at hlast
      have HVT := Lib.hid hvt; have HTW := Lib.hid htw; have HLT := Lib.hid hlast
      clear hvt htw hlast hti hv HK3 hrs
      obtain ⟨g1, o1, epb, _, c1⟩ := hr4 (k - 1) (by rw [HN.out]; omega)
      obtain ⟨g2, epg, _, _, c2, _⟩ := hrg4.getInt (i := k - 1) (by rw [HK.out]; omega)
      rw [HLT.out] at c2
      obtain ⟨x, hx⟩ : ∃ x, x = xs[k - 1]?.getD 0 := ⟨_, rfl⟩
      rw [← hx] at c1 c2
      clear hx
      subst epb
      subst epg
      have hr4d : Rds w4.drew (some ⟨g1, o1, none⟩) xs := hr4
      have hrg4d : Rds w4.drew (some ⟨g2, 0, none⟩) (turnL xs) := hrg4.rds
      have e1 : ((k : Int) - 1).toNat = k - 1 := by omega
      have e2 : (1 : Int) ≤ k := by omega
      have e3 : IntKind.i64.wrap ((k : Int) - 1) = (k : Int) - 1 := IntWalk.i64_in _ (by omega)
      have e4 : (0 : Int) ≤ (k : Int) - 1 := by omega
      have e5 : (k : Int) - 1 < k := by omega
      have e6 : k - 1 < k := by omega
      go_wp2
      go_region_held3 (fun w' => w'.cell? ⟨g1, o1 + (k - 1), none⟩ = some (.int .i64 x) ∧ w'.cell? ⟨g2, k - 1, none⟩ = some (.int .i64 x))
        (first | exact ⟨c1, c2⟩ | exact two_kept (by assumption) (by assumption))
        (first
          | (go_at_call 20; refine (i_TurnPoints _ k cg (turnL xs) _ HK.out (by omega) hrg4d).mono ?_; rintro e w5 ⟨pt, k5, ct, rfl, HK5, hk5, hrt, hb5⟩; rw [(turnI_yes HVT.out).trans HTW.out] at HK5 hrt; obtain rfl : k = k5 := HN.out.symm.trans HK5.out)
          | (go_at_call 24; refine (l_equalIntsR _ _ k _ _ xs _ HN.out (by omega) hrt.rds (hr4d.kept hb5)).mono ?_; rintro e w6 ⟨rfl, hb6⟩)
          | (go_at_call 16; refine (i_ValidPoints _ k cg (turnL xs) _ HK.out (by omega) ((hrg4d.kept hb5).kept hb6)).mono ?_; rintro e w7 ⟨rfl, hb7⟩; rw [HVT.out]))
      go_wp2
      go_ret
      exact ⟨rfl, below_then (below_then (below_then (hB4.trans (Below.refl _ _).drew) (by assumption)) (by assumption)) (by assumption)⟩
  · go_enter Try.func6, Try.ntmps6
    go_wp2
    go_ret
    exact ⟨rfl, Below.refl _ _⟩
end Go.Proofs.Ytkgdifngijeenaa
