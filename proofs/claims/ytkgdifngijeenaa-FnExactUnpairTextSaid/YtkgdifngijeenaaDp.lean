/- Walks of the functions that draw points, of equalInts over whatever slices, and of the law FnValidPoints. -/
import Derived.Test.YtkgdifngijeenaaVp
import Derived.Test.YtkgdifngijeenaaSt
import Derived.Test.YtkgdifngijeenaaOpB
namespace Go.Proofs.Ytkgdifngijeenaa
open Go.RowKit
set_option linter.unusedVariables false

/-- A drawn slice of ints. -/
def PtsRet (W : World) (lo : Nat) (e : Ending) (W' : World) : Prop :=
  ∃ pa n ca xs, e = .returned (.slice pa n ca) ∧ Hid (xs.length = n) ∧ n ≤ 20 ∧ n ≤ ca ∧ ca ≤ maxLen ∧ Rds W' pa xs ∧ Below lo W W'
theorem Rd.grown {W W' : World} {lo B : Nat} {p : Int} (h : Rd W lo B p) {row : Option Nat} (hg : W.grownBy W' row) (hr : ∀ k, row = some k → B < k) : Rd W' lo B p := by
  have hB := h.lt
  obtain ⟨h1, h2, h3, pa, n, cap, h4, h5, h6⟩ := h
  have hbb := hg.block B hB (fun e => by have := hr _ e.symm; omega)
  refine ⟨h1, (World.cell?_of_block (a := ⟨B, 1, none⟩) hbb).trans h2, (World.frozen?_of_block (a := ⟨B, 1, none⟩) hbb).trans h3, pa, n, cap, h4, (World.cell?_of_block (a := ⟨B, 0, none⟩) hbb).trans h5, fun i hi => ?_⟩
  obtain ⟨b, off, x, a1, a2, a3, a4, a5⟩ := h6 i hi
  exact ⟨b, off, x, a1, a2, a3, a4, (World.cell?_of_block (a := ⟨b, off + i, none⟩) (hg.block b (cell_lt a5) (fun e => by have := hr _ e.symm; omega))).trans a5⟩
theorem own_of_int (w : World) (z : Int) (base : Nat) (hb : base ≤ w.heap.size) : (w.alloc (.cells #[.int .i64 z] 3)).ownsRow base 3 1 (.slice (some ⟨w.heap.size, 0, none⟩) 1 1) 1 (ints [z]) :=
  ⟨by simp [ints], .inr ⟨w.heap.size, 1, #[.int .i64 z], rfl, hb, heap_alloc_new w _, Nat.le_refl _, by unfold maxLen; omega, by simp, by simp [ints]⟩⟩
theorem own_far {w w' : World} {B : Nat} {e : TypeId} {v : Value} {n : Nat} {xs : List Value} (h : w.ownsRow (B + 1) e 1 v n xs) (hg : w.grownBy w' (some B)) : w'.ownsRow (B + 1) e 1 v n xs := by
  refine h.kept hg ?_
  cases hv : v.ownBlock with
  | none => exact .inl rfl
  | some g => have := (h.lt g hv).1; exact .inr (by intro e; cases e; omega)
theorem below_far {W w w' : World} {lo B : Nat} (h : Below lo W w) (hg : w.grownBy w' (some B)) (hB : lo ≤ B) (hlo : lo ≤ W.heap.size) : Below lo W w' := h.grown hg (by have := h.size; omega) (fun k e => by cases e; exact hB)
theorem PtsRet.of_owns {W w' : World} {lo base n : Nat} {v : Value} {xs : List Int} (h : w'.ownsRow base 3 1 v n (ints xs)) (hn : n ≤ 20) (hb : Below lo W w') : PtsRet W lo (.returned v) w' := by
  obtain ⟨pa, cap, rfl, h1, h2, h3, h4⟩ := Row.of_owns h
  exact ⟨pa, n, cap, xs, rfl, Lib.hid (by rw [ints_length] at h3; exact h3), hn, h1, h2, h4.rds, hb⟩
/-- The slice without its first number. -/
theorem PtsRet.rest {W w' : World} {lo base n ca : Nat} {pa : Option Addr} {xs : List Int} (h : w'.ownsRow base 3 1 (.slice pa n ca) n (ints xs)) (h0 : 1 ≤ n) (hn : n ≤ 20) (hb : Below lo W w') :
    PtsRet W lo (.returned (.slice (if ca = 1 then pa else pa.map (·.add 1)) (n - 1) (ca - 1))) w' := by
  obtain ⟨pa', cap, e, h1, h2, h3, h4⟩ := Row.of_owns h
  cases e
  rw [ints_length] at h3
  refine ⟨_, n - 1, ca - 1, xs.drop 1, rfl, Lib.hid (by rw [List.length_drop]; omega), by omega, by omega, by omega, fun i hi => ?_, hb⟩
  rw [List.length_drop] at hi
  obtain ⟨g, e, _, _, hc, _⟩ := h4.getInt (i := i + 1) (by omega)
  refine ⟨g, 1, ?_, cell_lt hc, ?_⟩
  · rw [if_neg (by omega), e]; rfl
  · rw [List.getElem?_drop, Nat.add_comm 1 i]; exact hc

set_option maxHeartbeats 4000000 in
theorem d_somePoints (W : World) (lo B : Nat) (p : Int) (hp0 : 0 ≤ p) (hp : p ≤ 900000) (h : Rd W lo B p) (hlo : lo ≤ W.heap.size) :
    Calls Try.prog 48 #[.pointer (some ⟨B, 0, none⟩)] W (PtsRet W lo) := by
  have hBlt := h.lt
  have hBlo := h.1
  go_enter Try.func48, Try.ntmps48
  go_wp2_with fail
  have o0 := own_of_int W 0 (B + 1) (by omega)
  have b0 : Below lo W (W.alloc (.cells #[.int .i64 0] 3)) := (Below.refl _ _).alloc hlo _
  have r0 := h.kept ((Below.refl _ _).alloc (o := .cells #[.int .i64 0] 3) (Nat.le_refl _))
  obtain ⟨w0, hw0⟩ : ∃ w0, w0 = W.alloc (.cells #[.int .i64 0] 3) := ⟨_, rfl⟩
  have hs0 : w0.heap.size = W.heap.size + 1 := by rw [hw0]; simp
  rw [← hw0] at o0 b0 r0 ⊢
  clear hw0
  have hs1 : W.heap.size < w0.heap.size := by omega
  rw [← hs0]
  clear hs0
  have r1 := r0.kept ((Below.refl _ _).alloc (o := .cells #[.int .i64 3, .int .i64 4, .int .i64 2, .int .i64 5, .int .i64 1, .int .i64 0] 3) (Nat.le_refl _))
  have o1 := o0.alloc (.cells #[.int .i64 3, .int .i64 4, .int .i64 2, .int .i64 5, .int .i64 1, .int .i64 0] 3)
  have b1 := b0.alloc (by have := b0.size; omega) (.cells #[.int .i64 3, .int .i64 4, .int .i64 2, .int .i64 5, .int .i64 1, .int .i64 0] 3)
  refine (d_one _ lo B p _ 6 6 w0.heap.size (w0.heap.size + 1) [3, 4, 2, 5, 1, 0] hp0 (by omega) r1 (Row.new w0 (ints [3, 4, 2, 5, 1, 0]) 3) rfl (by omega) (by omega) (by omega)).mono ?_; rintro e w2 ⟨n0, rfl, hnm, hrd2, g2⟩
  have hn0 : 0 ≤ n0 ∧ n0 ≤ 5 := by simp at hnm; omega
  obtain ⟨hn0, hn5⟩ := hn0
  have o2 := own_far o1 g2
  have b2 := below_far b1 g2 hBlo hlo
  clear hnm r0 r1 o0 o1 b0 b1 g2
  go_wp2_with fail
  go_loopw [3, 4, 5] (fun v a m wr => ∃ (xs : List Int) (k : Nat) (at_ mm q : Int), wr.ownsRow (B + 1) 3 1 v k (ints xs) ∧ a = .int .i64 at_ ∧ m = .int .i64 mm ∧ 0 ≤ at_ ∧ at_ ≤ 60 ∧ 0 ≤ mm ∧ mm ≤ 5 ∧ 1 ≤ k ∧ (k : Int) + mm ≤ 6 ∧ p ≤ q ∧ q ≤ p + 1 + (5 - mm) ∧ Rd wr lo B q ∧ Below lo W wr) (fun _ _ m _ => (intOf m).toNat)
  case atStart => exact ⟨[0], 1, 0, n0, p + 1, o2, rfl, rfl, by omega, by omega, hn0, hn5, by omega, by omega, by omega, by omega, hrd2, b2⟩
  case round =>
    obtain ⟨xs, k, at_, mm, q, hown, rfl, rfl, ha0, ha1, hm0, hm1, hk1, hkm, hq0, hq1, hrd, hb⟩ := hrel
    clear o2 b2 hrd2
    by_cases hc : 0 < mm ∧ at_ < 50
    · obtain ⟨hc1, hc2⟩ := hc
      go_wp2_with fail
      refine (d_pick _ lo B q 8 (by omega) (by omega) (by omega) (by omega) hrd).mono ?_; rintro e w3 ⟨r, rfl, hr0, hr1, _, hrd3, g3⟩
      have hr2 := hr1 (by omega)
      have o3 := own_far hown g3
      have b3 := below_far hb g3 hBlo hlo
      have s3 := b3.size
      have hB3 := hrd3.lt
      clear hr1 hrd hown hb g3
      go_wp2_with (at_builtin; refine wpList_append_int rfl _ _ rfl (B + 1) _ k xs (at_ + 1 + r) o3 rfl rfl (by omega) (by omega) ?_; intro v' w4 hown4 hgrow4 hb4)
      have hrd4 := (hrd3.kept ((Below.refl _ _).alloc (o := .cells #[.int .i64 (at_ + 1 + r)] 3) (Nat.le_refl _))).grown hgrow4 (fun k e => by have := (o3.lt k e).1; omega)
      have b4 : Below lo W w4 := b3.trans (hb4.mono (by omega))
      go_roundw
      case rel => exact ⟨_, k + 1, at_ + 1 + r, mm - 1, q + 1, hown4, rfl, rfl, by omega, by omega, by omega, by omega, by omega, by omega, by omega, by omega, hrd4, b4⟩
      case measure => simp [intOf]; omega
    · have hx : ¬ 0 < mm ∨ (0 < mm ∧ ¬ at_ < 50) := by omega
      clear hc
      rcases hx with hx | ⟨hx, hx2⟩
      all_goals
        go_wp2_with fail
        refine (d_pick _ lo B q 30 (by omega) (by omega) (by omega) (by omega) hrd).mono ?_; rintro e w3 ⟨r, rfl, hr0, hr1, _, hrd3, g3⟩
        have o3 := own_far hown g3
        have b3 := below_far hb g3 hBlo hlo
        have s3 := b3.size
        have hB3 := hrd3.lt
        clear hr1 hrd hown hb g3
        obtain ⟨pa, cap, rfl, h1, h2, h3, h4⟩ := Row.of_owns o3
        unfold maxLen at h2
        rw [ints_length] at h3
        have H3 := Lib.hid h3; clear h3
        by_cases hz : r = 0
        · subst hz
          have hrest := PtsRet.rest o3 hk1 (by omega) b3
          have HR := Lib.hid hrest; clear hrest
          by_cases hc1 : cap = 1
          · have HR2 := HR.out
            rw [if_pos hc1] at HR2
            subst hc1
            obtain rfl : k = 1 := by omega
            have HR3 := Lib.hid HR2; clear HR2
            go_wp2
            go_ret
            exact HR3.out
          · have HR2 := HR.out
            rw [if_neg hc1] at HR2
            have HR3 := Lib.hid HR2; clear HR2
            go_wp2
            go_ret
            exact HR3.out
        · have hz0 : (r == 0) = false := beq_eq_false_iff_ne.2 hz
          by_cases hz1 : r = 1
          · subst hz1
            obtain ⟨g, rfl, _, _, hc, _⟩ := h4.getInt (i := k - 1) (by rw [H3.out]; omega)
            obtain ⟨x, hx⟩ : ∃ x, x = xs[k - 1]?.getD 0 := ⟨_, rfl⟩
            rw [← hx] at hc
            clear hx
            have e1 : ((k : Int) - 1).toNat = k - 1 := by omega
            go_wp2_with (at_builtin; refine wpList_append_int rfl _ _ rfl (B + 1) _ k xs x o3 rfl rfl (by omega) (by omega) ?_; intro v' w4 hown4 hgrow4 hb4)
            go_ret
            exact PtsRet.of_owns hown4 (by omega) (b3.trans (hb4.mono (by omega)))
          · have hz1' : (r == 1) = false := beq_eq_false_iff_ne.2 hz1
            by_cases hz2 : r = 2
            · subst hz2
              go_wp2_with (at_builtin; refine wpList_append_int rfl _ _ rfl (B + 1) _ k xs 61 o3 rfl rfl (by omega) (by omega) ?_; intro v' w4 hown4 hgrow4 hb4)
              go_ret
              exact PtsRet.of_owns hown4 (by omega) (b3.trans (hb4.mono (by omega)))
            · have hz2' : (r == 2) = false := beq_eq_false_iff_ne.2 hz2
              go_wp2
              go_ret
              exact PtsRet.of_owns o3 (by omega) b3
theorem d_DrawValidPoints (W : World) (pa : Option Addr) (n cap : Nat) (h : CodeAt W pa n cap) : Calls Try.prog 18 #[.slice pa n cap] W (PtsRet W W.heap.size) := by
  have HC := Lib.hid h; clear h
  go_enter Try.func18, Try.ntmps18
  go_wp2_with fail
  refine (d_newReader W pa n cap HC.out.1 HC.out.2.1 HC.out.2.2).mono ?_; rintro e w1 ⟨B, rfl, hrd, hb1⟩
  go_wp2_with fail
  refine (d_somePoints w1 W.heap.size B 0 (by omega) (by omega) hrd hb1.size).mono ?_; rintro e w2 ⟨pb, m, ca, xs, rfl, HN, hn, hnc, hca, hr, hb2⟩
  go_wp2
  go_ret
  exact ⟨pb, m, ca, xs, rfl, HN, hn, hnc, hca, hr, hb1.trans hb2⟩
theorem d_DrawTurnPoints (W : World) (pa : Option Addr) (n cap : Nat) (h : CodeAt W pa n cap) : Calls Try.prog 23 #[.slice pa n cap] W (PtsRet W W.heap.size) := by
  have HC := Lib.hid h; clear h
  go_enter Try.func23, Try.ntmps23
  go_wp2_with fail
  refine (d_newReader W pa n cap HC.out.1 HC.out.2.1 HC.out.2.2).mono ?_; rintro e w1 ⟨B, rfl, hrd, hb1⟩
  go_wp2_with fail
  refine (d_somePoints w1 W.heap.size B 0 (by omega) (by omega) hrd hb1.size).mono ?_; rintro e w2 ⟨pb, m, ca, xs, rfl, HN, hn, hnc, hca, hr, hb2⟩
  go_wp2
  go_ret
  exact ⟨pb, m, ca, xs, rfl, HN, hn, hnc, hca, hr, hb1.trans hb2⟩
set_option maxHeartbeats 400000 in
theorem l_equalIntsR (pa pb : Option Addr) (n ca cb : Nat) (xs : List Int) (w : World) (hn : xs.length = n) (hle : n ≤ 1048576) (ra : Rds w pa xs) (rb : Rds w pb xs) :
    Calls Try.prog 24 #[.slice pa n ca, .slice pb n cb] w fun e w' => e = .returned (.bool true) ∧ Below w.heap.size w w' := by
  have HN := Lib.hid hn; clear hn
  go_enter Try.func24, Try.ntmps24
  go_wp2
  go_loopw [5] (fun i wr => ∃ k : Nat, k ≤ n ∧ i = .int .i64 k ∧ Below w.heap.size w wr) (fun i _ => n - (intOf i).toNat)
  case atStart => exact ⟨0, Nat.zero_le _, rfl, Below.refl _ _⟩
  case round =>
    obtain ⟨k, hk, rfl, hb⟩ := hrel
    by_cases hlt : k < n
    · obtain ⟨ga, oa, rfl, _, hca⟩ := (ra.kept hb) k (by rw [HN.out]; exact hlt)
      obtain ⟨gb, ob, rfl, _, hcb⟩ := (rb.kept hb) k (by rw [HN.out]; exact hlt)
      go_wp2
      go_quiet (fail)
      go_wp2
      go_roundw
      case rel => exact ⟨k + 1, by omega, by go_num, below_drewN hb _⟩
      case measure => simp [intOf]; omega
    · go_wp2
      go_ret
      exact ⟨rfl, hb⟩

theorem ptAt_take {xs : List Int} {n k : Nat} (hk : k < n) : ptAt (xs.take n) k = ptAt xs k := by
  unfold ptAt
  rw [List.getElem?_take_of_lt hk, List.getElem?_take_of_lt (by omega)]
theorem vpB_take {xs : List Int} {n : Nat} (h : vpB xs = true) (hn : xs.length = n) (h1 : n ≠ 1) : vpB (xs.take (n - 1)) = true := by
  unfold vpB at h ⊢
  rw [Bool.and_eq_true, Bool.and_eq_true, allTo_iff, decide_eq_true_eq] at h
  obtain ⟨⟨ha, hr⟩, h0⟩ := h
  have hr := rngB_yes hr
  have hl : (xs.take (n - 1)).length = n - 1 := by rw [List.length_take]; omega
  rw [hl, rngB_mk (by omega) (by omega), (allTo_iff _ _).2 (fun i hi => by rw [ptAt_take hi]; exact ha i (by omega)), List.getElem?_take_of_lt (by omega), decide_eq_true h0]; rfl
set_option maxHeartbeats 1000000 in
theorem walk_FnValidPoints (pa : Option Addr) (n cap : Nat) (w : World) (hx : CodeAt w pa n cap) :
    Calls Try.prog 4 #[.slice pa n cap] w fun e w' => e = .returned (.bool true) ∧ Below w.heap.size w w' := by
  have hcap := hx.2.1; have hnc := hx.1
  unfold maxLen at hcap
  have HC := Lib.hid hx; clear hx
  by_cases hn : n ≤ 1048576
  · go_enter Try.func4, Try.ntmps4
    go_wp2_with fail
    refine (d_DrawValidPoints _ _ _ _ HC.out).mono ?_; rintro e w1 ⟨pb, m, ca, xs, rfl, HN, hm, hmc, hca, hr, hb1⟩
    unfold maxLen at hca
    go_wp2_with fail
    refine (i_ValidPoints pb m ca xs _ HN.out (by omega) hr).mono ?_; rintro e w2 ⟨rfl, hb2⟩
    have hr2 := hr.kept hb2
    have hB2 := below_then hb1 hb2; clear hb1 hb2 hr
    go_wp2_with fail
    refine (s_ValidPoints pb m ca xs _ HN.out (by omega) hr2).mono ?_; rintro e w3 ⟨rfl, hb3⟩
    have hr3 := hr2.kept hb3
    have hB3 := below_then hB2 hb3; clear hB2 hb3 hr2
    cases hv : vpB xs with
    | false =>
      have HV := Lib.hid hv; clear hv
      go_wp2_with fail
      refine (s_ValidPoints pb m ca xs _ HN.out (by omega) hr3).mono ?_; rintro e w4 ⟨rfl, hb4⟩
      rw [HV.out]
      go_wp2
      go_ret
      exact ⟨rfl, below_then hB3 hb4⟩
    | true =>
      by_cases h1 : m = 1
      · have hm1 : ((m : Int) == 1) = true := by rw [beq_iff_eq]; omega
        have H1 := Lib.hid h1; clear h1
        go_wp2
        go_ret
        exact ⟨rfl, hB3⟩
      · have hm1 : ((m : Int) == 1) = false := by rw [beq_eq_false_iff_ne]; omega
        have hm0 : 1 ≤ m := by
          have hv2 := hv
          unfold vpB at hv2
          rw [Bool.and_eq_true, Bool.and_eq_true] at hv2
          have := rngB_yes hv2.1.2; rw [HN.out] at this; omega
        have hvt := vpB_take hv HN.out h1
        have HV := Lib.hid hvt; clear hvt
        have hl : (xs.take (m - 1)).length = m - 1 := by rw [List.length_take, HN.out]; omega
        have HL := Lib.hid hl; clear hl
        have e1 : ((m : Int) - 1).toNat = m - 1 := by omega
        go_wp2_with fail
        refine (i_ValidPoints pb (m - 1) ca (xs.take (m - 1)) _ HL.out (by omega) (hr3.take _)).mono ?_; rintro e w4 ⟨rfl, hb4⟩
        rw [HV.out]
        go_wp2
        go_ret
        exact ⟨rfl, below_then hB3 hb4⟩
  · go_enter Try.func4, Try.ntmps4
    go_wp2
    go_ret
    exact ⟨rfl, Below.refl _ _⟩
end Go.Proofs.Ytkgdifngijeenaa
