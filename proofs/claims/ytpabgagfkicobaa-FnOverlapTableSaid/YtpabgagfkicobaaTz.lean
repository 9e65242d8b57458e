/- Drawn words: the walks of someWords and DrawOverlapTable. -/
import Derived.Test.YtpabgagfkicobaaRx
import Derived.Test.YtpabgagfkicobaaDr
namespace Go.Proofs.Ytpabgagfkicobaa
open Go.RowKit
set_option linter.unusedVariables false
theorem rd_grown {W W' : World} {lo B : Nat} {p : Int} (h : Rd W lo B p) {row : Option Nat} (hg : W.grownBy W' row) (hr : ∀ k, row = some k → B < k) : Rd W' lo B p := by
  have hB := h.lt
  obtain ⟨h1, h2, h3, pa, n, cap, h4, h5, h6⟩ := h
  have hbb := hg.block B hB (fun e => by have := hr _ e.symm; omega)
  refine ⟨h1, (World.cell?_of_block (a := ⟨B, 1, none⟩) hbb).trans h2, (World.frozen?_of_block (a := ⟨B, 1, none⟩) hbb).trans h3, pa, n, cap, h4, (World.cell?_of_block (a := ⟨B, 0, none⟩) hbb).trans h5, fun i hi => ?_⟩
  obtain ⟨b, off, x, a1, a2, a3, a4, a5⟩ := h6 i hi
  exact ⟨b, off, x, a1, a2, a3, a4, (World.cell?_of_block (a := ⟨b, off + i, none⟩) (hg.block b (cell_lt a5) (fun e => by have := hr _ e.symm; omega))).trans a5⟩
theorem own_farS {w w' : World} {B : Nat} {e : TypeId} {v : Value} {n : Nat} {xs : List Value} (h : w.ownsRow (B + 1) e 1 v n xs) (hg : w.grownBy w' (some B)) : w'.ownsRow (B + 1) e 1 v n xs := by
  refine h.kept hg ?_
  cases hv : v.ownBlock with
  | none => exact .inl rfl
  | some g => have := (h.lt g hv).1; exact .inr (by intro e; cases e; omega)
theorem below_farS {W w w' : World} {lo B : Nat} (h : Below lo W w) (hg : w.grownBy w' (some B)) (hB : lo ≤ B) (hlo : lo ≤ W.heap.size) : Below lo W w' := h.grown hg (by have := h.size; omega) (fun k e => by cases e; exact hB)
/-- The call hands back a new slice of short words. -/
def DrawW (W : World) (lo : Nat) (e : Ending) (W' : World) : Prop :=
  ∃ pa n ca xs, e = .returned (.slice pa n ca) ∧ Hid (xs.length = n) ∧ n ≤ 20 ∧ Hid (∀ x ∈ xs, ByteArray.size x ≤ 60) ∧ RowF W' lo W'.heap.size pa n (strF xs) ∧ Below lo W W'
theorem DrawW.of_owns {W W' : World} {lo base n : Nat} {v : Value} {xs : List ByteArray} (h : W'.ownsRow base 9 1 v n (strs xs)) (hlo : lo ≤ base) (hn : n ≤ 20) (hx : ∀ x ∈ xs, ByteArray.size x ≤ 60) (hb : Below lo W W') : DrawW W lo (.returned v) W' := by
  obtain ⟨pa, cap, rfl, h1, h2, h3, h4⟩ := RowF.of_strs h
  exact ⟨pa, n, cap, xs, rfl, Lib.hid h3, hn, Lib.hid hx, h4.mono hlo (Nat.le_refl _), hb⟩
theorem small_app {xs : List ByteArray} {z : ByteArray} (h : ∀ x ∈ xs, ByteArray.size x ≤ 60) (hz : z.size ≤ 60) : ∀ x ∈ xs ++ [z], ByteArray.size x ≤ 60 := by
  intro x hx
  rcases List.mem_append.1 hx with h1 | h1
  · exact h x h1
  · simp at h1; subst h1; exact hz
set_option maxRecDepth 100000 in
set_option maxHeartbeats 8000000 in
theorem d_someWords (W : World) (lo B : Nat) (p : Int) (hp0 : 0 ≤ p) (hp : p ≤ 800000) (h : Rd W lo B p) (hlo : lo ≤ W.heap.size) :
    Calls Try.prog 44 #[.pointer (some ⟨B, 0, none⟩)] W (DrawW W lo) := by
  have hBlt := h.lt
  have hBlo := h.1
  have o0 : (W.alloc (.cells #[] 9)).ownsRow (B + 1) 9 1 (.slice (some ⟨W.heap.size, 0, none⟩) 0 0) 0 (strs []) :=
    World.ownsRow_made (base := B + 1) (e := 9) (size := 1) W #[] 0 (by omega) (by decide) rfl
  have b0 : Below lo W (W.alloc (.cells #[] 9)) := (Below.refl _ _).alloc hlo _
  have r0 := h.kept ((Below.refl _ _).alloc (o := .cells #[] 9) (Nat.le_refl _))
  go_enter Try.func44, Try.ntmps44
  go_wp2_with fail
  refine (d_someText _ lo B p 14 hp0 (by omega) (by omega) (by omega) r0).mono ?_; rintro e w1 ⟨s, q1, rfl, hss, hq1, hq2, hrd1, g1⟩
  have o1 := own_farS o0 g1
  have b1 := below_farS b0 g1 hBlo hlo
  have s1 := b1.size
  clear h o0 b0 r0 g1
  obtain ⟨w0, hw0⟩ : ∃ w0 : World, w0 = w1 := ⟨_, rfl⟩
  subst hw0
  go_wp2_with fail
  have r1 := hrd1.kept ((Below.refl _ _).alloc (o := .cells #[.int .i64 3, .int .i64 4, .int .i64 2, .int .i64 5, .int .i64 1, .int .i64 6, .int .i64 0] 3) (Nat.le_refl _))
  have o2 := o1.alloc (.cells #[.int .i64 3, .int .i64 4, .int .i64 2, .int .i64 5, .int .i64 1, .int .i64 6, .int .i64 0] 3)
  have b2 := b1.alloc (by omega) (.cells #[.int .i64 3, .int .i64 4, .int .i64 2, .int .i64 5, .int .i64 1, .int .i64 6, .int .i64 0] 3)
  refine (d_one _ lo B q1 _ 7 7 w0.heap.size (w0.heap.size + 1) [3, 4, 2, 5, 1, 6, 0] (by omega) (by omega) r1 (Row.new w0 (ints [3, 4, 2, 5, 1, 6, 0]) 3) rfl (by omega) (by omega) (by have := hrd1.lt; omega)).mono ?_; rintro e w2 ⟨n0, rfl, hnm, hrd2, g2⟩
  have hn0 : 0 ≤ n0 ∧ n0 ≤ 6 := by simp at hnm; omega
  obtain ⟨hn0, hn6⟩ := hn0
  have o3 := own_farS o2 g2
  have b3 := below_farS b2 g2 hBlo hlo
  clear hnm r1 o1 o2 b1 b2 g2 hrd1
  go_wp2_with fail
  go_loopw [3, 5] (fun v m wr => ∃ (xs : List ByteArray) (k : Nat) (mm q : Int), wr.ownsRow (B + 1) 9 1 v k (strs xs) ∧ m = .int .i64 mm ∧ 0 ≤ mm ∧ mm ≤ 6 ∧ (k : Int) + mm ≤ 6 ∧ Hid (∀ x ∈ xs, ByteArray.size x ≤ 60) ∧ p ≤ q ∧ q ≤ p + 200 + (6 - mm) * 200 ∧ Rd wr lo B q ∧ Below lo W wr) (fun _ m _ => (intOf m).toNat)
  case atStart => exact ⟨[], 0, n0, q1 + 1, o3, rfl, hn0, hn6, by omega, Lib.hid (by simp), by omega, by omega, hrd2, b3⟩
  case round =>
    obtain ⟨xs, k, mm, q, hown, rfl, hm0, hm1, hkm, HXS, hq0, hq1', hrd, hb⟩ := hrel
    clear o3 b3 hrd2
    by_cases hc : 0 < mm
    · go_wp2_with fail
      refine (d_someText _ lo B q 5 (by omega) (by omega) (by omega) (by omega) hrd).mono ?_; rintro e w3 ⟨t, q3, rfl, hts, hq3, hq4, hrd3, g3⟩
      have o3 := own_farS hown g3
      have b3 := below_farS hb g3 hBlo hlo
      have s3 := b3.size
      clear hrd hown hb g3
      by_cases hs2 : 2 < s.size
      · go_wp2_with fail
        refine (d_pick _ lo B q3 3 (by omega) (by omega) (by omega) (by omega) hrd3).mono ?_; rintro e w4 ⟨r3, rfl, hr0, hr1, _, hrd4, g4⟩
        have o4 := own_farS o3 g4
        have b4 := below_farS b3 g4 hBlo hlo
        have s4 := b4.size
        clear hrd3 o3 b3 g4 hr1
        by_cases hr3 : 0 < r3
        · go_wp2_with fail
          refine (d_pick _ lo B (q3 + 1) ((s.size : Int) - 1) (by omega) (by omega) (by omega) (by omega) hrd4).mono ?_; rintro e w5 ⟨r5, rfl, hr50, hr51, _, hrd5, g5⟩
          have hr52 := hr51 (by omega)
          obtain ⟨j, rfl⟩ := Int.eq_ofNat_of_zero_le hr50
          have o5 := own_farS o4 g5
          have b5 := below_farS b4 g5 hBlo hlo
          have s5 := b5.size
          clear hrd4 o4 b4 g5 hr51 hr50
          go_wp2_with fail
          refine (d_pick _ lo B (q3 + 1 + 1) 5 (by omega) (by omega) (by omega) (by omega) hrd5).mono ?_; rintro e w6 ⟨r6, rfl, hr60, hr61, _, hrd6, g6⟩
          have hr62 := hr61 (by omega)
          obtain ⟨i, rfl⟩ := Int.eq_ofNat_of_zero_le hr60
          have o6 := own_farS o5 g6
          have b6 := below_farS b5 g6 hBlo hlo
          have s6 := b6.size
          have hB6 := hrd6.lt
          clear hrd5 o5 b5 g6 hr61 hr60
          by_cases hmn : (s.size : Int) < (j : Int) + 1 + i
          all_goals
            go_wp2_with (at_builtin; refine wpList_append_strS rfl _ _ rfl (B + 1) _ k xs _ o6 rfl rfl (by omega) (by omega) ?_; intro v' w7 hown7 hgrow7 hb7; have hrd7 := rd_grown (hrd6.kept ((Below.refl _ _).alloc (Nat.le_refl _) _)) hgrow7 (fun k e => by have := (o6.lt k e).1; omega))
            all_goals
              have H7 := Lib.hid hown7
              have hB7 : Below lo W w7 := b6.trans (hb7.mono (by omega))
              clear hown7 o6 b6
              go_roundw
              case rel => exact ⟨_, k + 1, mm - 1, q3 + 1 + 1 + 1, H7.out, by go_num, by omega, by omega, by omega, Lib.hid (small_app HXS.out (by first | (simp only [ByteArray.size_extract]; omega) | omega | decide)), by omega, by omega, hrd7, hB7⟩
              case measure => simp [intOf]; omega
        · have hB4 := hrd4.lt
          go_wp2_with (at_builtin; refine wpList_append_strS rfl _ _ rfl (B + 1) _ k xs _ o4 rfl rfl (by omega) (by omega) ?_; intro v' w7 hown7 hgrow7 hb7; have hrd7 := rd_grown (hrd4.kept ((Below.refl _ _).alloc (Nat.le_refl _) _)) hgrow7 (fun k e => by have := (o4.lt k e).1; omega))
          all_goals
            have H7 := Lib.hid hown7
            have hB7 : Below lo W w7 := b4.trans (hb7.mono (by omega))
            clear hown7 o4 b4
            go_roundw
            case rel => exact ⟨_, k + 1, mm - 1, q3 + 1, H7.out, by go_num, by omega, by omega, by omega, Lib.hid (small_app HXS.out (by first | (simp only [ByteArray.size_extract]; omega) | omega | decide)), by omega, by omega, hrd7, hB7⟩
            case measure => simp [intOf]; omega
      · have hB3 := hrd3.lt
        go_wp2_with (at_builtin; refine wpList_append_strS rfl _ _ rfl (B + 1) _ k xs _ o3 rfl rfl (by omega) (by omega) ?_; intro v' w7 hown7 hgrow7 hb7; have hrd7 := rd_grown (hrd3.kept ((Below.refl _ _).alloc (Nat.le_refl _) _)) hgrow7 (fun k e => by have := (o3.lt k e).1; omega))
        all_goals
          have H7 := Lib.hid hown7
          have hB7 : Below lo W w7 := b3.trans (hb7.mono (by omega))
          clear hown7 o3 b3
          go_roundw
          case rel => exact ⟨_, k + 1, mm - 1, q3, H7.out, by go_num, by omega, by omega, by omega, Lib.hid (small_app HXS.out (by first | (simp only [ByteArray.size_extract]; omega) | omega | decide)), by omega, by omega, hrd7, hB7⟩
          case measure => simp [intOf]; omega
    · go_wp2_with fail
      refine (d_pick _ lo B q 40 (by omega) (by omega) (by omega) (by omega) hrd).mono ?_; rintro e w3 ⟨r, rfl, hr0, hr1, _, hrd3, g3⟩
      have o3 := own_farS hown g3
      have b3 := below_farS hb g3 hBlo hlo
      have s3 := b3.size
      have hB3 := hrd3.lt
      clear hr1 hrd hown hb g3
      by_cases hz : r = 0
      · subst hz
        go_wp2_with (at_builtin; refine wpList_append_strS rfl _ _ rfl (B + 1) _ k xs _ o3 rfl rfl (by omega) (by omega) ?_; intro v' w7 hown7 hgrow7 hb7)
        go_ret
        exact DrawW.of_owns hown7 (by omega) (by omega) (small_app HXS.out (by decide)) (b3.trans (hb7.mono (by omega)))
      · have hz0 : (r == 0) = false := beq_eq_false_iff_ne.2 hz
        by_cases hz1 : r = 1
        · subst hz1
          go_wp2_with (at_builtin; refine wpList_append_strS rfl _ _ rfl (B + 1) _ k xs _ o3 rfl rfl (by omega) (by omega) ?_; intro v' w7 hown7 hgrow7 hb7)
          go_ret
          exact DrawW.of_owns hown7 (by omega) (by omega) (small_app HXS.out (by decide)) (b3.trans (hb7.mono (by omega)))
        · have hz1' : (r == 1) = false := beq_eq_false_iff_ne.2 hz1
          go_wp2
          go_ret
          exact DrawW.of_owns o3 (by omega) (by omega) HXS.out b3
end Go.Proofs.Ytpabgagfkicobaa
