/- TextOf: the reference's walk. -/
import Derived.Test.YtknocepgfjebpaaDoorQc
namespace Go.Proofs.YtknocepgfjebpaaDoor
open Go.RowKit
set_option linter.unusedVariables false
theorem inR_yes {n lo hi : Int} (h1 : lo ≤ n) (h2 : n ≤ hi) : (decide (lo ≤ n) && decide (n ≤ hi)) = true := by simp [h1, h2]
theorem inR_no {n lo hi : Int} (h : ¬ (lo ≤ n ∧ n ≤ hi)) : (decide (lo ≤ n) && decide (n ≤ hi)) = false := by
  cases e : (decide (lo ≤ n) && decide (n ≤ hi)) with
  | false => rfl
  | true => rw [Bool.and_eq_true, decide_eq_true_eq, decide_eq_true_eq] at e; exact absurd e h
theorem s_inRangeW (n lo hi : Int) (w : World) : Calls Tryd.prog 11 #[.int .i64 n, .int .i64 lo, .int .i64 hi] w fun e w' => e = .returned (.bool (decide (lo ≤ n) && decide (n ≤ hi))) ∧ w = w' := by
  by_cases h1 : lo ≤ n
  · by_cases h2 : n ≤ hi
    · rw [inR_yes h1 h2]
      go_enter Tryd.func11, Tryd.ntmps11
      go_wp2
      go_ret
      exact ⟨ret_bool (by first | rfl | simpa using h2), rfl⟩
    · rw [inR_no (fun h => h2 h.2)]
      go_enter Tryd.func11, Tryd.ntmps11
      go_wp2
      go_ret
      exact ⟨ret_bool (by first | rfl | (simp; omega)), rfl⟩
  · rw [inR_no (fun h => h1 h.1)]
    go_enter Tryd.func11, Tryd.ntmps11
    go_wp2
    go_ret
    exact ⟨ret_bool (by first | rfl | (simp; omega)), rfl⟩
theorem i_within (n lo hi : Int) (w : World) : Calls Tryd.prog 18 #[.int .i64 n, .int .i64 lo, .int .i64 hi] w fun e w' => e = .returned (.bool (decide (lo ≤ n) && decide (n ≤ hi))) ∧ w = w' := by
  by_cases h1 : lo ≤ n
  · by_cases h2 : n ≤ hi
    · rw [inR_yes h1 h2]
      go_enter Tryd.func18, Tryd.ntmps18
      go_wp2
      go_ret
      exact ⟨ret_bool (by first | rfl | simpa using h2), rfl⟩
    · rw [inR_no (fun h => h2 h.2)]
      go_enter Tryd.func18, Tryd.ntmps18
      go_wp2
      go_ret
      exact ⟨ret_bool (by first | rfl | (simp; omega)), rfl⟩
  · rw [inR_no (fun h => h1 h.1)]
    go_enter Tryd.func18, Tryd.ntmps18
    go_wp2
    go_ret
    exact ⟨ret_bool (by first | rfl | (simp; omega)), rfl⟩
theorem s_inR {n lo hi : Int} {b : Bool} (w : World) (h : (decide (lo ≤ n) && decide (n ≤ hi)) = b) : Calls Tryd.prog 11 #[.int .i64 n, .int .i64 lo, .int .i64 hi] w fun e w' => e = .returned (.bool b) ∧ w = w' := by
  rw [← h]; exact s_inRangeW n lo hi w
theorem i_inR {n lo hi : Int} {b : Bool} (w : World) (h : (decide (lo ≤ n) && decide (n ≤ hi)) = b) : Calls Tryd.prog 18 #[.int .i64 n, .int .i64 lo, .int .i64 hi] w fun e w' => e = .returned (.bool b) ∧ w = w' := by
  rw [← h]; exact i_within n lo hi w

theorem stepT_lit {t : List UInt8} {y : Int} {z : ByteArray} (hy : y = 1) (hz : litOk z = true) : stepT t (-1, y, z) = some (t ++ z.data.toList) := by unfold stepT; rw [if_pos rfl, if_pos ⟨hy, hz⟩]
theorem stepT_litno {t : List UInt8} {y : Int} {z : ByteArray} (h : ¬ (y = 1 ∧ litOk z = true)) : stepT t (-1, y, z) = none := by unfold stepT; rw [if_pos rfl, if_neg h]
theorem stepT_far {t : List UInt8} {x y : Int} {z : ByteArray} (hx : x ≠ -1) (h : 0 ≤ x ∧ x ≤ (t.length : Int) - 1 ∧ 1 ≤ y ∧ y ≤ 40 ∧ z.size = 0) : stepT t (x, y, z) = some (copyN t x.toNat y.toNat) := by unfold stepT; rw [if_neg hx, if_pos h]
theorem stepT_farno {t : List UInt8} {x y : Int} {z : ByteArray} (hx : x ≠ -1) (h : ¬ (0 ≤ x ∧ x ≤ (t.length : Int) - 1 ∧ 1 ≤ y ∧ y ≤ 40 ∧ z.size = 0)) : stepT t (x, y, z) = none := by unfold stepT; rw [if_neg hx, if_neg h]
theorem ph_at {ps : List PhP} {k : Nat} {x y : Int} {z : ByteArray} (hx : x = (ps[k]?.getD phNo).1) (hy : y = (ps[k]?.getD phNo).2.1) (hz : z = (ps[k]?.getD phNo).2.2) : ps[k]?.getD phNo = (x, y, z) := by rw [hx, hy, hz]
theorem ext_last (out : ByteArray) (i : Nat) (h : i < out.size) : (out ++ out.extract i (i + 1)).data.toList = out.data.toList ++ [out.data.toList[i]?.getD 0] := by
  rw [ByteArray.data_append, Array.toList_append, Lib.extract_data, show i + 1 - i = 1 by omega]
  congr 1
  have hl : i < out.data.toList.length := by rw [list_len]; exact h
  rw [List.drop_eq_getElem_cons hl, List.getElem?_eq_getElem hl]; rfl
set_option maxRecDepth 100000 in
set_option maxHeartbeats 4000000 in
theorem s_TextOf (pa : Option Addr) (n ca : Nat) (ps : List PhP) (lo hi : Nat) (w : World) (hl : ps.length = n) (hn : n ≤ 1048576) (hsz : ∀ i : Nat, (ps[i]?.getD phNo).2.2.size ≤ 1048576) (hr : RowF w lo hi pa (n * 3) (phF ps)) :
    Calls Tryd.prog 5 #[.slice pa n ca] w (RetT ps w) := by
  have HL := Lib.hid hl; have HS := Lib.hid hsz; clear hl hsz
  by_cases h40 : n ≤ 40
  · go_enter Tryd.func5, Tryd.ntmps5
    go_wp2
    go_loopw [4, 5] (fun o i wr => ∃ (k : Nat) (t : ByteArray), k ≤ n ∧ i = .int .i64 k ∧ o = .string t ∧ Hid (foldT ps k = some t.data.toList) ∧ Below w.heap.size w wr) (fun _ i _ => n - (intOf i).toNat)
    case atStart => exact ⟨0, ⟨#[]⟩, Nat.zero_le _, rfl, rfl, Lib.hid rfl, Below.refl _ _⟩
    case round =>
      obtain ⟨k, t, hk, rfl, rfl, HF, hb⟩ := hrel
      have hwr := hb.size
      have htb := foldT_bound HF.out
      rw [list_len] at htb
      by_cases hlt : k < n
      · have htl : t.size ≤ 1600 := by omega
        obtain ⟨g, rfl, _, _, c0, c1, c2⟩ := ph_cells (hr.kept hb) hlt
        have hzs := HS.out k
        obtain ⟨x, hx⟩ : ∃ x, x = (ps[k]?.getD phNo).1 := ⟨_, rfl⟩
        obtain ⟨y, hy⟩ : ∃ y, y = (ps[k]?.getD phNo).2.1 := ⟨_, rfl⟩
        obtain ⟨z, hz⟩ : ∃ z, z = (ps[k]?.getD phNo).2.2 := ⟨_, rfl⟩
        have HP := Lib.hid (ph_at hx hy hz)
        rw [← hx] at c0; rw [← hy] at c1; rw [← hz] at c2 hzs
        clear hx hy hz
        have hstep := foldT_step HF.out
        rw [HP.out] at hstep
        have HST := Lib.hid hstep
        clear hstep
        have hzm : z.size ≤ maxLen := by unfold maxLen; omega
        have hba : Below w.heap.size w (wr.alloc (.cells #[.int .i64 x, .int .i64 y, .string z] 33)) := hb.alloc hwr _
        have HBA := Lib.hid hba
        clear hba
        have hkn : k + 1 ≤ ps.length := by rw [HL.out]; omega
        by_cases hm : x = -1
        · subst hm
          by_cases hy1 : y = 1
          · subst hy1
            by_cases hz1 : z.size = 1
            · have hz1i : (z.size : Int) = 1 := by omega
              have hz1b : ((z.size : Int) != 1) = false := by rw [bne_eq_false_iff_eq]; exact hz1i
              cases hv : vt z.data.toList with
              | true =>
                have hok : litOk z = true := by unfold litOk; rw [decide_eq_true hz1, hv]; rfl
                have HN := Lib.hid (HST.out.trans (stepT_lit rfl hok))
                have HZ1 := Lib.hid hz1
                clear hz1 hz1i hok
                go_wp2_with fail
                refine (s_validText z _ hzm).mono ?_; rintro e w' ⟨rfl, rfl⟩
                rw [hv]
                go_wp2
                go_roundw
                case rel => exact ⟨k + 1, t ++ z, by omega, by go_num, rfl, Lib.hid (by rw [HN.out, ByteArray.data_append, Array.toList_append]), HBA.out⟩
                case measure => simp [intOf]; omega
              | false =>
                have HN := Lib.hid (textO_bad (HST.out.trans (stepT_litno (fun h => by have := h.2; unfold litOk at this; rw [hv, Bool.and_false] at this; cases this))) hkn)
                have HZ1 := Lib.hid hz1
                clear hz1 hz1i
                go_wp2_with fail
                refine (s_validText z _ hzm).mono ?_; rintro e w' ⟨rfl, rfl⟩
                rw [hv]
                go_wp2
                go_ret2
                exact RetT.no HN.out HBA.out
            · have hz1b : ((z.size : Int) != 1) = true := by rw [bne_iff_ne]; omega
              have HN := Lib.hid (textO_bad (HST.out.trans (stepT_litno (fun h => by have := h.2; unfold litOk at this; rw [decide_eq_false hz1, Bool.false_and] at this; cases this))) hkn)
              have HZ1 := Lib.hid hz1
              clear hz1
              go_wp2_with fail
              go_ret2
              exact RetT.no HN.out HBA.out
          · have hy1b : (y != 1) = true := by rw [bne_iff_ne]; exact hy1
            have HN := Lib.hid (textO_bad (HST.out.trans (stepT_litno (fun h => hy1 h.1))) hkn)
            have HZ1 := Lib.hid hy1
            clear hy1
            go_wp2_with fail
            go_ret2
            exact RetT.no HN.out HBA.out
        · have hmb : (x == -1) = false := beq_eq_false_iff_ne.2 hm
          by_cases hr1 : 0 ≤ x ∧ x ≤ (t.size : Int) - 1
          · have D1 := Lib.hid (inR_yes hr1.1 hr1.2)
            by_cases hr2 : 1 ≤ y ∧ y ≤ 40
            · have D2 := Lib.hid (inR_yes hr2.1 hr2.2)
              by_cases hz0 : z.size = 0
              · obtain ⟨X, rfl⟩ := Int.eq_ofNat_of_zero_le hr1.1
                obtain ⟨Y, rfl⟩ := Int.eq_ofNat_of_zero_le (show 0 ≤ y by omega)
                have HN := Lib.hid (HST.out.trans (stepT_far hm ⟨hr1.1, by rw [list_len]; exact hr1.2, hr2.1, hr2.2, hz0⟩))
                obtain ⟨r1, r2⟩ := hr1
                obtain ⟨r3, r4⟩ := hr2
                have hze : z = ⟨#[]⟩ := by
                  have : z.data.toList = [] := List.length_eq_zero_iff.1 (by rw [list_len]; exact hz0)
                  exact ByteArray.ext (Array.ext' (by rw [this]))
                subst hze
                have HM := Lib.hid hm
                clear hm hz0
                go_wp2_with fail
                refine (s_inR (n := (X : Int)) (lo := 0) (hi := (t.size : Int) - 1) _ D1.out).mono ?_; rintro e w' ⟨rfl, rfl⟩
                go_wp2_with fail
                refine (s_inR (n := (Y : Int)) (lo := 1) (hi := 40) _ D2.out).mono ?_; rintro e w' ⟨rfl, rfl⟩
                go_wp2_with fail
                go_loop [4, 7] (fun o j => ∃ (m : Nat) (u : ByteArray), m ≤ Y ∧ j = .int .i64 m ∧ o = .string u ∧ Hid (u.data.toList = copyN t.data.toList X m) ∧ u.size = t.size + m) (fun _ j => Y - (intOf j).toNat)
                case atStart => exact ⟨0, t, Nat.zero_le _, rfl, rfl, Lib.hid rfl, rfl⟩
                case round =>
                  obtain ⟨m, u, hm2, rfl, rfl, HU, hus⟩ := hrel
                  by_cases hlt2 : m < Y
                  · have e3 : (m : Int) < Y := by omega
                    have hxm : X + m < u.size := by omega
                    have hnext : Hid ((u ++ u.extract (X + m) (X + m + 1)).data.toList = copyN t.data.toList X (m + 1)) := Lib.hid (by rw [ext_last u (X + m) hxm, HU.out]; rfl)
                    have hus2 : u.size ≤ 1700 := by omega
                    have HUS := Lib.hid hus
                    clear hus
                    go_wp2
                    go_round
                    case rel => exact ⟨m + 1, _, by omega, by go_num, rfl, hnext, by have := HUS.out; rw [ByteArray.size_append, ByteArray.size_extract]; omega⟩
                    case measure => simp [intOf]; omega
                  · obtain rfl : m = Y := by omega
                    have HU2 : Hid (foldT ps (k + 1) = some u.data.toList) := Lib.hid (by rw [HN.out, HU.out]; simp)
                    go_wp2
                    go_roundw
                    case rel => exact ⟨k + 1, u, by omega, by go_num, rfl, HU2, HBA.out⟩
                    case measure => simp [intOf]; omega
              · have hz0b : z.toList.isEmpty = false := by
                  rw [Lib.toList_data]
                  cases e : z.data.toList with
                  | nil => exact absurd (by rw [← list_len, e]; rfl) hz0
                  | cons a b => rfl
                have HN := Lib.hid (textO_bad (HST.out.trans (stepT_farno hm (fun h => hz0 h.2.2.2.2))) hkn)
                have HZ0 := Lib.hid hz0
                have HM := Lib.hid hm
                clear hm hz0
                go_wp2_with fail
                refine (s_inR (n := x) (lo := 0) (hi := (t.size : Int) - 1) _ D1.out).mono ?_; rintro e w' ⟨rfl, rfl⟩
                go_wp2_with fail
                refine (s_inR (n := y) (lo := 1) (hi := 40) _ D2.out).mono ?_; rintro e w' ⟨rfl, rfl⟩
                go_wp2_with fail
                go_ret2
                exact RetT.no HN.out HBA.out
            · have D2 := Lib.hid (inR_no hr2)
              have HN := Lib.hid (textO_bad (HST.out.trans (stepT_farno hm (fun h => hr2 ⟨h.2.2.1, h.2.2.2.1⟩))) hkn)
              have HM := Lib.hid hm
              clear hm hr2
              go_wp2_with fail
              refine (s_inR (n := x) (lo := 0) (hi := (t.size : Int) - 1) _ D1.out).mono ?_; rintro e w' ⟨rfl, rfl⟩
              go_wp2_with fail
              refine (s_inR (n := y) (lo := 1) (hi := 40) _ D2.out).mono ?_; rintro e w' ⟨rfl, rfl⟩
              go_wp2_with fail
              go_ret2
              exact RetT.no HN.out HBA.out
          · have D1 := Lib.hid (inR_no hr1)
            have HN := Lib.hid (textO_bad (HST.out.trans (stepT_farno hm (fun h => hr1 ⟨h.1, by have := h.2.1; rw [list_len] at this; exact this⟩))) hkn)
            have HM := Lib.hid hm
            clear hm hr1
            go_wp2_with fail
            refine (s_inR (n := x) (lo := 0) (hi := (t.size : Int) - 1) _ D1.out).mono ?_; rintro e w' ⟨rfl, rfl⟩
            go_wp2_with fail
            go_ret2
            exact RetT.no HN.out HBA.out
      · obtain rfl : k = n := by omega
        have hvt := vt_of_fold HF.out
        rw [list_len] at hvt
        have htm : t.size ≤ maxLen := by unfold maxLen; omega
        by_cases hl40 : t.size ≤ 40
        · rw [decide_eq_true hl40] at hvt
          have HV := Lib.hid hvt
          have HN := Lib.hid (textO_good (ps := ps) (t := t.data.toList) (by rw [HL.out]; exact h40) (by rw [HL.out]; exact HF.out) (by rw [list_len]; exact hl40))
          clear hvt
          go_wp2_with fail
          refine (s_validText t _ htm).mono ?_; rintro e w' ⟨rfl, rfl⟩
          rw [HV.out]
          go_wp2
          go_ret2
          exact RetT.yes HN.out hb
        · rw [decide_eq_false hl40] at hvt
          have HV := Lib.hid hvt
          have HN := Lib.hid (textO_long (ps := ps) HF.out (by rw [list_len]; omega) (by rw [HL.out]; exact Nat.le_refl _))
          clear hvt
          go_wp2_with fail
          refine (s_validText t _ htm).mono ?_; rintro e w' ⟨rfl, rfl⟩
          rw [HV.out]
          go_wp2
          go_ret2
          exact RetT.no HN.out hb
  · have HN := Lib.hid (textO_big (ps := ps) (by rw [HL.out]; exact h40))
    go_enter Tryd.func5, Tryd.ntmps5
    go_wp2_with fail
    go_ret2
    exact RetT.no HN.out (Below.refl _ _)
end Go.Proofs.YtknocepgfjebpaaDoor
