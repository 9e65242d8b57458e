/- ReduceWords: the program's walk and the walk of the law FnExactReduceWords. -/
import Derived.Test.YtpabgagfkicobaaRw
namespace Go.Proofs.Ytpabgagfkicobaa
open Go.RowKit
set_option linter.unusedVariables false
set_option maxHeartbeats 400000 in
theorem l_ClipStr (pa : Option Addr) (n ca : Nat) (w : World) (h1 : n ≤ ca) (h2 : ca ≤ maxLen) :
    Calls Try.prog 54 #[.slice pa n ca] w fun e w' => e = .returned (.slice pa n n) ∧ w = w' := by
  unfold maxLen at h2
  go_enter Try.func54, Try.ntmps54
  go_wp2
  go_ret
  exact ⟨rfl, rfl⟩
set_option maxHeartbeats 4000000 in
theorem i_reduced (pa : Option Addr) (n ca : Nat) (xs : List ByteArray) (lo hi : Nat) (w : World) (hl : xs.length = n) (hn : n ≤ 1048576) (hsz : ∀ i : Nat, (wAt xs i).size ≤ 1048576) (hhi : hi ≤ w.heap.size) (hm : MaxAt w) (hr : RowF w lo hi pa n (strF xs)) :
    Calls Try.prog 30 #[.slice pa n ca] w (RetStr (redL xs) w) := by
  have HL := Lib.hid hl; have HS := Lib.hid hsz; have HM := Lib.hid hm; clear hl hsz hm
  go_enter Try.func30, Try.ntmps30
  go_wp2
  go_step3
  go_wp2_with (at_make; refine wpList_make_strS _ rfl _ _ rfl w.heap.size n _ rfl rfl rfl hn (Nat.le_refl _) ?_; intro v0 w1 hown1 hb1)
  go_step3
  go_wp2
  go_loopg [3, 13] n (fun g v i wr => ∃ m : Nat, m + g = n ∧ i = .int .i64 m ∧ wr.ownsRow w.heap.size 9 1 v (redTo xs m).length (strs (redTo xs m)) ∧ Below w.heap.size w wr)
  case atStart => exact ⟨0, by omega, rfl, hown1, hb1⟩
  case round =>
    obtain ⟨m, hmg, rfl, hown, hb⟩ := hrel
    clear hown1 hb1
    have hle := redTo_le xs m
    cases gk with
    | zero =>
      obtain rfl : m = n := by omega
      obtain ⟨pv, cv, rfl, hv1, hv2, hv3, _⟩ := RowF.of_strs hown
      have HV3 := Lib.hid hv3; clear hv3
      go_wp2_with fail
      refine (l_ClipStr _ _ _ _ hv1 hv2).mono ?_; rintro e w' ⟨rfl, rfl⟩
      go_wp2
      try rw [Exit.noGoto_ret]
      go_ret
      unfold redL
      rw [HL.out]
      exact RetStr.clip hown (Nat.le_refl _) hb
    | succ g =>
      have e1 : (m : Int) < n := by omega
      have hlt : m < n := by omega
      obtain ⟨wo, rfl⟩ : ∃ wo : World, wo = wr := ⟨_, rfl⟩
      obtain ⟨b, rfl, _, _, d0, _⟩ := (hr.kept hb) m hlt
      unfold strF at d0
      have zm := HS.out m; unfold wAt at zm
      obtain ⟨y, hy⟩ : ∃ z, z = xs[m]?.getD ⟨#[]⟩ := ⟨_, rfl⟩
      rw [← hy] at d0 zm
      have HY : Hid (wAt xs m = y) := Lib.hid hy.symm
      clear hy
      go_wp2
      go_loopg [20] n (fun g2 j wr => ∃ k : Nat, k + g2 = n ∧ j = .int .i64 k ∧ Hid (keepTo xs m k = true) ∧ wr = wo)
      case atStart => exact ⟨0, by omega, rfl, Lib.hid rfl, rfl⟩
      case round =>
        obtain ⟨k, hkg, rfl, HKP, rfl⟩ := hrel
        cases gk with
        | zero =>
          obtain rfl : k = n := by omega
          have hsz2 := hb.size
          go_wp2_with (at_builtin; refine wpList_append_strS rfl _ _ rfl w.heap.size _ (redTo xs m).length (redTo xs m) y hown rfl rfl (by omega) (by exact hsz2) ?_; intro v' w4 hown4 hgrow4 hb4)
          have H4 := Lib.hid (redTo_app (xs := xs) (m := m) (by rw [HL.out]; exact HKP.out) (by rw [HY.out]; exact hown4))
          clear hown4
          go_roundg g
          case measure => omega
          case rel => exact ⟨m + 1, by omega, by go_num, H4.out, hb.trans hb4⟩
        | succ g2 =>
          have e2 : (k : Int) < n := by omega
          obtain ⟨_, e3, _, _, c0, _⟩ := (hr.kept hb) k (by omega)
          cases e3
          unfold strF at c0
          have zk := HS.out k; unfold wAt at zk
          obtain ⟨x, hx⟩ : ∃ z, z = xs[k]?.getD ⟨#[]⟩ := ⟨_, rfl⟩
          rw [← hx] at c0 zk
          have HX : Hid (wAt xs k = x) := Lib.hid hx.symm
          clear hx
          have hkn : k + 1 ≤ xs.length := by rw [HL.out]; omega
          by_cases hkm : k = m
          · have hg0 : ((k : Int) != (m : Int)) = false := by rw [bne_eq_false_iff_eq]; omega
            have HBAD := Lib.hid ((keepTo_good (xs := xs) (i := m) (m := k) (by rw [hkm]; exact badAt_self xs m)).trans HKP.out)
            have HKM := Lib.hid hkm
            clear hkm hkn
            go_wp2
            go_roundg g2
            case measure => omega
            case rel => exact ⟨k + 1, by omega, by go_num, HBAD, rfl⟩
          · have hg0 : ((k : Int) != (m : Int)) = true := by rw [bne_iff_ne]; omega
            cases hh : hasB x.data.toList y.data.toList with
            | false =>
              have HBAD := Lib.hid ((keepTo_good (xs := xs) (i := m) (m := k) (badAt_out (by rw [HX.out, HY.out]; exact hh))).trans HKP.out)
              have HKM := Lib.hid hkm
              have HH := Lib.hid hh
              clear hkm hh hkn
              go_wp2_with fail
              refine (i_Contains x y _ zk (HM.out.kept hb)).mono ?_; rintro e w' ⟨rfl, rfl⟩
              rw [HH.out]
              go_wp2
              go_roundg g2
              case measure => omega
              case rel => exact ⟨k + 1, by omega, by go_num, HBAD, rfl⟩
            | true =>
              cases heq : (x.toList == y.toList) with
              | false =>
                have hne : (x.toList != y.toList) = true := by unfold bne; rw [heq]; rfl
                have HK := Lib.hid (redTo_keep (xs := xs) (m := m) (lo := w.heap.size) (keepTo_false (keepTo_bad (xs := xs) (i := m) (m := k) (badAt_ne hkm (by rw [HX.out, HY.out]; exact hh) (by rw [HX.out, HY.out]; exact heq))) hkn) hown)
                have HKM := Lib.hid hkm
                have HH := Lib.hid hh
                clear hkm hh hkn
                go_wp2_with fail
                refine (i_Contains x y _ zk (HM.out.kept hb)).mono ?_; rintro e w' ⟨rfl, rfl⟩
                rw [HH.out]
                go_wp2
                go_roundg g
                case measure => omega
                case rel => exact ⟨m + 1, by omega, by go_num, HK.out, hb⟩
              | true =>
                have hne : (x.toList != y.toList) = false := by unfold bne; rw [heq]; rfl
                by_cases hlt2 : k < m
                · have hd : decide ((k : Int) < (m : Int)) = true := decide_eq_true (by omega)
                  have HK := Lib.hid (redTo_keep (xs := xs) (m := m) (lo := w.heap.size) (keepTo_false (keepTo_bad (xs := xs) (i := m) (m := k) ((badAt_eq hkm (by rw [HX.out, HY.out]; exact hh) (by rw [HX.out, HY.out]; exact heq)).trans (decide_eq_true hlt2))) hkn) hown)
                  have HKM := Lib.hid hkm
                  have HH := Lib.hid hh
                  clear hkm hh hkn
                  go_wp2_with fail
                  refine (i_Contains x y _ zk (HM.out.kept hb)).mono ?_; rintro e w' ⟨rfl, rfl⟩
                  rw [HH.out]
                  go_wp2
                  go_roundg g
                  case measure => omega
                  case rel => exact ⟨m + 1, by omega, by go_num, HK.out, hb⟩
                · have hd : decide ((k : Int) < (m : Int)) = false := decide_eq_false (by omega)
                  have HBAD := Lib.hid ((keepTo_good (xs := xs) (i := m) (m := k) ((badAt_eq hkm (by rw [HX.out, HY.out]; exact hh) (by rw [HX.out, HY.out]; exact heq)).trans (decide_eq_false hlt2))).trans HKP.out)
                  have HKM := Lib.hid hkm
                  have HH := Lib.hid hh
                  clear hkm hh hkn
                  go_wp2_with fail
                  refine (i_Contains x y _ zk (HM.out.kept hb)).mono ?_; rintro e w' ⟨rfl, rfl⟩
                  rw [HH.out]
                  go_wp2
                  go_roundg g2
                  case measure => omega
                  case rel => exact ⟨k + 1, by omega, by go_num, HBAD, rfl⟩
set_option maxHeartbeats 1000000 in
theorem s_ReduceWords (pa : Option Addr) (n ca : Nat) (xs : List ByteArray) (lo hi : Nat) (w : World) (hl : xs.length = n) (hn : n ≤ 1048576) (hsz : ∀ i : Nat, (wAt xs i).size ≤ 1048576) (hsx : ∀ x ∈ xs, x.size ≤ maxLen) (hhi : hi ≤ w.heap.size) (hr : RowF w lo hi pa n (strF xs)) :
    Calls Try.prog 9 #[.slice pa n ca] w (RetStr (redW xs) w) := by
  have HL := Lib.hid hl; have HS := Lib.hid hsz; have HX := Lib.hid hsx; clear hl hsz hsx
  go_enter Try.func9, Try.ntmps9
  go_wp2_with fail
  refine (s_validWords pa n ca xs lo hi _ HL.out hn HX.out hr).mono ?_; rintro e w2 ⟨rfl, hst⟩
  cases hw : wsOk xs with
  | false =>
    go_wp2_with fail
    go_ret
    rw [show redW xs = [] by unfold redW; rw [hw]; rfl]
    exact RetStr.nil _ _ hst.1
  | true =>
    have hr2 := hr.kept hst.1
    go_wp2_with fail
    refine (s_reduce pa n ca xs lo hi _ HL.out hn HS.out (by have := hst.1.size; omega) hr2).mono ?_; rintro e w3 ⟨p3, n3, c3, rfl, HN, h1, h2, h3, hb3⟩
    have hsz3 := hst.1.size
    go_wp2
    go_ret
    rw [show redW xs = redL xs by unfold redW; rw [hw]; rfl]
    exact ⟨p3, n3, c3, rfl, HN, h1, h2, h3.mono hsz3 (Nat.le_refl _), below_then hst.1 hb3⟩
set_option maxHeartbeats 1000000 in
theorem i_ReduceWords (pa : Option Addr) (n ca : Nat) (xs : List ByteArray) (lo hi : Nat) (w : World) (hl : xs.length = n) (hn : n ≤ 1048576) (hsz : ∀ i : Nat, (wAt xs i).size ≤ 1048576) (hsx : ∀ x ∈ xs, x.size ≤ maxLen) (hhi : hi ≤ w.heap.size) (hm : MaxAt w) (hr : RowF w lo hi pa n (strF xs)) :
    Calls Try.prog 11 #[.slice pa n ca] w (RetStr (redW xs) w) := by
  have HL := Lib.hid hl; have HS := Lib.hid hsz; have HX := Lib.hid hsx; have HM := Lib.hid hm; clear hl hsz hsx hm
  go_enter Try.func11, Try.ntmps11
  go_wp2_with fail
  refine (i_wordsOk pa n ca xs lo hi _ HL.out hn HX.out hr).mono ?_; rintro e w2 ⟨rfl, hst⟩
  cases hw : wsOk xs with
  | false =>
    go_wp2_with fail
    go_ret
    rw [show redW xs = [] by unfold redW; rw [hw]; rfl]
    exact RetStr.nil _ _ hst
  | true =>
    have hr2 := hr.kept hst
    have HM2 := Lib.hid (HM.out.kept hst)
    go_wp2_with fail
    refine (i_reduced pa n ca xs lo hi _ HL.out hn HS.out (by have := hst.size; omega) HM2.out hr2).mono ?_; rintro e w3 ⟨p3, n3, c3, rfl, HN, h1, h2, h3, hb3⟩
    have hsz3 := hst.size
    go_wp2
    go_ret
    rw [show redW xs = redL xs by unfold redW; rw [hw]; rfl]
    exact ⟨p3, n3, c3, rfl, HN, h1, h2, h3.mono hsz3 (Nat.le_refl _), below_then hst hb3⟩
theorem redW_len (xs : List ByteArray) : (redW xs).length ≤ xs.length := by
  unfold redW; split
  · exact redTo_le xs xs.length
  · exact Nat.zero_le _
set_option maxHeartbeats 2000000 in
theorem walk_FnExactReduceWords (pa : Option Addr) (n cap : Nat) (w : World) (hx : StrsAt w pa n cap) (hm : MaxAt w) :
    Calls Try.prog 3 #[.slice pa n cap] w fun e w' => e = .returned (.bool true) ∧ Below w.heap.size w w' := by
  obtain ⟨xs, hx⟩ := hx
  have HX := Lib.hid hx; clear hx
  have HM := Lib.hid hm; clear hm
  go_enter Try.func3, Try.ntmps3
  go_wp2_with fail
  refine (l_szStringS pa n cap xs _ HX.out).mono ?_; rintro e w1 ⟨r, rfl, HR, hr0, hr1, hb1⟩
  by_cases hneg : r < 0
  · go_wp2
    go_ret
    exact ⟨rfl, hb1⟩
  · have hsz := HR.out (by omega)
    have hn : n ≤ 1048576 := by rw [← HX.out.1]; exact hsz.1
    have HS : Hid (∀ i : Nat, (wAt xs i).size ≤ 1048576) := Lib.hid (fun i => by
      unfold wAt
      by_cases hi : i < xs.length
      · exact hsz.2 i hi
      · rw [List.getElem?_eq_none (by omega)]; exact Nat.zero_le _)
    have HSX : Hid (∀ x ∈ xs, x.size ≤ maxLen) := Lib.hid HX.out.2.2.2.1
    have HOL := redW_len xs
    rw [HX.out.1] at HOL
    clear hsz
    have HX1 := Lib.hid (HX.out.kept hb1)
    have HM1 := Lib.hid (HM.out.kept hb1)
    obtain ⟨o, ho⟩ : ∃ o, o = redW xs := ⟨_, rfl⟩
    rw [← ho] at HOL
    have HO := Lib.hid ho; clear ho
    go_wp2_with fail
    refine (l_toStringS pa n cap xs _ HX1.out hn).mono ?_; rintro e w2 ⟨p2, m2, c2, rfl, HN2, hnc2, hcm2, hr2, hb2⟩
    obtain rfl : m2 = n := HN2.out.symm.trans HX.out.1
    have HX2 := Lib.hid (HX1.out.kept hb2)
    have HM2 := Lib.hid (HM1.out.kept hb2)
    have hB2 := below_then hb1 hb2
    clear hb1 hb2
    go_wp2_with fail
    refine (s_ReduceWords p2 m2 c2 xs _ _ _ HN2.out hn HS.out HSX.out (Nat.le_refl _) hr2).mono ?_
    rw [← HO.out]
    rintro e w3 ⟨p3, m3, c3, rfl, HN3, hnc3, hcm3, hr3, hb3⟩
    have hn3 : m3 ≤ 1048576 := by have := HN3.out; omega
    have HX3 := Lib.hid (HX2.out.kept hb3)
    have HM3 := Lib.hid (HM2.out.kept hb3)
    have hB3 := below_then hB2 hb3
    have s03 := hB3.size
    clear hB2 hr2 hb3
    go_wp2_with fail
    refine (l_toStringS pa m2 cap xs _ HX3.out hn).mono ?_; rintro e w4 ⟨p4, m4, c4, rfl, HN4, hnc4, hcm4, hr4, hb4⟩
    obtain rfl : m4 = m2 := HN4.out.symm.trans HX.out.1
    have HX4 := Lib.hid (HX3.out.kept hb4)
    have HM4 := Lib.hid (HM3.out.kept hb4)
    have hr34 := hr3.kept hb4
    have s34 := hb4.size
    have hB4 := below_then hB3 hb4
    clear hB3 hb4 hr3
    go_wp2_with fail
    refine (i_ReduceWords p4 m4 c4 xs _ _ _ HN4.out hn HS.out HSX.out (Nat.le_refl _) HM4.out hr4).mono ?_
    rw [← HO.out]
    rintro e w5 ⟨p5, m5, c5, rfl, HN5, hnc5, hcm5, hr5, hb5⟩
    obtain rfl : m5 = m3 := HN5.out.symm.trans HN3.out
    have HX5 := Lib.hid (HX4.out.kept hb5)
    have HM5 := Lib.hid (HM4.out.kept hb5)
    have hr35 := hr34.kept hb5
    have hr45 := hr4.kept hb5
    have s45 := hb5.size
    have hB5 := below_then hB4 hb5
    clear hB4 hb5 hr34 hr4
    go_wp2_with fail
    refine (l_eqStringS p5 p3 m5 c5 c3 o _ _ _ _ _ hn3 hr5 hr35).mono ?_; rintro e w6 ⟨rfl, hb6⟩
    have HX6 := Lib.hid (HX5.out.kept hb6)
    have HM6 := Lib.hid (HM5.out.kept hb6)
    have hr36 := hr35.kept hb6
    have hr46 := hr45.kept hb6
    have hr56 := hr5.kept hb6
    have s56 := hb6.size
    have hB6 := below_then hB5 hb6
    clear hB5 hb6 hr35 hr45 hr5
    go_wp2_with fail
    refine (l_toStringS pa m4 cap xs _ HX6.out hn).mono ?_; rintro e w7 ⟨p7, m7, c7, rfl, HN7, hnc7, hcm7, hr7, hb7⟩
    obtain rfl : m7 = m4 := HN7.out.symm.trans HX.out.1
    have HX7 := Lib.hid (HX6.out.kept hb7)
    have HM7 := Lib.hid (HM6.out.kept hb7)
    have hr37 := hr36.kept hb7
    have hr47 := hr46.kept hb7
    have hr57 := hr56.kept hb7
    have s67 := hb7.size
    have hB7 := below_then hB6 hb7
    clear hB6 hb7 hr36 hr46 hr56
    go_wp2_with fail
    refine (l_eqStringS p4 p7 m7 c4 c7 xs _ _ _ _ _ hn hr47 hr7).mono ?_; rintro e w8 ⟨rfl, hb8⟩
    have HX8 := Lib.hid (HX7.out.kept hb8)
    have HM8 := Lib.hid (HM7.out.kept hb8)
    have hr38 := hr37.kept hb8
    have hr48 := hr47.kept hb8
    have hr58 := hr57.kept hb8
    have s78 := hb8.size
    have hB8 := below_then hB7 hb8
    clear hB7 hb8 hr37 hr47 hr57 hr7
    have s08 := hB8.size
    go_wp2_with fail
    refine (l_markStringS p4 m7 c4 (strF xs) _ _ _ hn hr48).mono ?_; rintro e w9 ⟨rfl, ho9, _⟩
    have hr39 := ho9.row hr38 (.inl (Nat.le_refl _))
    have hr59 := ho9.row hr58 (.inr (Nat.le_refl _))
    have hB9 := hB8.trans (ho9.below w.heap.size s03 s08)
    have HX9 := Lib.hid (HX.out.kept hB9)
    have HM9 := Lib.hid (HM.out.kept hB9)
    clear hB8 ho9 hr38 hr58 hr48
    go_wp2_with fail
    refine (l_eqStringS p5 p3 m5 c5 c3 o _ _ _ _ _ hn3 hr59 hr39).mono ?_; rintro e w10 ⟨rfl, hb10⟩
    have HX10 := Lib.hid (HX9.out.kept hb10)
    have HM10 := Lib.hid (HM9.out.kept hb10)
    have hr310 := hr39.kept hb10
    have hr510 := hr59.kept hb10
    have hB10 := below_then hB9 hb10
    have s010 := hB10.size
    clear hB9 hb10 hr39 hr59
    go_wp2_with fail
    refine (l_markStringS p5 m5 c5 (strF o) _ _ _ hn3 hr510).mono ?_; rintro e w11 ⟨rfl, ho11, hr511⟩
    have hr311 := ho11.row hr310 (.inl s34)
    have hB11 := hB10.trans (ho11.below w.heap.size (by omega) s010)
    have HX11 := Lib.hid (HX.out.kept hB11)
    have HM11 := Lib.hid (HM.out.kept hB11)
    clear hB10 ho11 hr310 hr510
    go_wp2_with fail
    refine (l_heldStringS p5 m5 c5 _ _ _ hn3 hr511).mono ?_; rintro e w12 ⟨rfl, hb12⟩
    have HX12 := Lib.hid (HX11.out.kept hb12)
    have HM12 := Lib.hid (HM11.out.kept hb12)
    have hr312 := hr311.kept hb12
    have hr512 := hr511.kept hb12
    have hB12 := below_then hB11 hb12
    clear hB11 hb12 hr311 hr511
    go_wp2_with fail
    refine (l_toStringS pa m7 cap xs _ HX12.out hn).mono ?_; rintro e w13 ⟨p13, m13, c13, rfl, HN13, hnc13, hcm13, hr13, hb13⟩
    obtain rfl : m13 = m7 := HN13.out.symm.trans HX.out.1
    have HX13 := Lib.hid (HX12.out.kept hb13)
    have HM13 := Lib.hid (HM12.out.kept hb13)
    have hr313 := hr312.kept hb13
    have hr513 := hr512.kept hb13
    have hB13 := below_then hB12 hb13
    clear hB12 hb13 hr312 hr512
    go_wp2_with fail
    refine (i_ReduceWords p13 m13 c13 xs _ _ _ HN13.out hn HS.out HSX.out (Nat.le_refl _) HM13.out hr13).mono ?_
    rw [← HO.out]
    rintro e w14 ⟨p14, m14, c14, rfl, HN14, hnc14, hcm14, hr14, hb14⟩
    obtain rfl : m14 = m5 := HN14.out.symm.trans HN3.out
    have hr314 := hr313.kept hb14
    have hr514 := hr513.kept hb14
    have hB14 := below_then hB13 hb14
    clear hB13 hb14 hr313 hr513 hr13
    go_wp2_with fail
    refine (l_eqStringS p14 p3 m14 c14 c3 o _ _ _ _ _ hn3 hr14 hr314).mono ?_; rintro e w15 ⟨rfl, hb15⟩
    have hr515 := hr514.kept hb15
    have hB15 := below_then hB14 hb15
    clear hB14 hb15 hr314 hr514 hr14
    go_wp2_with fail
    refine (l_heldStringS p5 m14 c5 _ _ _ hn3 hr515).mono ?_; rintro e w16 ⟨rfl, hb16⟩
    go_wp2
    go_ret
    exact ⟨rfl, below_then hB15 hb16⟩
end Go.Proofs.Ytpabgagfkicobaa
