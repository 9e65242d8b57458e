/- TextOf: the program's walk and the walk of the law FnExactTextOf. -/
import Derived.Test.YtknocepgfjebpaaDoorQe
import Derived.Test.YtknocepgfjebpaaDoorQb
namespace Go.Proofs.YtknocepgfjebpaaDoor
open Go.RowKit
set_option linter.unusedVariables false
theorem textO_step {ps : List PhP} {k : Nat} {t : List UInt8} {p : PhP} (h : foldT ps k = some t) (hp : ps[k]?.getD phNo = p) (hno : ∀ u, stepT t p = some u → 40 < u.length) (hk : k + 1 ≤ ps.length) : textO ps = none := by
  have hs := foldT_step h
  rw [hp] at hs
  cases e : stepT t p with
  | none => exact textO_bad (hs.trans e) hk
  | some u => exact textO_long (hs.trans e) (hno u e) hk
set_option maxHeartbeats 4000000 in
theorem i_TextOf (pa : Option Addr) (n ca : Nat) (ps : List PhP) (lo hi : Nat) (w : World) (hl : ps.length = n) (hn : n ≤ 1048576) (hsz : ∀ i : Nat, (ps[i]?.getD phNo).2.2.size ≤ 1048576) (hg : ErrAt w) (hr : RowF w lo hi pa (n * 3) (phF ps)) :
    Calls Tryd.prog 7 #[.slice pa n ca] w (RetT ps w) := by
  have HL := Lib.hid hl; have HS := Lib.hid hsz; have HG := Lib.hid hg; clear hl hsz hg
  by_cases h40 : n ≤ 40
  · go_enter Tryd.func7, Tryd.ntmps7
    go_wp2
    go_loopw [4, 14] (fun o i wr => ∃ (k : Nat) (t : ByteArray), k ≤ n ∧ i = .int .i64 k ∧ o = .string t ∧ t.size ≤ 40 ∧ Hid (foldT ps k = some t.data.toList) ∧ Below w.heap.size w wr) (fun _ i _ => n - (intOf i).toNat)
    case atStart => exact ⟨0, ⟨#[]⟩, Nat.zero_le _, rfl, rfl, Nat.zero_le _, Lib.hid rfl, Below.refl _ _⟩
    case round =>
      obtain ⟨k, t, hk, rfl, rfl, ht, HF, hb⟩ := hrel
      have hwr := hb.size
      by_cases hlt : k < n
      · obtain ⟨g, rfl, _, _, c0, c1, c2⟩ := ph_cells (hr.kept hb) hlt
        have hzs := HS.out k
        obtain ⟨x, hx⟩ : ∃ x, x = (ps[k]?.getD phNo).1 := ⟨_, rfl⟩
        obtain ⟨y, hy⟩ : ∃ y, y = (ps[k]?.getD phNo).2.1 := ⟨_, rfl⟩
        obtain ⟨z, hz⟩ : ∃ z, z = (ps[k]?.getD phNo).2.2 := ⟨_, rfl⟩
        have HP := Lib.hid (ph_at hx hy hz)
        rw [← hx] at c0; rw [← hy] at c1; rw [← hz] at c2 hzs
        clear hx hy hz
        have hba : Below w.heap.size w (wr.alloc (.cells #[.int .i64 x, .int .i64 y, .string z] 33)) := hb.alloc hwr _
        have HBA := Lib.hid hba
        clear hba
        have hkn : k + 1 ≤ ps.length := by rw [HL.out]; omega
        have e1 : (k : Int) < n := by omega
        go_wp2_with fail
        (with_reducible refine (i_behind t x y z _ ht hzs).mono ?_)
        rintro e w2 (⟨⟨u, rfl, HU, hu⟩, hb2⟩ | ⟨⟨b, rfl, HN⟩, hb2⟩)
        · have HB2 := Lib.hid (below_then HBA.out hb2)
          have HU2 : Hid (foldT ps (k + 1) = some u.data.toList) := Lib.hid (by rw [foldT_step HF.out, HP.out]; exact HU.out)
          clear hb2
          go_wp2_with fail
          refine (i_fine_nil _).mono ?_; rintro e w3 ⟨rfl, hb3⟩
          have HB3 := Lib.hid (below_then HB2.out hb3)
          clear hb3
          go_wp2
          go_roundw
          case rel => exact ⟨k + 1, u, by omega, by go_num, rfl, hu, HU2, HB3.out⟩
          case measure => simp [intOf]; omega
        · have HB2 := Lib.hid (below_then HBA.out hb2)
          have HG2 := Lib.hid (HG.out.kept HB2.out)
          have HT := Lib.hid (textO_step HF.out HP.out HN.out hkn)
          clear hb2
          go_wp2_with fail
          refine (i_fine_err ⟨b, 0, none⟩ _ HG2.out).mono ?_; rintro e w3 ⟨rfl, hb3⟩
          have HB3 := Lib.hid (below_then HB2.out hb3)
          clear hb3
          go_wp2
          go_ret2
          exact RetT.no HT.out HB3.out
      · obtain rfl : k = n := by omega
        have HN := Lib.hid (textO_good (ps := ps) (t := t.data.toList) (by rw [HL.out]; exact h40) (by rw [HL.out]; exact HF.out) (by rw [list_len]; exact ht))
        go_wp2
        go_ret2
        exact RetT.yes HN.out hb
  · have HN := Lib.hid (textO_big (ps := ps) (by rw [HL.out]; exact h40))
    go_enter Tryd.func7, Tryd.ntmps7
    go_wp2_with fail
    go_ret2
    exact RetT.no HN.out (Below.refl _ _)
set_option maxHeartbeats 1000000 in
theorem walk_FnExactTextOf (pa : Option Addr) (n cap : Nat) (w : World) (hx : PhsAt w pa n cap) (hg : ErrAt w) :
    Calls Tryd.prog 3 #[.slice pa n cap] w fun e w' => e = .returned (.bool true) ∧ Below w.heap.size w w' := by
  obtain ⟨ps, hx⟩ := hx
  have HX := Lib.hid hx; clear hx
  have HG := Lib.hid hg; clear hg
  go_enter Tryd.func3, Tryd.ntmps3
  go_wp2_with fail
  refine (l_szPhraseS pa n cap ps _ HX.out).mono ?_; rintro e w1 ⟨r, rfl, HR, hr0, hr1, hb1⟩
  by_cases hneg : r < 0
  · go_wp2
    go_ret
    exact ⟨rfl, hb1⟩
  · have hsz := HR.out (by omega)
    have hn : n ≤ 1048576 := by rw [← HX.out.1]; exact hsz.1
    have HS : Hid (∀ i : Nat, (ps[i]?.getD phNo).2.2.size ≤ 1048576) := Lib.hid (fun i => by
      by_cases hi : i < ps.length
      · exact hsz.2 i hi
      · rw [List.getElem?_eq_none (by omega)]; exact Nat.zero_le _)
    clear hsz
    have HX1 := Lib.hid (HX.out.kept hb1)
    obtain ⟨u, hu⟩ : ∃ u, u = ofLT ((textO ps).getD []) := ⟨_, rfl⟩
    obtain ⟨y, hy⟩ : ∃ y, y = (textO ps).isSome := ⟨_, rfl⟩
    have HU := Lib.hid hu; have HY := Lib.hid hy
    clear hu hy
    go_wp2_with fail
    refine (l_toPhraseS pa n cap ps _ HX1.out hn).mono ?_; rintro e w2 ⟨p2, m2, c2, rfl, HN2, hm2, hr2, hb2⟩
    obtain rfl : m2 = n := HN2.out.symm.trans HX.out.1
    have HX2 := Lib.hid (HX1.out.kept hb2)
    have hB2 := below_then hb1 hb2
    clear hb1 hb2
    go_wp2_with fail
    refine (s_TextOf p2 m2 c2 ps _ _ _ HN2.out hm2 HS.out hr2).mono ?_; rintro e w3 ⟨rfl, hb3⟩
    rw [← HU.out, ← HY.out]
    have HX3 := Lib.hid (HX2.out.kept hb3)
    have hB3 := below_then hB2 hb3
    clear hB2 hb3 hr2
    go_wp2_with fail
    refine (l_toPhraseS pa m2 cap ps _ HX3.out hn).mono ?_; rintro e w4 ⟨p4, m4, c4, rfl, HN4, hm4, hr4, hb4⟩
    obtain rfl : m4 = m2 := HN4.out.symm.trans HX.out.1
    have HX4 := Lib.hid (HX3.out.kept hb4)
    have hB4 := below_then hB3 hb4
    have HG4 := Lib.hid (HG.out.kept hB4)
    clear hB3 hb4
    go_wp2_with fail
    refine (i_TextOf p4 m4 c4 ps _ _ _ HN4.out hm4 HS.out HG4.out hr4).mono ?_; rintro e w5 ⟨rfl, hb5⟩
    rw [← HU.out, ← HY.out]
    have HX5 := Lib.hid (HX4.out.kept hb5)
    have hr5 := hr4.kept hb5
    have hB5 := below_then hB4 hb5
    clear hB4 hb5 hr4
    go_wp2_with fail
    refine (l_toPhraseS pa m4 cap ps _ HX5.out hn).mono ?_; rintro e w6 ⟨p6, m6, c6, rfl, HN6, hm6, hr6, hb6⟩
    obtain rfl : m6 = m4 := HN6.out.symm.trans HX.out.1
    have hr56 := hr5.kept hb6
    have hB6 := below_then hB5 hb6
    clear hB5 hb6 hr5
    go_wp2_with fail
    refine (l_eqPhraseS p4 p6 m6 c4 c6 ps _ _ _ _ _ hn hr56 hr6).mono ?_; rintro e w7 ⟨rfl, hb7⟩
    go_wp2
    go_ret
    exact ⟨rfl, below_then hB6 hb7⟩
end Go.Proofs.YtknocepgfjebpaaDoor
