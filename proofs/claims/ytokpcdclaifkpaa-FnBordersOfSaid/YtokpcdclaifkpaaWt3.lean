/- Walk of the law FnBordersOf over drawn texts: borders are periods. -/
import Derived.Test.YtokpcdclaifkpaaWt2
import Derived.Test.YtokpcdclaifkpaaB
namespace Go.Proofs.Ytokpcdclaifkpaa
open Go.RowKit
set_option linter.unusedVariables false

/-- How many numbers below m answer yes. -/
def cnt (f : Nat → Bool) : Nat → Nat
  | 0 => 0
  | m + 1 => cnt f m + if f m then 1 else 0
theorem cnt_congr {f g : Nat → Bool} {m : Nat} (h : ∀ i, i < m → f i = g i) : cnt f m = cnt g m := by
  induction m with
  | zero => rfl
  | succ m ih => rw [cnt, cnt, ih (fun i hi => h i (by omega)), h m (by omega)]
theorem cnt_left (f : Nat → Bool) (m : Nat) : cnt f (m + 1) = (if f 0 then 1 else 0) + cnt (fun i => f (i + 1)) m := by
  induction m with
  | zero => simp [cnt]
  | succ m ih => rw [cnt, ih, cnt]; omega
theorem cnt_rev (m : Nat) : ∀ f : Nat → Bool, cnt f m = cnt (fun i => f (m - 1 - i)) m := by
  induction m with
  | zero => intro f; rfl
  | succ m ih =>
    intro f
    rw [cnt_left, ih, cnt]
    have e : cnt (fun i => f (m + 1 - 1 - i)) m = cnt (fun i => f (m - 1 - i + 1)) m := cnt_congr fun i hi => by congr 1; omega
    rw [e]
    have e2 : m + 1 - 1 - m = 0 := by omega
    simp only [e2]; omega
theorem sel_cnt (P : Nat → Bool) (a m : Nat) : (sel P a m).length = cnt (fun i => P (a + i)) m := by
  induction m with
  | zero => rfl
  | succ m ih =>
    cases hP : P (a + m) with
    | true => rw [sel_yes hP, List.length_append, ih, cnt]; simp [hP]
    | false => rw [sel_no hP, ih, cnt]; simp [hP]
theorem brd_per {s : List UInt8} {k : Nat} (hk : k ≤ s.length) : perB s (s.length - k) = brdB s k := by
  unfold perB brdB
  rw [show s.length - (s.length - k) = k by omega]
  exact decide_eq_decide.2 ⟨Eq.symm, Eq.symm⟩
theorem brd_in {s : List UInt8} {x : Int} (hx : x ∈ bordersL s) : inB (sel (perB s) 1 s.length) (s.length - x) = true := by
  unfold bordersL at hx
  have hm := sel_mem hx
  obtain ⟨i, rfl⟩ : ∃ i : Nat, x = ((1 + i : Nat) : Int) := ⟨(x - 1).toNat, by omega⟩
  obtain ⟨h1, h2⟩ := mem_sel.1 hx
  rw [inB_mem]
  have e : (s.length : Int) - ((1 + i : Nat) : Int) = ((1 + (s.length - 2 - i) : Nat) : Int) := by omega
  rw [e, mem_sel]
  refine ⟨by omega, ?_⟩
  rw [show 1 + (s.length - 2 - i) = s.length - (1 + i) by omega, brd_per (by omega)]; exact h2
theorem brd_count (s : List UInt8) : (sel (perB s) 1 s.length).length = (bordersL s).length + min s.length 1 := by
  unfold bordersL
  by_cases h0 : s.length = 0
  · rw [h0]; rfl
  · obtain ⟨m, hm⟩ : ∃ m, s.length = m + 1 := ⟨s.length - 1, by omega⟩
    rw [hm, sel_yes (by unfold perB; rw [Nat.add_comm 1 m, ← hm, List.drop_length, Nat.sub_self, List.take_zero]; rfl), List.length_append, sel_cnt, sel_cnt, cnt_rev m (fun i => perB s (1 + i))]
    simp only [Nat.add_sub_cancel, List.length_singleton]
    rw [cnt_congr (g := fun i => brdB s (1 + i)) fun i hi => by
      rw [← brd_per (by omega)]; congr 1; omega]
    omega

set_option maxHeartbeats 4000000 in
theorem walk_FnBordersOf (pa : Option Addr) (n cap : Nat) (w : World) (hx : CodeAt w pa n cap) :
    Calls Try.prog 10 #[.slice pa n cap] w fun e w' => e = .returned (.bool true) ∧ Below w.heap.size w w' := by
  have hcap := hx.2.1; have hnc := hx.1
  unfold maxLen at hcap
  have HC := Lib.hid hx; clear hx
  by_cases hn : n ≤ 1048576
  · go_enter Try.func10, Try.ntmps10
    go_wp2_with fail
    refine (d_DrawBordersOf _ _ _ _ HC.out).mono ?_; rintro e w1 ⟨s, rfl, hs, hb1⟩
    go_wp2_with fail
    refine (i_BordersOf s _ (size41 hs)).mono ?_; rintro e w2 ⟨pb, m, cb, rfl, HN, hle, hr2, hb2⟩
    have hB2 := Below.then hb1 hb2; clear hb1 hb2
    go_wp2_with fail
    refine (s_BordersOf s _ (size41 hs)).mono ?_; rintro e w3 ⟨pc, m3, cc, rfl, HN3, _, hr3, hb3⟩
    obtain rfl : m = m3 := HN.out.symm.trans HN3.out
    have hB3 := Below.then hB2 hb3
    have hr2 := hr2.kept hb3
    clear hB2 hb3
    go_wp2_with fail
    refine (l_equalInts pb pc m cb cc _ _ _ _ _ _ HN.out hle hr2 hr3).mono ?_; rintro e w4 ⟨rfl, hb4⟩
    have hB4 := Below.then hB3 hb4
    have hr2 := hr2.kept hb4
    clear hB3 hb4 hr3
    go_wp2_with fail
    refine (i_ValidText s _ (size41 hs)).mono ?_; rintro e w5 ⟨rfl, hb5⟩
    have hB5 := Below.then hB4 hb5
    have hr2 := hr2.kept hb5
    clear hB4 hb5
    cases h1 : vt s.data.toList
    · go_wp2_with fail
      refine (s_BordersOf s _ (size41 hs)).mono ?_; rintro e w6 ⟨pd, m6, cd, rfl, HN6, _, hr6, hb6⟩
      obtain rfl : m = m6 := HN.out.symm.trans HN6.out
      have hB6 := Below.then hB5 hb6
      have hr2 := hr2.kept hb6
      go_wp2_with fail
      refine (l_equalInts pb pd m cb cd _ _ _ _ _ _ HN.out hle hr2 hr6).mono ?_; rintro e w7 ⟨rfl, hb7⟩
      go_wp2
      go_ret
      exact ⟨rfl, Below.then hB6 hb7⟩
    · have hsz := vt_size h1
      have hlb := HN.out
      rw [bordersOf_yes h1] at hr2 hlb
      have HL := Lib.hid hlb; clear hlb
      have HP := Lib.hid (periods_yes h1)
      go_wp2_with fail
      refine (i_PeriodsOf s _ (size41 hs)).mono ?_; rintro e w6 ⟨pp, mp, cp, rfl, HNP, hlep, hrp, hb6⟩
      have hB6 := Below.then hB5 hb6
      have hr2 := hr2.kept hb6
      clear hB5 hb6 h1
      have hlp := HNP.out
      rw [HP.out] at hrp hlp
      have hcnt := brd_count s.data.toList
      rw [hlp, HL.out, list_len] at hcnt
      have HLP := Lib.hid hlp; clear hlp
      have HCN := Lib.hid hcnt; clear hcnt
      go_wp2
      go_loop [6] (fun i => ∃ k : Nat, k ≤ m ∧ i = .int .i64 k) (fun i => m - (intOf i).toNat)
      case atStart => exact ⟨0, by omega, rfl⟩
      case round =>
        obtain ⟨k, hk, rfl⟩ := hrel
        by_cases hlt : k < m
        · have hkl : k < (bordersL s.data.toList).length := by rw [HL.out]; exact hlt
          obtain ⟨g, rfl, _, _, hcell, _⟩ := hr2.getInt hkl
          have hxm : (bordersL s.data.toList)[k]?.getD 0 ∈ bordersL s.data.toList := by rw [List.getElem?_eq_getElem hkl]; exact List.getElem_mem _
          have hin := brd_in hxm
          have hxb := sel_mem hxm
          obtain ⟨x, hx⟩ : ∃ x, x = (bordersL s.data.toList)[k]?.getD 0 := ⟨_, rfl⟩
          rw [← hx] at hcell hin hxb
          rw [list_len] at hin
          obtain ⟨hx0, hx1⟩ := hxb
          rw [list_len] at hx1
          have HI := Lib.hid hin; clear hin hx hxm
          go_wp2_with fail
          refine (l_isInB pp mp cp _ _ _ _ _ HI.out HLP.out hlep hrp).mono ?_; rintro e w7 ⟨rfl, rfl⟩
          go_wp2
          go_round
          case rel => exact ⟨k + 1, by omega, by go_num⟩
          case measure => simp [intOf]; omega
        · go_wp2_with fail
          refine (l_ascends pb m cb _ _ _ _ HL.out hle hr2 (sel_asc _ _ _)).mono ?_; rintro e w8 ⟨rfl, hb8⟩
          by_cases hs1 : 1 < s.size
          · have hmp : mp = m + 1 := by have := HCN.out; omega
            subst hmp
            go_wp2
            go_ret
            exact ⟨ret_bool (beq_iff_eq.2 (by omega)), Below.then hB6 hb8⟩
          · have hmp : mp = m + s.size := by have := HCN.out; omega
            subst hmp
            go_wp2
            go_ret
            exact ⟨ret_bool (beq_iff_eq.2 (by omega)), Below.then hB6 hb8⟩
  · go_enter Try.func10, Try.ntmps10
    go_wp2
    go_ret
    exact ⟨rfl, Below.refl _ _⟩
end Go.Proofs.Ytokpcdclaifkpaa
