/- The walks of BordersOf, the reference's and the program's. -/
import Derived.Test.YtokpcdclaifkpaaPl
namespace Go.Proofs.Ytokpcdclaifkpaa
open Go.RowKit
set_option linter.unusedVariables false

def brdB (s : List UInt8) (k : Nat) : Bool := decide (s.take k = s.drop (s.length - k))
def bordersL (s : List UInt8) : List Int := sel (brdB s) 1 (s.length - 1)
def bordersOf (s : List UInt8) : List Int := if vt s then bordersL s else []
theorem bordersOf_yes {s : List UInt8} (h : vt s = true) : bordersOf s = bordersL s := by rw [bordersOf, if_pos h]
theorem bordersOf_no {s : List UInt8} (h : vt s = false) : bordersOf s = [] := by rw [bordersOf, if_neg (by rw [h]; decide)]
theorem brdB_yes {s : ByteArray} {k : Nat} (h : ((s.extract 0 k).toList == (s.extract (s.size - k) s.size).toList) = true) : brdB s.data.toList k = true := by
  have := str_eq h; rw [pre_take, suf_take] at this; exact decide_eq_true this
theorem brdB_no {s : ByteArray} {k : Nat} (h : ((s.extract 0 k).toList == (s.extract (s.size - k) s.size).toList) = false) : brdB s.data.toList k = false := by
  have := str_ne h; rw [pre_take, suf_take] at this; exact decide_eq_false this

set_option maxHeartbeats 1000000 in
theorem s_borders (s : ByteArray) (w : World) (hsz : s.size ≤ 40) : Calls Try.prog 67 #[.string s] w (RetInts (bordersL s.data.toList) w) := by
  go_enter Try.func67, Try.ntmps67
  go_wp2
  go_loopw [3, 4] (fun v p wr => ∃ k : Nat, 1 ≤ k ∧ k ≤ max s.size 1 ∧ p = .int .i64 k ∧ wr.ownsRow w.heap.size 3 1 v (sel (brdB s.data.toList) 1 (k - 1)).length (ints (sel (brdB s.data.toList) 1 (k - 1))) ∧ Below w.heap.size w wr) (fun _ p _ => s.size + 1 - (intOf p).toNat)
  case atStart => exact ⟨1, by omega, by omega, rfl, owns_made w, (Below.refl _ _).alloc (Nat.le_refl _) _⟩
  case round =>
    obtain ⟨k, hk0, hk, rfl, hown, hb⟩ := hrel
    have hwr := hb.size
    have hle := sel_le (brdB s.data.toList) 1 (k - 1)
    by_cases hlt : k < s.size
    · go_wp2
      go_quiet (fail)
      go_wp2_with (at_builtin; refine wpList_append_int rfl _ _ rfl w.heap.size _ _ _ (k : Int) (((Still.refl wr).drewN nq).owns hown) rfl rfl (by omega) (by exact hwr) ?_; intro v' w2 hown2 hgrow2 hb2)
      · have hy := brdB_yes ‹_›
        go_roundw
        case rel => exact ⟨k + 1, by omega, by omega, by go_num, sel_app hk0 hy hown2, (below_drewN hb nq).trans hb2⟩
        case measure => simp [intOf]; omega
      · have hy := brdB_no ‹_›
        go_roundw
        case rel => exact ⟨k + 1, by omega, by omega, by go_num, sel_keep hk0 hy (((Still.refl wr).drewN nq).owns hown), below_drewN hb nq⟩
        case measure => simp [intOf]; omega
    · go_wp2
      go_ret
      unfold bordersL
      rw [list_len, show s.size - 1 = k - 1 by omega]
      exact RetInts.of_owns hown (Nat.le_refl _) (by omega) hb

set_option maxHeartbeats 1000000 in
theorem s_BordersOf (s : ByteArray) (w : World) (hs : s.size ≤ maxLen) : Calls Try.prog 43 #[.string s] w (RetInts (bordersOf s.data.toList) w) := by
  cases h1 : vt s.data.toList
  · rw [bordersOf_no h1]
    go_enter Try.func43, Try.ntmps43
    go_wp2_with fail
    refine (s_validText _ _ hs).mono ?_; rintro e w1 ⟨rfl, rfl⟩
    go_wp2
    go_ret
    exact ret_nil _ _ (Below.refl _ _)
  · rw [bordersOf_yes h1]
    have hsz := vt_size h1
    go_enter Try.func43, Try.ntmps43
    go_wp2_with fail
    refine (s_validText _ _ hs).mono ?_; rintro e w1 ⟨rfl, rfl⟩
    go_wp2_with fail
    refine (s_borders _ _ hsz).mono ?_; rintro e w2 ⟨pa, n, ca, rfl, HN, hle, hr, hb⟩
    go_wp2
    go_ret
    exact ⟨pa, n, ca, rfl, HN, hle, hr, hb⟩

theorem brdB_suf {s : ByteArray} {k : Nat} (hk : k ≤ s.size) : Lib.hasSuffix s.data.toList (s.data.toList.take k) = brdB s.data.toList k := by
  rw [← pre_take, ← Lib.hasSuffix_raw]
  have e : (s.extract 0 k).size = k := by rw [ByteArray.size_extract]; omega
  rw [e, decide_eq_true hk, Bool.true_and]
  cases h : ((s.extract (s.size - k) s.size).toList == (s.extract 0 k).toList) with
  | false => exact (brdB_no (by rw [← h]; exact Bool.eq_iff_iff.2 ⟨fun x => beq_iff_eq.2 (beq_iff_eq.1 x).symm, fun x => beq_iff_eq.2 (beq_iff_eq.1 x).symm⟩)).symm
  | true => exact (brdB_yes (beq_iff_eq.2 (beq_iff_eq.1 h).symm)).symm
theorem wmade (w : World) (t : TypeId) (s : ByteArray) : ((w.alloc (.cells #[.string s] t)).alloc (.cells #[] 3)).cell? ⟨w.heap.size, 0, none⟩ = some (.string s) := by
  rw [World.cell?_alloc_past _ _ _ (by simp)]
  exact cell_one_new w (.string s) t 0 (.string s) rfl

set_option maxHeartbeats 1000000 in
theorem i_borders (s : ByteArray) (w : World) (hsz : s.size ≤ 40) : Calls Try.prog 63 #[.agg #[.string s]] w (RetInts (bordersL s.data.toList) w) := by
  go_enter Try.func63, Try.ntmps63
  go_wp2
  go_loopw [3, 4] (fun v p wr => ∃ k : Nat, 1 ≤ k ∧ k ≤ max s.size 1 ∧ p = .int .i64 k ∧ wr.ownsRow (w.heap.size + 1) 3 1 v (sel (brdB s.data.toList) 1 (k - 1)).length (ints (sel (brdB s.data.toList) 1 (k - 1))) ∧ Below w.heap.size w wr ∧ wr.cell? ⟨w.heap.size, 0, none⟩ = some (.string s)) (fun _ p _ => s.size + 1 - (intOf p).toNat)
  case atStart =>
    refine ⟨1, by omega, by omega, rfl, ?_, ((Below.refl _ _).alloc (Nat.le_refl _) _).alloc (by simp) _, wmade _ _ _⟩
    have := owns_made (w.alloc (.cells #[.string s] 45))
    rw [World.size_alloc] at this; exact this
  case round =>
    obtain ⟨k, hk0, hk, rfl, hown, hb, hc⟩ := hrel
    have hwr := hb.size
    have hwr' : w.heap.size + 1 ≤ wr.heap.size := by have := cell_lt hc; omega
    have hle := sel_le (brdB s.data.toList) 1 (k - 1)
    by_cases hlt : k < s.size
    · have e1 : (k : Int) ≤ s.size := by omega
      have e2 : (0 : Int) ≤ k := by omega
      have e3 : k ≤ s.size := by omega
      go_wp2
      go_quiet ((go_at_call 75; exact Calls.quiet_of_same ((l_HasSuffix s (s.extract 0 k) _ (by unfold maxLen; omega) (by rw [ByteArray.size_extract]; unfold maxLen; omega)).mono fun _ _ ⟨h1, h2⟩ => ⟨h1, h2.symm⟩)))
      go_wp2_with (at_builtin; refine wpList_append_int rfl _ _ rfl (w.heap.size + 1) _ _ _ (k : Int) (((Still.refl wr).drewN nq).owns hown) rfl rfl (by omega) (by exact hwr') ?_; intro v' w2 hown2 hgrow2 hb2)
      · have hy : brdB s.data.toList k = true := by rw [← brdB_suf e3, ← pre_take]; assumption
        go_roundw
        case rel => exact ⟨k + 1, by omega, by omega, by go_num, sel_app hk0 hy hown2, (below_drewN hb nq).trans (hb2.mono (by omega)), (hb2.cell (p := ⟨w.heap.size, 0, none⟩) (by show w.heap.size < w.heap.size + 1; omega)).trans hc⟩
        case measure => simp [intOf]; omega
      · have hy : brdB s.data.toList k = false := by rw [← brdB_suf e3, ← pre_take]; assumption
        go_roundw
        case rel => exact ⟨k + 1, by omega, by omega, by go_num, sel_keep hk0 hy (((Still.refl wr).drewN nq).owns hown), below_drewN hb nq, hc⟩
        case measure => simp [intOf]; omega
    · obtain ⟨pa, ca, rfl, h1, h2, _, _⟩ := Row.of_owns hown
      go_wp2_with fail
      refine (l_ClipInt _ _ _ _ h1 h2).mono ?_; rintro e w' ⟨rfl, rfl⟩
      go_wp2
      go_ret
      unfold bordersL
      rw [list_len, show s.size - 1 = k - 1 by omega]
      exact RetInts.clip hown (by omega) (by omega) hb

set_option maxHeartbeats 1000000 in
theorem i_BordersOf (s : ByteArray) (w : World) (hs : s.size ≤ maxLen) : Calls Try.prog 28 #[.string s] w (RetInts (bordersOf s.data.toList) w) := by
  cases h1 : vt s.data.toList
  · rw [bordersOf_no h1]
    go_enter Try.func28, Try.ntmps28
    go_wp2_with fail
    refine (i_ValidText _ _ hs).mono ?_; rintro e w1 ⟨rfl, hb1⟩
    go_wp2
    go_ret
    exact ret_nil _ _ hb1
  · rw [bordersOf_yes h1]
    have hsz := vt_size h1
    go_enter Try.func28, Try.ntmps28
    go_wp2_with fail
    refine (i_ValidText _ _ hs).mono ?_; rintro e w1 ⟨rfl, hb1⟩
    go_wp2_with fail
    refine (i_borders _ _ hsz).mono ?_; rintro e w2 ⟨pa, n, ca, rfl, HN, hle, hr, hb⟩
    go_wp2
    go_ret
    exact ⟨pa, n, ca, rfl, HN, hle, hr.mono hb1.size (Nat.le_refl _), hb1.trans (hb.mono hb1.size)⟩
end Go.Proofs.Ytokpcdclaifkpaa
