/- The walks of CoversOf, the reference's and the program's. -/
import Derived.Test.YtokpcdclaifkpaaC
namespace Go.Proofs.Ytokpcdclaifkpaa
open Go.RowKit
set_option linter.unusedVariables false

def cvB (s : List UInt8) (k : Nat) : Bool := coverB s (s.take k)
def coversL (s : List UInt8) : List Int := sel (cvB s) 1 s.length
def coversOf (s : List UInt8) : List Int := if vt s then coversL s else []
theorem coversOf_yes {s : List UInt8} (h : vt s = true) : coversOf s = coversL s := by rw [coversOf, if_pos h]
theorem coversOf_no {s : List UInt8} (h : vt s = false) : coversOf s = [] := by rw [coversOf, if_neg (by rw [h]; decide)]
theorem s_coversAt (s : ByteArray) (k : Nat) (w : World) (hs : s.size ≤ 40) (hk0 : 1 ≤ k) (hk : k ≤ s.size) :
    Calls Try.prog 60 #[.string s, .string (s.extract 0 k)] w fun e w' => e = .returned (.bool (cvB s.data.toList k)) ∧ w = w' := by
  have e : (s.extract 0 k).size = k := by rw [ByteArray.size_extract]; omega
  have := s_covers s (s.extract 0 k) w hs (by omega) (by omega)
  rw [pre_take] at this; exact this
theorem i_coversAt (s : ByteArray) (k : Nat) (w : World) (hs : vt s.data.toList = true) (hk : k ≤ s.size) :
    Calls Try.prog 59 #[.string s, .string (s.extract 0 k)] w fun e w' => e = .returned (.bool (cvB s.data.toList k)) ∧ Below w.heap.size w w' := by
  have hsz := vt_size hs
  have := i_covers s (s.extract 0 k) w hs (by rw [ByteArray.size_extract]; omega)
  rw [pre_take] at this; exact this
theorem owns_below {w w' : World} {lo : Nat} {e : TypeId} {v : Value} {n : Nat} {xs : List Value} (h : w.ownsRow lo e 1 v n xs) (hb : Below w.heap.size w w') : w'.ownsRow lo e 1 v n xs := by
  refine ⟨h.1, ?_⟩
  rcases h.2 with hn | ⟨g, cap, cur, hv, hg, hh, r⟩
  · exact .inl hn
  · exact .inr ⟨g, cap, cur, hv, hg, (hb.block g (Array.getElem?_eq_some_iff.1 hh).1).trans hh, r⟩

set_option maxHeartbeats 1000000 in
theorem s_CoversOf (s : ByteArray) (w : World) (hs : s.size ≤ maxLen) : Calls Try.prog 46 #[.string s] w (RetInts (coversOf s.data.toList) w) := by
  cases h1 : vt s.data.toList
  · rw [coversOf_no h1]
    go_enter Try.func46, Try.ntmps46
    go_wp2_with fail
    refine (s_validText _ _ hs).mono ?_; rintro e w1 ⟨rfl, rfl⟩
    go_wp2
    go_ret
    exact ret_nil _ _ (Below.refl _ _)
  · have hsz := vt_size h1
    rw [coversOf_yes h1]
    go_enter Try.func46, Try.ntmps46
    go_wp2_with fail
    refine (s_validText _ _ hs).mono ?_; rintro e w1 ⟨rfl, rfl⟩
    go_wp2
    have HV := Lib.hid h1; clear h1
    go_loopw [3, 4] (fun v p wr => ∃ k : Nat, 1 ≤ k ∧ k ≤ s.size + 1 ∧ p = .int .i64 k ∧ wr.ownsRow w.heap.size 3 1 v (sel (cvB s.data.toList) 1 (k - 1)).length (ints (sel (cvB s.data.toList) 1 (k - 1))) ∧ Below w.heap.size w wr) (fun _ p _ => s.size + 1 - (intOf p).toNat)
    case atStart => exact ⟨1, by omega, by omega, rfl, owns_made w, (Below.refl _ _).alloc (Nat.le_refl _) _⟩
    case round =>
      obtain ⟨k, hk0, hk, rfl, hown, hb⟩ := hrel
      have hwr := hb.size
      have hle := sel_le (cvB s.data.toList) 1 (k - 1)
      by_cases hlt : k ≤ s.size
      · go_wp2_with fail
        refine (s_coversAt s k _ hsz hk0 hlt).mono ?_; rintro e w1 ⟨rfl, rfl⟩
        cases hP : cvB s.data.toList k
        · go_wp2
          go_roundw
          case rel => exact ⟨k + 1, by omega, by omega, by go_num, sel_keep hk0 hP hown, hb⟩
          case measure => simp [intOf]; omega
        · go_wp2_with (at_builtin; refine wpList_append_int rfl _ _ rfl w.heap.size _ _ _ (k : Int) hown rfl rfl (by omega) (by exact hwr) ?_; intro v' w2 hown3 hgrow3 hb3)
          go_roundw
          case rel => exact ⟨k + 1, by omega, by omega, by go_num, sel_app hk0 hP hown3, hb.trans hb3⟩
          case measure => simp [intOf]; omega
      · obtain rfl : k = s.size + 1 := by omega
        go_wp2
        go_ret
        unfold coversL
        rw [list_len]
        exact RetInts.of_owns hown (Nat.le_refl _) (Nat.le_trans (sel_le (cvB s.data.toList) 1 s.size) (by omega)) hb

set_option maxHeartbeats 1000000 in
theorem i_CoversOf (s : ByteArray) (w : World) (hs : s.size ≤ maxLen) : Calls Try.prog 45 #[.string s] w (RetInts (coversOf s.data.toList) w) := by
  cases h1 : vt s.data.toList
  · rw [coversOf_no h1]
    go_enter Try.func45, Try.ntmps45
    go_wp2_with fail
    refine (i_ValidText _ _ hs).mono ?_; rintro e w1 ⟨rfl, hb1⟩
    go_wp2
    go_ret
    exact ret_nil _ _ hb1
  · have hsz := vt_size h1
    rw [coversOf_yes h1]
    go_enter Try.func45, Try.ntmps45
    go_wp2_with fail
    refine (i_ValidText _ _ hs).mono ?_; rintro e w1 ⟨rfl, hb1⟩
    have s1 := hb1.size
    go_wp2
    have HV := Lib.hid h1; clear h1
    go_loopw [3, 4] (fun v p wr => ∃ k : Nat, 1 ≤ k ∧ k ≤ s.size + 1 ∧ p = .int .i64 k ∧ wr.ownsRow w1.heap.size 3 1 v (sel (cvB s.data.toList) 1 (k - 1)).length (ints (sel (cvB s.data.toList) 1 (k - 1))) ∧ Below w1.heap.size w1 wr) (fun _ p _ => s.size + 1 - (intOf p).toNat)
    case atStart => exact ⟨1, by omega, by omega, rfl, owns_made w1, (Below.refl _ _).alloc (Nat.le_refl _) _⟩
    case round =>
      obtain ⟨k, hk0, hk, rfl, hown, hb⟩ := hrel
      have hle := sel_le (cvB s.data.toList) 1 (k - 1)
      by_cases hlt : k ≤ s.size
      · go_wp2_with fail
        refine (i_coversAt s k _ HV.out hlt).mono ?_; rintro e w2 ⟨rfl, hb2⟩
        have hown2 := owns_below hown hb2
        have hb12 := hb.trans (hb2.mono hb.size)
        have hwr := hb12.size
        cases hP : cvB s.data.toList k
        · go_wp2
          go_roundw
          case rel => exact ⟨k + 1, by omega, by omega, by go_num, sel_keep hk0 hP hown2, hb12⟩
          case measure => simp [intOf]; omega
        · go_wp2_with (at_builtin; refine wpList_append_int rfl _ _ rfl w1.heap.size _ _ _ (k : Int) hown2 rfl rfl (by omega) (by exact hwr) ?_; intro v' w2 hown3 hgrow3 hb3)
          go_roundw
          case rel => exact ⟨k + 1, by omega, by omega, by go_num, sel_app hk0 hP hown3, hb12.trans hb3⟩
          case measure => simp [intOf]; omega
      · obtain rfl : k = s.size + 1 := by omega
        obtain ⟨pa, ca, rfl, h1, h2, _, _⟩ := Row.of_owns hown
        go_wp2_with fail
        refine (l_ClipInt _ _ _ _ h1 h2).mono ?_; rintro e w' ⟨rfl, rfl⟩
        go_wp2
        go_ret
        unfold coversL
        rw [list_len]
        exact RetInts.clip hown s1 (Nat.le_trans (sel_le (cvB s.data.toList) 1 s.size) (by omega)) (hb1.trans (hb.mono s1))
end Go.Proofs.Ytokpcdclaifkpaa
