/- The walks of PeriodsOf, the reference's and the program's. -/
import Derived.Test.YtokpcdclaifkpaaA
namespace Go.Proofs.Ytokpcdclaifkpaa
open Go.RowKit
set_option linter.unusedVariables false

def perB (s : List UInt8) (p : Nat) : Bool := decide (s.drop p = s.take (s.length - p))
def periods (s : List UInt8) : List Int := if vt s then sel (perB s) 1 s.length else []
theorem periods_yes {s : List UInt8} (h : vt s = true) : periods s = sel (perB s) 1 s.length := by rw [periods, if_pos h]
theorem periods_no {s : List UInt8} (h : vt s = false) : periods s = [] := by rw [periods, if_neg (by rw [h]; decide)]

theorem cut_from (s : ByteArray) (k : Nat) : (s.extract k s.size).data.toList = s.data.toList.drop k := by
  rw [Lib.extract_data, List.take_of_length_le (by rw [List.length_drop, list_len]; omega)]
theorem cut_less (s : ByteArray) (k : Nat) : (s.extract 0 (s.size - k)).data.toList = s.data.toList.take (s.data.toList.length - k) := by
  rw [pre_take, list_len]
theorem perB_yes {s : ByteArray} {k : Nat} (h : ((s.extract k s.size).toList == (s.extract 0 (s.size - k)).toList) = true) : perB s.data.toList k = true := by
  have := str_eq h; rw [cut_from, cut_less] at this; exact decide_eq_true this
theorem perB_no {s : ByteArray} {k : Nat} (h : ((s.extract k s.size).toList == (s.extract 0 (s.size - k)).toList) = false) : perB s.data.toList k = false := by
  have := str_ne h; rw [cut_from, cut_less] at this; exact decide_eq_false this
theorem vt_size {s : ByteArray} (h : vt s.data.toList = true) : s.size ≤ 40 := by
  unfold vt at h; rw [Bool.and_eq_true, decide_eq_true_eq, list_len] at h; exact h.2
theorem sel_next {P : Nat → Bool} {k : Nat} (h0 : 1 ≤ k) (h : P k = true) : sel P 1 k = sel P 1 (k - 1) ++ [(k : Int)] := by
  obtain ⟨m, rfl⟩ : ∃ m, k = m + 1 := ⟨k - 1, by omega⟩
  rw [sel_yes (by rw [Nat.add_comm]; exact h), Nat.add_comm 1 m]; rfl
theorem sel_same {P : Nat → Bool} {k : Nat} (h0 : 1 ≤ k) (h : P k = false) : sel P 1 k = sel P 1 (k - 1) := by
  obtain ⟨m, rfl⟩ : ∃ m, k = m + 1 := ⟨k - 1, by omega⟩
  rw [sel_no (by rw [Nat.add_comm]; exact h)]; rfl

/-- What one round does to the row of numbers chosen so far. -/
theorem sel_app {P : Nat → Bool} {k lo : Nat} {w' : World} {v' : Value} (h0 : 1 ≤ k) (h : P k = true) (ho : w'.ownsRow lo 3 1 v' ((sel P 1 (k - 1)).length + 1) (ints (sel P 1 (k - 1) ++ [(k : Int)]))) :
    w'.ownsRow lo 3 1 v' (sel P 1 (k + 1 - 1)).length (ints (sel P 1 (k + 1 - 1))) := by
  rw [show k + 1 - 1 = k from rfl, sel_next h0 h]; simpa using ho
theorem sel_keep {P : Nat → Bool} {k lo : Nat} {w' : World} {v' : Value} (h0 : 1 ≤ k) (h : P k = false) (ho : w'.ownsRow lo 3 1 v' (sel P 1 (k - 1)).length (ints (sel P 1 (k - 1)))) :
    w'.ownsRow lo 3 1 v' (sel P 1 (k + 1 - 1)).length (ints (sel P 1 (k + 1 - 1))) := by
  rw [show k + 1 - 1 = k from rfl, sel_same h0 h]; exact ho

theorem ret_nil (w w' : World) (hb : Below w.heap.size w w') : RetInts [] w (.returned (.slice none 0 0)) w' :=
  ⟨none, 0, 0, rfl, Lib.hid rfl, by omega, Row.nil _ _ _ _, hb⟩

set_option maxHeartbeats 1000000 in
theorem i_PeriodsOf (s : ByteArray) (w : World) (hs : s.size ≤ maxLen) : Calls Try.prog 30 #[.string s] w (RetInts (periods s.data.toList) w) := by
  cases h1 : vt s.data.toList
  · rw [periods_no h1]
    go_enter Try.func30, Try.ntmps30
    go_wp2_with fail
    refine (i_ValidText _ _ hs).mono ?_; rintro e w1 ⟨rfl, hb1⟩
    go_wp2
    go_ret
    exact ret_nil _ _ hb1
  · have hsz := vt_size h1
    rw [periods_yes h1]
    go_enter Try.func30, Try.ntmps30
    go_wp2_with fail
    refine (i_ValidText _ _ hs).mono ?_; rintro e w1 ⟨rfl, hb1⟩
    have s1 := hb1.size
    go_wp2
    have HV := Lib.hid h1; clear h1
    go_loopw [3, 4] (fun v p wr => ∃ k : Nat, 1 ≤ k ∧ k ≤ s.size + 1 ∧ p = .int .i64 k ∧ wr.ownsRow w1.heap.size 3 1 v (sel (perB s.data.toList) 1 (k - 1)).length (ints (sel (perB s.data.toList) 1 (k - 1))) ∧ Below w1.heap.size w1 wr) (fun _ p _ => s.size + 1 - (intOf p).toNat)
    case atStart => exact ⟨1, by omega, by omega, rfl, owns_made w1, (Below.refl _ _).alloc (Nat.le_refl _) _⟩
    case round =>
      obtain ⟨k, hk0, hk, rfl, hown, hb⟩ := hrel
      have hwr := hb.size
      have hle := sel_le (perB s.data.toList) 1 (k - 1)
      by_cases hlt : k ≤ s.size
      · go_wp2
        go_quiet (fail)
        go_wp2_with (at_builtin; refine wpList_append_int rfl _ _ rfl w1.heap.size _ _ _ (k : Int) (((Still.refl wr).drewN nq).owns hown) rfl rfl (by omega) (by exact hwr) ?_; intro v' w2 hown2 hgrow2 hb2)
        · have hy := perB_yes ‹_›
          go_roundw
          case rel => exact ⟨k + 1, by omega, by omega, by go_num, sel_app hk0 hy hown2, (below_drewN hb nq).trans hb2⟩
          case measure => simp [intOf]; omega
        · have hy := perB_no ‹_›
          go_roundw
          case rel => exact ⟨k + 1, by omega, by omega, by go_num, sel_keep hk0 hy (((Still.refl wr).drewN nq).owns hown), below_drewN hb nq⟩
          case measure => simp [intOf]; omega
      · obtain rfl : k = s.size + 1 := by omega
        obtain ⟨pa, ca, rfl, h1, h2, _, _⟩ := Row.of_owns hown
        go_wp2_with fail
        refine (l_ClipInt _ _ _ _ h1 h2).mono ?_; rintro e w' ⟨rfl, rfl⟩
        go_wp2
        go_ret
        rw [list_len]
        exact RetInts.clip hown s1 (Nat.le_trans (sel_le (perB s.data.toList) 1 s.size) (by omega)) (hb1.trans (hb.mono s1))

/-- The reference's test of a period, letter by letter. -/
def perAt (s : ByteArray) (p i : Nat) : Bool := s.data.toList[i]?.getD 0 == s.data.toList[i + p]?.getD 0
theorem perAt_eq (s : ByteArray) (p n : Nat) (hn : n = s.size - p) (hp : p ≤ s.size) : allTo (perAt s p) n = perB s.data.toList p := by
  subst hn
  rw [Bool.eq_iff_iff, allTo_iff]
  unfold perB
  rw [decide_eq_true_eq, list_len]
  constructor
  · intro h
    apply List.ext_getElem
    · simp
    · intro i h1 h2
      have hi : i < s.size - p := by simpa [list_len] using h1
      have e := h i hi
      unfold perAt at e
      have e := LawfulBEq.eq_of_beq e
      rw [List.getElem?_eq_getElem (by rw [list_len]; omega), List.getElem?_eq_getElem (by rw [list_len]; omega)] at e
      simp only [Option.getD_some] at e
      simp only [List.getElem_drop, List.getElem_take, Nat.add_comm p i]
      exact e.symm
  · intro h i hi
    have h1 : i < (s.data.toList.drop p).length := by rw [List.length_drop, list_len]; exact hi
    have e : (s.data.toList.drop p)[i]? = (s.data.toList.take (s.size - p))[i]? := by rw [h]
    rw [List.getElem?_drop, List.getElem?_take_of_lt hi] at e
    unfold perAt
    rw [Nat.add_comm i p, e]; exact beq_self_eq_true _
theorem byte_get (s : ByteArray) (i : Nat) (h : i < s.size) : s.data.toList[i]?.getD 0 = s[i] := by
  rw [List.getElem?_eq_getElem (by rw [list_len]; exact h)]; rfl

theorem perAt_at (s : ByteArray) (k m : Nat) (h1 : m < s.size) (h2 : m + k < s.size) : perAt s k m = ((s[m].toNat : Int) == s[m + k].toNat) := by
  unfold perAt; rw [byte_get s m h1, byte_get s _ h2]
  rw [Bool.eq_iff_iff, beq_iff_eq, beq_iff_eq]
  constructor
  · intro h; rw [h]
  · intro h; exact UInt8.toNat_inj.1 (by omega)

set_option maxHeartbeats 1000000 in
theorem s_PeriodsOf (s : ByteArray) (w : World) (hs : s.size ≤ maxLen) : Calls Try.prog 32 #[.string s] w (RetInts (periods s.data.toList) w) := by
  cases h1 : vt s.data.toList
  · rw [periods_no h1]
    go_enter Try.func32, Try.ntmps32
    go_wp2_with fail
    refine (s_validText _ _ hs).mono ?_; rintro e w1 ⟨rfl, rfl⟩
    go_wp2
    go_ret
    exact ret_nil _ _ (Below.refl _ _)
  · have hsz := vt_size h1
    rw [periods_yes h1]
    go_enter Try.func32, Try.ntmps32
    go_wp2_with fail
    refine (s_validText _ _ hs).mono ?_; rintro e w1 ⟨rfl, rfl⟩
    go_wp2
    have HV := Lib.hid h1; clear h1
    go_loopw [3, 4, 5, 6] (fun v p _ _ wr => ∃ k : Nat, 1 ≤ k ∧ k ≤ s.size + 1 ∧ p = .int .i64 k ∧ wr.ownsRow w.heap.size 3 1 v (sel (perB s.data.toList) 1 (k - 1)).length (ints (sel (perB s.data.toList) 1 (k - 1))) ∧ Below w.heap.size w wr) (fun _ p _ _ _ => s.size + 1 - (intOf p).toNat)
    case atStart => exact ⟨1, by omega, by omega, rfl, owns_made w, (Below.refl _ _).alloc (Nat.le_refl _) _⟩
    case round =>
      obtain ⟨k, hk0, hk, rfl, hown, hb⟩ := hrel
      have hwr := hb.size
      have hle := sel_le (perB s.data.toList) 1 (k - 1)
      obtain ⟨wo, rfl⟩ : ∃ wo : World, wo = wr := ⟨_, rfl⟩
      by_cases hlt : k ≤ s.size
      · go_wp2
        go_loopw [5, 6] (fun ok i wr => ∃ (m : Nat) (b : Bool), m ≤ s.size - k ∧ i = .int .i64 m ∧ ok = .bool b ∧ allTo (perAt s k) m = b ∧ Still wo wr) (fun _ i _ => s.size - (intOf i).toNat)
        case atStart => exact ⟨0, true, by omega, rfl, rfl, rfl, Still.refl _⟩
        case round =>
          obtain ⟨m, b, hm, rfl, rfl, hall, hst⟩ := hrel
          have HB := Lib.hid hall; clear hall
          by_cases hml : m < s.size - k
          · cases b
            · go_wp2
              go_quiet (fail)
              go_wp2
              go_roundw
              case rel => exact ⟨m + 1, false, by omega, by go_num, rfl, by rw [allTo, HB.out]; rfl, hst.drewN _⟩
              case measure => simp [intOf]; omega
            · go_wp2
              have e1 : IntKind.i64.wrap ((m : Int) + k) = m + k := IntWalk.i64_in _ (by omega)
              have e2 : ((m : Int) + k) < s.size := by omega
              have e3 : ((m : Int) + k).toNat = m + k := by omega
              have e4 : (0 : Int) ≤ (m : Int) + k := by omega
              have e5 : m + k < s.size := by omega
              have e6 : m < s.size := by omega
              have e7 : (m : Int) < s.size := by omega
              go_quiet (fail)
              clear e1
              go_wp2
              go_roundw
              case rel => exact ⟨m + 1, _, by omega, by go_num, rfl, by rw [allTo, HB.out, Bool.true_and, perAt_at s k m e6 e5], hst.drewN _⟩
              case measure => simp [intOf]; omega
          · obtain rfl : m = s.size - k := by omega
            have ep := (perAt_eq s k (s.size - k) rfl hlt).symm.trans HB.out
            have EP := Lib.hid ep; clear ep
            have hown2 := hst.owns hown
            have hb2 := hb.trans (hst.below w.heap.size)
            have hwr2 := hb2.size
            cases b
            · go_wp2
              go_roundw
              case rel => exact ⟨k + 1, by omega, by omega, by go_num, sel_keep hk0 EP.out hown2, hb2⟩
              case measure => simp [intOf]; omega
            · go_wp2_with (at_builtin; refine wpList_append_int rfl _ _ rfl w.heap.size _ _ _ (k : Int) hown2 rfl rfl (by omega) (by exact hwr2) ?_; intro v' w2 hown3 hgrow3 hb3)
              go_roundw
              case rel => exact ⟨k + 1, by omega, by omega, by go_num, sel_app hk0 EP.out hown3, hb2.trans hb3⟩
              case measure => simp [intOf]; omega
      · obtain rfl : k = s.size + 1 := by omega
        go_wp2
        go_ret
        rw [list_len]
        exact RetInts.of_owns hown (Nat.le_refl _) (Nat.le_trans (sel_le (perB s.data.toList) 1 s.size) (by omega)) hb
end Go.Proofs.Ytokpcdclaifkpaa
