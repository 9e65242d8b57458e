/- The walks of longest and FewestPhrases, the reference's and the program's. -/
import Derived.Test.YtkgdifngijeenaaFp
import Derived.Test.YtkgdifngijeenaaZ
namespace Go.Proofs.Ytkgdifngijeenaa
open Go.RowKit
set_option linter.unusedVariables false

theorem lcp_yes {s : ByteArray} {i j : Nat} (hi : i < s.size) (hj : j < s.size) (h : s[i] = s[j]) : lcp (s.data.toList.drop i) (s.data.toList.drop j) = lcp (s.data.toList.drop (i + 1)) (s.data.toList.drop (j + 1)) + 1 := by
  rw [drop_cons s i hi, drop_cons s j hj, lcp, if_pos h]
theorem lcp_no {s : ByteArray} {i j : Nat} (hi : i < s.size) (hj : j < s.size) (h : s[i] ≠ s[j]) : lcp (s.data.toList.drop i) (s.data.toList.drop j) = 0 := by
  rw [drop_cons s i hi, drop_cons s j hj, lcp, if_neg h]
theorem lcp_end {s : ByteArray} {i j : Nat} (hj : s.size ≤ j) : lcp (s.data.toList.drop i) (s.data.toList.drop j) = 0 := by
  rw [List.drop_of_length_le (l := s.data.toList) (i := j) (by rw [list_len]; exact hj), lcp_nil]
theorem lcp_step {s : ByteArray} {k p c : Nat} (hi : k + c < s.size) (hj : p + c < s.size) (h : s[k + c] = s[p + c]) (hc : lcp (s.data.toList.drop (k + c)) (s.data.toList.drop (p + c)) + c = lcp (s.data.toList.drop k) (s.data.toList.drop p)) :
    lcp (s.data.toList.drop (k + (c + 1))) (s.data.toList.drop (p + (c + 1))) + (c + 1) = lcp (s.data.toList.drop k) (s.data.toList.drop p) := by
  rw [lcp_yes hi hj h] at hc; rw [show k + (c + 1) = k + c + 1 by omega, show p + (c + 1) = p + c + 1 by omega]; omega
/-- One round over the places ahead. -/
theorem best_more {s : List UInt8} {p k c : Nat} (hc : lcp (s.drop k) (s.drop p) = c) (h : (bestTo s p k).2 < c) : bestTo s p (k + 1) = ((k : Int), c) := by
  rw [bestTo, hc, if_pos h]
theorem best_same {s : List UInt8} {p k c : Nat} (hc : lcp (s.drop k) (s.drop p) = c) (h : ¬ (bestTo s p k).2 < c) : bestTo s p (k + 1) = bestTo s p k := by
  rw [bestTo, hc, if_neg h]
def RetBest (s : ByteArray) (p : Nat) (w : World) (e : Ending) (w' : World) : Prop :=
  e = .returned (.tuple #[.int .i64 (best s.data.toList p).1, .int .i64 ((best s.data.toList p).2 : Nat)]) ∧ Still w w'

theorem vt_size' {s : ByteArray} (h : vt s.data.toList = true) : s.size ≤ 40 := by
  unfold vt at h; rw [Bool.and_eq_true, decide_eq_true_eq, list_len] at h; exact h.2
set_option maxHeartbeats 1000000 in
theorem s_longest (s : ByteArray) (p : Nat) (w : World) (hs : s.size ≤ 40) (hp : p ≤ s.size) :
    Calls Try.prog 53 #[.string s, .int .i64 p] w (RetBest s p w) := by
  go_enter Try.func53, Try.ntmps53
  go_wp2
  go_loopw [6, 7, 8, 9] (fun z f i _ wr => ∃ k : Nat, k ≤ p ∧ i = .int .i64 k ∧ f = .int .i64 (bestTo s.data.toList p k).1 ∧ z = .int .i64 ((bestTo s.data.toList p k).2 : Nat) ∧ Still w wr) (fun _ _ i _ _ => p - (intOf i).toNat)
  case atStart => exact ⟨0, Nat.zero_le _, rfl, rfl, rfl, Still.refl _⟩
  case round =>
    obtain ⟨k, hk, rfl, rfl, rfl, hst⟩ := hrel
    have hble := bestTo_le s.data.toList p k
    rw [list_len] at hble
    obtain ⟨f0, hf0⟩ : ∃ f, f = (bestTo s.data.toList p k).1 := ⟨_, rfl⟩
    obtain ⟨z0, hz0⟩ : ∃ z, z = (bestTo s.data.toList p k).2 := ⟨_, rfl⟩
    rw [← hf0, ← hz0]
    rw [← hz0] at hble
    have HF := Lib.hid hf0; have HZ := Lib.hid hz0; clear hf0 hz0
    obtain ⟨wo, rfl⟩ : ∃ wo : World, wo = wr := ⟨_, rfl⟩
    by_cases hlt : k < p
    · go_wp2
      go_loopw [9] (fun n wr => ∃ c : Nat, n = .int .i64 c ∧ c ≤ s.size ∧ Hid (lcp (s.data.toList.drop (k + c)) (s.data.toList.drop (p + c)) + c = lcp (s.data.toList.drop k) (s.data.toList.drop p)) ∧ Still wo wr) (fun n _ => s.size - (intOf n).toNat)
      case atStart => exact ⟨0, rfl, Nat.zero_le _, Lib.hid rfl, Still.refl _⟩
      case round =>
        obtain ⟨c, rfl, hc, HC, hst2⟩ := hrel
        have w1 : IntKind.i64.wrap ((k : Int) + c) = k + c := IntWalk.i64_in _ (by omega)
        have w2 : IntKind.i64.wrap ((p : Int) + c) = p + c := IntWalk.i64_in _ (by omega)
        by_cases hin : p + c < s.size
        · have hik : k + c < s.size := by omega
          have a1 : ((k : Int) + c) < s.size := by omega
          have a2 : ((k : Int) + c).toNat = k + c := by omega
          have a3 : (0 : Int) ≤ (k : Int) + c := by omega
          have b1 : ((p : Int) + c) < s.size := by omega
          have b2 : ((p : Int) + c).toNat = p + c := by omega
          have b3 : (0 : Int) ≤ (p : Int) + c := by omega
          by_cases hxy : s[k + c] = s[p + c]
          · have hq : ((s[k + c].toNat : Int) == (s[p + c].toNat : Int)) = true := by rw [hxy]; simp
            have HN := Lib.hid (lcp_step hik hin hxy HC.out)
            clear hxy
            go_wp2
            go_quiet (fail)
            clear w1 w2
            go_wp2
            go_roundw
            case rel => exact ⟨c + 1, by go_num, by omega, HN, hst2.drewN _⟩
            case measure => simp [intOf]; omega
          · have hq : ((s[k + c].toNat : Int) == (s[p + c].toNat : Int)) = false := by
              rw [beq_eq_false_iff_ne]; intro e; exact hxy (UInt8.toNat_inj.1 (by omega))
            have hl : lcp (s.data.toList.drop k) (s.data.toList.drop p) = c := by rw [← HC.out, lcp_no hik hin hxy]; omega
            have HL := Lib.hid hl
            clear hxy hl
            go_wp2
            go_quiet (fail)
            clear w1 w2
            by_cases hz : z0 < c
            · have HB := Lib.hid (best_more HL.out (by rw [← HZ.out]; exact hz))
              go_wp2
              go_roundw
              case rel => exact ⟨k + 1, by omega, by go_num, by rw [HB.out], by rw [HB.out], (hst.trans hst2).drewN _⟩
              case measure => simp [intOf]; omega
            · have HB := Lib.hid (best_same HL.out (by rw [← HZ.out]; exact hz))
              go_wp2
              go_roundw
              case rel => exact ⟨k + 1, by omega, by go_num, by rw [HB.out, HF.out], by rw [HB.out, HZ.out], (hst.trans hst2).drewN _⟩
              case measure => simp [intOf]; omega
        · have hl : lcp (s.data.toList.drop k) (s.data.toList.drop p) = c := by rw [← HC.out, lcp_end (by omega)]; omega
          have HL := Lib.hid hl; clear hl
          have b1 : decide ((p : Int) + c < s.size) = false := decide_eq_false (by omega)
          go_wp2
          go_quiet (fail)
          clear w1 w2
          by_cases hz : z0 < c
          · have HB := Lib.hid (best_more HL.out (by rw [← HZ.out]; exact hz))
            go_wp2
            go_roundw
            case rel => exact ⟨k + 1, by omega, by go_num, by rw [HB.out], by rw [HB.out], (hst.trans hst2).drewN _⟩
            case measure => simp [intOf]; omega
          · have HB := Lib.hid (best_same HL.out (by rw [← HZ.out]; exact hz))
            go_wp2
            go_roundw
            case rel => exact ⟨k + 1, by omega, by go_num, by rw [HB.out, HF.out], by rw [HB.out, HZ.out], (hst.trans hst2).drewN _⟩
            case measure => simp [intOf]; omega
    · obtain rfl : k = p := by omega
      go_wp2
      go_ret2
      refine ⟨?_, hst⟩
      unfold best
      rw [← HF.out, ← HZ.out]
      rfl
set_option maxHeartbeats 1000000 in
theorem i_longest (s : ByteArray) (p : Nat) (w : World) (hs : s.size ≤ 40) (hp : p ≤ s.size) :
    Calls Try.prog 54 #[.string s, .int .i64 p] w (RetBest s p w) := by
  go_enter Try.func54, Try.ntmps54
  go_wp2
  go_loopw [11, 6, 7, 8, 9] (fun i f z _ _ wr => ∃ k : Nat, k ≤ p ∧ i = .int .i64 k ∧ f = .int .i64 (bestTo s.data.toList p k).1 ∧ z = .int .i64 ((bestTo s.data.toList p k).2 : Nat) ∧ Still w wr) (fun i _ _ _ _ _ => p - (intOf i).toNat)
  case atStart => exact ⟨0, Nat.zero_le _, rfl, rfl, rfl, Still.refl _⟩
  case round =>
    obtain ⟨k, hk, rfl, rfl, rfl, hst⟩ := hrel
    have hble := bestTo_le s.data.toList p k
    rw [list_len] at hble
    obtain ⟨f0, hf0⟩ : ∃ f, f = (bestTo s.data.toList p k).1 := ⟨_, rfl⟩
    obtain ⟨z0, hz0⟩ : ∃ z, z = (bestTo s.data.toList p k).2 := ⟨_, rfl⟩
    rw [← hf0, ← hz0]
    rw [← hz0] at hble
    have HF := Lib.hid hf0; have HZ := Lib.hid hz0; clear hf0 hz0
    obtain ⟨wo, rfl⟩ : ∃ wo : World, wo = wr := ⟨_, rfl⟩
    by_cases hlt : k < p
    · go_wp2
      go_loopw [9] (fun n wr => ∃ c : Nat, n = .int .i64 c ∧ c ≤ s.size ∧ Hid (lcp (s.data.toList.drop (k + c)) (s.data.toList.drop (p + c)) + c = lcp (s.data.toList.drop k) (s.data.toList.drop p)) ∧ Still wo wr) (fun n _ => s.size - (intOf n).toNat)
      case atStart => exact ⟨0, rfl, Nat.zero_le _, Lib.hid rfl, Still.refl _⟩
      case round =>
        obtain ⟨c, rfl, hc, HC, hst2⟩ := hrel
        have w1 : IntKind.i64.wrap ((k : Int) + c) = k + c := IntWalk.i64_in _ (by omega)
        have w2 : IntKind.i64.wrap ((p : Int) + c) = p + c := IntWalk.i64_in _ (by omega)
        by_cases hin : p + c < s.size
        · have hik : k + c < s.size := by omega
          have a1 : ((k : Int) + c) < s.size := by omega
          have a2 : ((k : Int) + c).toNat = k + c := by omega
          have a3 : (0 : Int) ≤ (k : Int) + c := by omega
          have b1 : ((p : Int) + c) < s.size := by omega
          have b2 : ((p : Int) + c).toNat = p + c := by omega
          have b3 : (0 : Int) ≤ (p : Int) + c := by omega
          by_cases hxy : s[k + c] = s[p + c]
          · have hq : ((s[k + c].toNat : Int) == (s[p + c].toNat : Int)) = true := by rw [hxy]; simp
            have HN := Lib.hid (lcp_step hik hin hxy HC.out)
            clear hxy
            go_wp2
            go_quiet (fail)
            clear w1 w2
            go_wp2
            go_roundw
            case rel => exact ⟨c + 1, by go_num, by omega, HN, hst2.drewN _⟩
            case measure => simp [intOf]; omega
          · have hq : ((s[k + c].toNat : Int) == (s[p + c].toNat : Int)) = false := by
              rw [beq_eq_false_iff_ne]; intro e; exact hxy (UInt8.toNat_inj.1 (by omega))
            have hl : lcp (s.data.toList.drop k) (s.data.toList.drop p) = c := by rw [← HC.out, lcp_no hik hin hxy]; omega
            have HL := Lib.hid hl
            clear hxy hl
            go_wp2
            go_quiet (fail)
            clear w1 w2
            by_cases hz : z0 < c
            · have HB := Lib.hid (best_more HL.out (by rw [← HZ.out]; exact hz))
              go_wp2
              go_roundw
              case rel => exact ⟨k + 1, by omega, by go_num, by rw [HB.out], by rw [HB.out], (hst.trans hst2).drewN _⟩
              case measure => simp [intOf]; omega
            · have HB := Lib.hid (best_same HL.out (by rw [← HZ.out]; exact hz))
              go_wp2
              go_roundw
              case rel => exact ⟨k + 1, by omega, by go_num, by rw [HB.out, HF.out], by rw [HB.out, HZ.out], (hst.trans hst2).drewN _⟩
              case measure => simp [intOf]; omega
        · have hl : lcp (s.data.toList.drop k) (s.data.toList.drop p) = c := by rw [← HC.out, lcp_end (by omega)]; omega
          have HL := Lib.hid hl; clear hl
          have b1 : decide ((p : Int) + c < s.size) = false := decide_eq_false (by omega)
          go_wp2
          go_quiet (fail)
          clear w1 w2
          by_cases hz : z0 < c
          · have HB := Lib.hid (best_more HL.out (by rw [← HZ.out]; exact hz))
            go_wp2
            go_roundw
            case rel => exact ⟨k + 1, by omega, by go_num, by rw [HB.out], by rw [HB.out], (hst.trans hst2).drewN _⟩
            case measure => simp [intOf]; omega
          · have HB := Lib.hid (best_same HL.out (by rw [← HZ.out]; exact hz))
            go_wp2
            go_roundw
            case rel => exact ⟨k + 1, by omega, by go_num, by rw [HB.out, HF.out], by rw [HB.out, HZ.out], (hst.trans hst2).drewN _⟩
            case measure => simp [intOf]; omega
    · obtain rfl : k = p := by omega
      go_wp2
      go_ret2
      refine ⟨?_, hst⟩
      unfold best
      rw [← HF.out, ← HZ.out]
      rfl

/-- The value of a place of the table while its phrases are tried. -/
theorem minTo_same {T : Nat → Int} {p j L : Nat} (h1 : L ≤ j) (h2 : j ≤ L ∨ j ≤ 1) : minTo T p j = minTo T p L := by
  by_cases e : j = L
  · rw [e]
  · have e1 : j = 1 := by omega
    have e2 : L = 0 := by omega
    rw [e1, e2, minTo_one]
theorem minTo_bound (s : List UInt8) (m p n : Nat) : 0 ≤ minTo (few s m) p n ∧ minTo (few s m) p n ≤ m := by
  obtain ⟨j, _, _, e⟩ := minTo_ex (few s m) p n
  rw [e]; exact few_bound s m _
theorem few_place {s : List UInt8} {m i j : Nat} (hi : i = s.length - (m + 1)) (h1 : (best s i).2 ≤ j) (h2 : j ≤ (best s i).2 ∨ j ≤ 1) (k : Nat) : upd1 (few s m) i (1 + minTo (few s m) i j) k = few s (m + 1) k := by
  show (if k = i then _ else _) = (if k = s.length - (m + 1) then _ else _)
  rw [← hi]
  by_cases e : k = i
  · rw [if_pos e, if_pos e, e, minTo_same h1 h2]
  · rw [if_neg e, if_neg e]
theorem upd1_twice (T : Nat → Int) (i : Nat) (a b : Int) (k : Nat) : upd1 (upd1 T i a) i b k = upd1 T i b k := by
  unfold upd1; by_cases e : k = i
  · rw [if_pos e, if_pos e]
  · rw [if_neg e, if_neg e, if_neg e]
theorem upd1_at (T : Nat → Int) (i : Nat) (a : Int) : upd1 T i a i = a := by unfold upd1; rw [if_pos rfl]
theorem upd1_off (T : Nat → Int) (i : Nat) (a : Int) {k : Nat} (h : k ≠ i) : upd1 T i a k = T k := by unfold upd1; rw [if_neg h]
def fewI (s : List UInt8) : Int := if vt s then few s s.length 0 else -1
theorem fewI_no {s : List UInt8} (h : vt s = false) : fewI s = -1 := by unfold fewI; rw [if_neg (by rw [h]; decide)]
theorem fewI_yes {s : List UInt8} (h : vt s = true) : fewI s = few s s.length 0 := by unfold fewI; rw [if_pos h]

set_option maxHeartbeats 4000000 in
theorem i_FewestPhrases (s : ByteArray) (w : World) (hs : s.size ≤ maxLen) :
    Calls Try.prog 26 #[.string s] w fun e w' => e = .returned (.int .i64 (fewI s.data.toList)) ∧ Below w.heap.size w w' := by
  cases h1 : vt s.data.toList
  · rw [fewI_no h1]
    go_enter Try.func26, Try.ntmps26
    go_wp2_with fail
    refine (i_ValidText _ _ hs).mono ?_; rintro e w1 ⟨rfl, hb1⟩
    go_wp2
    go_ret
    exact ⟨rfl, hb1⟩
  · have hsz := vt_size' h1
    rw [fewI_yes h1]
    have HV := Lib.hid h1
    go_enter Try.func26, Try.ntmps26
    go_wp2_with fail
    refine (i_ValidText _ _ hs).mono ?_; rintro e w1 ⟨rfl, hb1⟩
    rw [HV.out]
    clear h1
    go_wp2_with (at_make; refine wpList_make_ints _ rfl _ _ rfl (s.size + 1) _ _ rfl rfl (by omega) (by omega) (by omega) ?_; intro w2 hz2 hg2)
    have hrow := FnRow.of_zrow hz2 (Nat.le_refl w1.heap.size)
    have hgl := hz2.lt
    have hb2 : Below w1.heap.size w1 w2 := (Below.refl _ _).grown hg2 (Nat.le_refl _) (fun k e => by cases e)
    clear hz2 hg2
    go_loopw [4, 5, 6, 7] (fun a _ _ _ wr => ∃ ii : Int, -1 ≤ ii ∧ ii < s.size ∧ a = .int .i64 ii ∧ FnRow wr w1.heap.size w1.heap.size (s.size + 1) (few s.data.toList (s.size - (ii + 1).toNat)) ∧ w1.heap.size < wr.heap.size ∧ Below w1.heap.size w1 wr) (fun a _ _ _ _ => ((intOf a) + 1).toNat)
    case atStart => exact ⟨(s.size : Int) - 1, by omega, by omega, rfl, by rw [show s.size - ((s.size : Int) - 1 + 1).toNat = 0 by omega]; exact hrow, hgl, hb2⟩
    case round =>
      obtain ⟨ii, hi0, hi1, rfl, hr, hgw, hb⟩ := hrel
      clear hrow hb2 hgl
      by_cases h0 : 0 ≤ ii
      · obtain ⟨i, rfl⟩ := Int.eq_ofNat_of_zero_le h0
        have hin : i < s.size := by omega
        rw [show s.size - ((i : Int) + 1).toNat = s.size - (i + 1) by omega] at hr
        obtain ⟨m, hm⟩ : ∃ m, m = s.size - (i + 1) := ⟨_, rfl⟩
        rw [← hm] at hr
        have HM := Lib.hid hm
        have hm40 : m ≤ 40 := by omega
        clear hm
        go_wp2_with fail
        refine (i_longest s i _ hsz (by omega)).mono ?_; rintro e w3 ⟨rfl, hst⟩
        have hr3 := hr.kept hst.1
        have hb3 := hb.trans (hst.1.mono hb.size)
        have hg3 : w1.heap.size < w3.heap.size := Nat.lt_of_lt_of_le hgw hst.1.size
        clear hr hst hgw hb
        have hL := bestTo_le s.data.toList i i
        rw [list_len] at hL
        obtain ⟨f, hf⟩ : ∃ f, f = (best s.data.toList i).1 := ⟨_, rfl⟩
        obtain ⟨L, hLd⟩ : ∃ L, L = (best s.data.toList i).2 := ⟨_, rfl⟩
        have hL2 : L ≤ s.size - i := by rw [hLd]; exact hL
        rw [← hf, ← hLd]
        have HLD := Lib.hid hLd
        clear hf hLd hL
        obtain ⟨d0, f0⟩ := hr3.2 i (by omega)
        obtain ⟨d1, _⟩ := hr3.2 (i + 1) (by omega)
        obtain ⟨t0, t1⟩ := few_bound s.data.toList m (i + 1)
        have hr4 := hr3.store (i := i) (by omega) (1 + few s.data.toList m (i + 1))
        obtain ⟨x, hx⟩ : ∃ x, x = few s.data.toList m (i + 1) := ⟨_, rfl⟩
        rw [← hx] at d1 t0 t1 hr4
        have HX := Lib.hid hx; clear hx
        go_wp2
        have hr5 : FnRow (w3.setCell ⟨w1.heap.size, i, none⟩ (.int .i64 (1 + x))) w1.heap.size w1.heap.size (s.size + 1) (upd1 (few s.data.toList m) i (1 + minTo (few s.data.toList m) i 0)) := by
          rw [HX.out] at hr4 ⊢; exact hr4
        go_loopw [7] (fun n wr => ∃ j : Nat, n = .int .i64 ((j : Int) + 1) ∧ j ≤ L ∧ FnRow wr w1.heap.size w1.heap.size (s.size + 1) (upd1 (few s.data.toList m) i (1 + minTo (few s.data.toList m) i j)) ∧ w1.heap.size < wr.heap.size ∧ Below w1.heap.size w1 wr) (fun n _ => L + 1 - (intOf n).toNat)
        case atStart => exact ⟨0, rfl, Nat.zero_le _, hr5, by rw [World.size_setCell]; exact hg3, hb3.setCell (p := ⟨w1.heap.size, i, none⟩) (Nat.le_refl _) _⟩
        case round =>
          obtain ⟨j, rfl, hj, hrj, hgj, hbj⟩ := hrel
          clear hr3 hr4 hr5 hb3 hg3 d0 d1 f0
          by_cases hjl : j < L
          · obtain ⟨e0, ef⟩ := hrj.2 i (by omega)
            obtain ⟨e1, _⟩ := hrj.2 (i + (j + 1)) (by omega)
            rw [upd1_at] at e0
            rw [upd1_off _ _ _ (by omega)] at e1
            obtain ⟨y0, y1⟩ := minTo_bound s.data.toList m i j
            obtain ⟨z0, z1⟩ := few_bound s.data.toList m (i + (j + 1))
            have hmin : minTo (few s.data.toList m) i (j + 1) = min (minTo (few s.data.toList m) i j) (few s.data.toList m (i + (j + 1))) := by rw [minTo, Nat.add_assoc]
            obtain ⟨y, hy⟩ : ∃ y, y = minTo (few s.data.toList m) i j := ⟨_, rfl⟩
            obtain ⟨z, hz⟩ : ∃ z, z = few s.data.toList m (i + (j + 1)) := ⟨_, rfl⟩
            rw [← hy] at e0 y0 y1 hmin
            rw [← hz] at e1 z0 z1 hmin
            have HMIN := Lib.hid hmin
            have HY := Lib.hid hy
            clear hmin hy hz
            go_wp2
            have a1 : IntKind.i64.wrap ((i : Int) + (j + 1)) = i + (j + 1) := IntWalk.i64_in _ (by omega)
            have a2 : ((i : Int) + (j + 1)).toNat = i + (j + 1) := by omega
            have a3 : (0 : Int) ≤ (i : Int) + (j + 1) := by omega
            have a4 : (i : Int) + (j + 1) < s.size + 1 := by omega
            have a5 : i + (j + 1) < s.size + 1 := by omega
            have a6 : IntKind.i64.wrap (1 + z) = 1 + z := IntWalk.i64_in _ (by omega)
            have a7 : (i : Int) < s.size + 1 := by omega
            by_cases hyz : 1 + z < 1 + y
            all_goals
              refine still_tail_abs 15 (by kernel_rfl) (by kernel_rfl) ?_
              intro w5 hst5
              have hr5 := hrj.kept hst5.1
              have hb5 := hbj.trans (hst5.1.mono hbj.size)
              have hg5 : w1.heap.size < w5.heap.size := Nat.lt_of_lt_of_le hgj hst5.1.size
              have c0 := (hst5.1.cell (p := ⟨w1.heap.size, i, none⟩) hgj).trans e0
              have c1 := (hst5.1.cell (p := ⟨w1.heap.size, i + (j + 1), none⟩) hgj).trans e1
              have cf := (hst5.1.frozen (p := ⟨w1.heap.size, i, none⟩) hgj).trans ef
              clear e0 e1 ef
              simp only [List.take_succ_cons, List.take_zero, List.drop_succ_cons, List.drop_zero]
              repeat still_step
              refine wpStill_nil ?_
              clear a1 a6
              go_wp2
              go_roundw
              case rel => exact ⟨j + 1, by go_num, by omega, (hr5.store (i := i) (by omega) _).congr fun k _ => by rw [upd1_twice, HMIN.out]; congr 1; omega, by rw [World.size_setCell]; exact hg5, hb5.setCell (p := ⟨w1.heap.size, i, none⟩) (Nat.le_refl _) _⟩
              case measure => simp [intOf]; omega
          · obtain rfl : j = L := by omega
            go_wp2
            go_roundw
            case rel =>
              refine ⟨(i : Int) - 1, by omega, by omega, rfl, ?_, hgj, hbj⟩
              rw [show s.size - ((i : Int) - 1 + 1).toNat = m + 1 by have := HM.out; omega]
              exact hrj.congr fun k _ => few_place (by rw [list_len]; have := HM.out; omega) (by rw [← HLD.out]; exact Nat.le_refl _) (.inl (by rw [← HLD.out]; exact Nat.le_refl _)) k
            case measure => simp [intOf]
      · obtain rfl : ii = -1 := by omega
        obtain ⟨d0, _⟩ := hr.2 0 (by omega)
        rw [show s.size - ((-1 : Int) + 1).toNat = s.size by omega] at d0
        go_wp2
        go_ret
        exact ⟨by first | rfl | (rw [list_len]; rfl), hb1.trans (hb.mono hb1.size)⟩
set_option maxHeartbeats 4000000 in
theorem s_FewestPhrases (s : ByteArray) (w : World) (hs : s.size ≤ maxLen) :
    Calls Try.prog 25 #[.string s] w fun e w' => e = .returned (.int .i64 (fewI s.data.toList)) ∧ Below w.heap.size w w' := by
  cases h1 : vt s.data.toList
  · rw [fewI_no h1]
    go_enter Try.func25, Try.ntmps25
    go_wp2_with fail
    refine (s_validText _ _ hs).mono ?_; rintro e w ⟨rfl, rfl⟩
    go_wp2
    go_ret
    exact ⟨rfl, Below.refl _ _⟩
  · have hsz := vt_size' h1
    rw [fewI_yes h1]
    have HV := Lib.hid h1
    go_enter Try.func25, Try.ntmps25
    go_wp2_with fail
    refine (s_validText _ _ hs).mono ?_; rintro e w ⟨rfl, rfl⟩
    rw [HV.out]
    clear h1
    go_wp2_with (at_make; refine wpList_make_ints _ rfl _ _ rfl (s.size + 1) _ _ rfl rfl (by omega) (by omega) (by omega) ?_; intro w2 hz2 hg2)
    have hrow := FnRow.of_zrow hz2 (Nat.le_refl w.heap.size)
    have hgl := hz2.lt
    have hb2 : Below w.heap.size w w2 := (Below.refl _ _).grown hg2 (Nat.le_refl _) (fun k e => by cases e)
    clear hz2 hg2
    go_loopw [5, 6, 7, 8] (fun a _ _ _ wr => ∃ ii : Int, -1 ≤ ii ∧ ii < s.size ∧ a = .int .i64 ii ∧ FnRow wr w.heap.size w.heap.size (s.size + 1) (few s.data.toList (s.size - (ii + 1).toNat)) ∧ w.heap.size < wr.heap.size ∧ Below w.heap.size w wr) (fun a _ _ _ _ => ((intOf a) + 1).toNat)
    case atStart => exact ⟨(s.size : Int) - 1, by omega, by omega, rfl, by rw [show s.size - ((s.size : Int) - 1 + 1).toNat = 0 by omega]; exact hrow, hgl, hb2⟩
    case round =>
      obtain ⟨ii, hi0, hi1, rfl, hr, hgw, hb⟩ := hrel
      clear hrow hb2 hgl
      by_cases h0 : 0 ≤ ii
      · obtain ⟨i, rfl⟩ := Int.eq_ofNat_of_zero_le h0
        have hin : i < s.size := by omega
        rw [show s.size - ((i : Int) + 1).toNat = s.size - (i + 1) by omega] at hr
        obtain ⟨m, hm⟩ : ∃ m, m = s.size - (i + 1) := ⟨_, rfl⟩
        rw [← hm] at hr
        have HM := Lib.hid hm
        have hm40 : m ≤ 40 := by omega
        clear hm
        go_wp2_with fail
        refine (s_longest s i _ hsz (by omega)).mono ?_; rintro e w3 ⟨rfl, hst⟩
        have hr3 := hr.kept hst.1
        have hb3 := hb.trans (hst.1.mono hb.size)
        have hg3 : w.heap.size < w3.heap.size := Nat.lt_of_lt_of_le hgw hst.1.size
        clear hr hst hgw hb
        have hL := bestTo_le s.data.toList i i
        rw [list_len] at hL
        obtain ⟨f, hf⟩ : ∃ f, f = (best s.data.toList i).1 := ⟨_, rfl⟩
        obtain ⟨L, hLd⟩ : ∃ L, L = (best s.data.toList i).2 := ⟨_, rfl⟩
        have hL2 : L ≤ s.size - i := by rw [hLd]; exact hL
        rw [← hf, ← hLd]
        have HLD := Lib.hid hLd
        clear hf hLd hL
        obtain ⟨d0, f0⟩ := hr3.2 i (by omega)
        obtain ⟨d1, _⟩ := hr3.2 (i + 1) (by omega)
        obtain ⟨t0, t1⟩ := few_bound s.data.toList m (i + 1)
        have hr4 := hr3.store (i := i) (by omega) (few s.data.toList m (i + 1) + 1)
        obtain ⟨x, hx⟩ : ∃ x, x = few s.data.toList m (i + 1) := ⟨_, rfl⟩
        rw [← hx] at d1 t0 t1 hr4
        have HX := Lib.hid hx; clear hx
        go_wp2
        have hr5 : FnRow (w3.setCell ⟨w.heap.size, i, none⟩ (.int .i64 (x + 1))) w.heap.size w.heap.size (s.size + 1) (upd1 (few s.data.toList m) i (1 + minTo (few s.data.toList m) i 0)) := by
          rw [HX.out] at hr4 ⊢; rw [Int.add_comm 1]; exact hr4
        go_loopw [8] (fun n wr => ∃ j : Nat, n = .int .i64 ((j : Int) + 1) ∧ 1 ≤ j ∧ (j ≤ L ∨ j ≤ 1) ∧ FnRow wr w.heap.size w.heap.size (s.size + 1) (upd1 (few s.data.toList m) i (1 + minTo (few s.data.toList m) i j)) ∧ w.heap.size < wr.heap.size ∧ Below w.heap.size w wr) (fun n _ => L + 1 - (intOf n).toNat)
        case atStart => exact ⟨1, rfl, Nat.le_refl _, .inr (Nat.le_refl _), hr5.congr fun k _ => by rw [minTo_one], by rw [World.size_setCell]; exact hg3, hb3.setCell (p := ⟨w.heap.size, i, none⟩) (Nat.le_refl _) _⟩
        case round =>
          obtain ⟨j, rfl, hj1, hj, hrj, hgj, hbj⟩ := hrel
          clear hr3 hr4 hr5 hb3 hg3 d0 d1 f0
          by_cases hjl : j < L
          · obtain ⟨e0, ef⟩ := hrj.2 i (by omega)
            obtain ⟨e1, _⟩ := hrj.2 (i + (j + 1)) (by omega)
            rw [upd1_at] at e0
            rw [upd1_off _ _ _ (by omega)] at e1
            obtain ⟨y0, y1⟩ := minTo_bound s.data.toList m i j
            obtain ⟨z0, z1⟩ := few_bound s.data.toList m (i + (j + 1))
            have hmin : minTo (few s.data.toList m) i (j + 1) = min (minTo (few s.data.toList m) i j) (few s.data.toList m (i + (j + 1))) := by rw [minTo, Nat.add_assoc]
            obtain ⟨y, hy⟩ : ∃ y, y = minTo (few s.data.toList m) i j := ⟨_, rfl⟩
            obtain ⟨z, hz⟩ : ∃ z, z = few s.data.toList m (i + (j + 1)) := ⟨_, rfl⟩
            rw [← hy] at e0 y0 y1 hmin
            rw [← hz] at e1 z0 z1 hmin
            have HMIN := Lib.hid hmin
            have HY := Lib.hid hy
            clear hmin hy hz
            go_wp2
            have a1 : IntKind.i64.wrap ((i : Int) + (j + 1)) = i + (j + 1) := IntWalk.i64_in _ (by omega)
            have a2 : ((i : Int) + (j + 1)).toNat = i + (j + 1) := by omega
            have a3 : (0 : Int) ≤ (i : Int) + (j + 1) := by omega
            have a4 : (i : Int) + (j + 1) < s.size + 1 := by omega
            have a5 : i + (j + 1) < s.size + 1 := by omega
            have a6 : IntKind.i64.wrap (z + 1) = z + 1 := IntWalk.i64_in _ (by omega)
            have a7 : (i : Int) < s.size + 1 := by omega
            by_cases hyz : z + 1 < 1 + y
            all_goals
              refine still_tail_abs 15 (by kernel_rfl) (by kernel_rfl) ?_
              intro w5 hst5
              have hr5 := hrj.kept hst5.1
              have hb5 := hbj.trans (hst5.1.mono hbj.size)
              have hg5 : w.heap.size < w5.heap.size := Nat.lt_of_lt_of_le hgj hst5.1.size
              have c0 := (hst5.1.cell (p := ⟨w.heap.size, i, none⟩) hgj).trans e0
              have c1 := (hst5.1.cell (p := ⟨w.heap.size, i + (j + 1), none⟩) hgj).trans e1
              have cf := (hst5.1.frozen (p := ⟨w.heap.size, i, none⟩) hgj).trans ef
              clear e0 e1 ef
              simp only [List.take_succ_cons, List.take_zero, List.drop_succ_cons, List.drop_zero]
              repeat still_step
              refine wpStill_nil ?_
              clear a1 a6
              go_wp2
              go_roundw
              case rel => exact ⟨j + 1, by go_num, by omega, .inl (by omega), (hr5.store (i := i) (by omega) _).congr fun k _ => by rw [upd1_twice, HMIN.out]; congr 1; omega, by rw [World.size_setCell]; exact hg5, hb5.setCell (p := ⟨w.heap.size, i, none⟩) (Nat.le_refl _) _⟩
              case measure => simp [intOf]; omega
          · have hjL : L ≤ j := by omega
            go_wp2
            go_roundw
            case rel =>
              refine ⟨(i : Int) - 1, by omega, by omega, rfl, ?_, hgj, hbj⟩
              rw [show s.size - ((i : Int) - 1 + 1).toNat = m + 1 by have := HM.out; omega]
              exact hrj.congr fun k _ => few_place (by rw [list_len]; have := HM.out; omega) (by rw [← HLD.out]; exact hjL) (by rw [← HLD.out]; exact hj) k
            case measure => simp [intOf]
      · obtain rfl : ii = -1 := by omega
        obtain ⟨d0, _⟩ := hr.2 0 (by omega)
        rw [show s.size - ((-1 : Int) + 1).toNat = s.size by omega] at d0
        go_wp2
        go_ret
        exact ⟨by first | rfl | (rw [list_len]; rfl), hb⟩
end Go.Proofs.Ytkgdifngijeenaa
