/- PhrasesOf, the reference's and the program's; the walk of the law FnExactPhrasesOf. -/
import Derived.Test.YtkgdifngijeenaaPe
namespace Go.Proofs.Ytkgdifngijeenaa
open Go.RowKit
set_option linter.unusedVariables false

def phrI (s : ByteArray) : List PhP := if vt s.data.toList then phrasesL s else []
theorem phrI_no {s : ByteArray} (h : vt s.data.toList = false) : phrI s = [] := by unfold phrI; rw [if_neg (by rw [h]; decide)]
theorem phrI_yes {s : ByteArray} (h : vt s.data.toList = true) : phrI s = phrasesL s := by unfold phrI; rw [if_pos h]
set_option maxHeartbeats 400000 in
theorem s_PhrasesOf (s : ByteArray) (w : World) (hs : s.size ≤ maxLen) : Calls Try.prog 28 #[.string s] w (RetPh (phrI s) w) := by
  cases h1 : vt s.data.toList
  · rw [phrI_no h1]
    go_enter Try.func28, Try.ntmps28
    go_wp2_with fail
    refine (s_validText _ _ hs).mono ?_; rintro e w1 ⟨rfl, rfl⟩
    go_wp2
    go_ret
    exact ⟨none, 0, 0, rfl, Lib.hid rfl, by omega, RowF.nil _ _ _ _ _, Below.refl _ _⟩
  · have hsz := vt_size' h1
    rw [phrI_yes h1]
    go_enter Try.func28, Try.ntmps28
    go_wp2_with fail
    refine (s_validText _ _ hs).mono ?_; rintro e w1 ⟨rfl, rfl⟩
    go_wp2_with fail
    refine (s_phrases s _ hsz).mono ?_; rintro e w2 ⟨pa, n, ca, rfl, HN, hn, hr, hb⟩
    go_wp2
    go_ret
    exact ⟨pa, n, ca, rfl, HN, hn, hr, hb⟩
set_option maxHeartbeats 400000 in
theorem i_PhrasesOf (s : ByteArray) (w : World) (hs : s.size ≤ maxLen) : Calls Try.prog 29 #[.string s] w (RetPh (phrI s) w) := by
  cases h1 : vt s.data.toList
  · rw [phrI_no h1]
    go_enter Try.func29, Try.ntmps29
    go_wp2_with fail
    refine (i_ValidText _ _ hs).mono ?_; rintro e w1 ⟨rfl, hb1⟩
    go_wp2
    go_ret
    exact ⟨none, 0, 0, rfl, Lib.hid rfl, by omega, RowF.nil _ _ _ _ _, hb1⟩
  · have hsz := vt_size' h1
    rw [phrI_yes h1]
    go_enter Try.func29, Try.ntmps29
    go_wp2_with fail
    refine (i_ValidText _ _ hs).mono ?_; rintro e w1 ⟨rfl, hb1⟩
    go_wp2_with fail
    refine (i_phrases s _ hsz).mono ?_; rintro e w2 ⟨pa, n, ca, rfl, HN, hn, hr, hb⟩
    go_wp2
    go_ret
    exact ⟨pa, n, ca, rfl, HN, hn, hr.mono hb1.size (Nat.le_refl _), below_then hb1 hb⟩
set_option maxHeartbeats 1000000 in
theorem walk_FnExactPhrasesOf (x0 : ByteArray) (w : World) (hx0 : x0.size ≤ maxLen) :
    Calls Try.prog 9 #[.string x0] w fun e w' => e = .returned (.bool true) ∧ Below w.heap.size w w' := by
  have hy0 := hx0; unfold maxLen at hy0
  by_cases hbig : x0.size ≤ 1048576
  · go_enter Try.func9, Try.ntmps9
    go_wp2_with fail
    refine (s_PhrasesOf x0 _ hx0).mono ?_; rintro e w1 ⟨pa, n, ca, rfl, HN, hn, hr1, hb1⟩
    go_wp2_with fail
    refine (i_PhrasesOf x0 _ hx0).mono ?_; rintro e w2 ⟨pb, n2, cb, rfl, HN2, hn2, hr2, hb2⟩
    obtain rfl : n = n2 := HN.out.symm.trans HN2.out
    have hr12 := hr1.kept hb2
    have s1 := hb1.size
    have hB2 := below_then hb1 hb2
    have sB2 := hb2.size
    clear hb2 hr1
    go_wp2_with fail
    refine (l_eqPhraseS pb pa n cb ca _ _ _ _ _ _ hn hr2 hr12).mono ?_; rintro e w3 ⟨rfl, hb3⟩
    have hr13 := hr12.kept hb3
    have hr23 := hr2.kept hb3
    have hB3 := below_then hB2 hb3
    have sB3 := hb3.size
    clear hb3 hr12 hr2
    go_wp2_with fail
    refine (l_markPhraseS pb n cb _ _ _ _ hn hr23).mono ?_; rintro e w4 ⟨rfl, ho4, hr24⟩
    have hr14 := ho4.row hr13 (.inl (Nat.le_refl _))
    have hB4 := hB3.trans (ho4.below w.heap.size s1 (by omega))
    clear ho4 hr13 hr23
    go_wp2_with fail
    refine (l_heldPhraseS pb n cb _ _ _ hn hr24).mono ?_; rintro e w5 ⟨rfl, hb5⟩
    have hr15 := hr14.kept hb5
    have hr25 := hr24.kept hb5
    have hB5 := below_then hB4 hb5
    clear hb5 hr14 hr24
    go_wp2_with fail
    refine (i_PhrasesOf x0 _ hx0).mono ?_; rintro e w6 ⟨pc, n3, cc, rfl, HN3, hn3, hr6, hb6⟩
    obtain rfl : n = n3 := HN.out.symm.trans HN3.out
    have hr16 := hr15.kept hb6
    have hr26 := hr25.kept hb6
    have hB6 := below_then hB5 hb6
    clear hb6 hr15 hr25
    go_wp2_with fail
    refine (l_eqPhraseS pc pa n cc ca _ _ _ _ _ _ hn hr6 hr16).mono ?_; rintro e w7 ⟨rfl, hb7⟩
    have hr27 := hr26.kept hb7
    have hB7 := below_then hB6 hb7
    clear hb7 hr26 hr16 hr6
    go_wp2_with fail
    refine (l_heldPhraseS pb n cb _ _ _ hn hr27).mono ?_; rintro e w8 ⟨rfl, hb8⟩
    go_wp2
    go_ret
    exact ⟨rfl, below_then hB7 hb8⟩
  · go_enter Try.func9, Try.ntmps9
    go_wp2_with fail
    all_goals first | (go_ret; exact ⟨rfl, Below.refl _ _⟩) | (exfalso; apply hbig; omega)
end Go.Proofs.Ytkgdifngijeenaa
