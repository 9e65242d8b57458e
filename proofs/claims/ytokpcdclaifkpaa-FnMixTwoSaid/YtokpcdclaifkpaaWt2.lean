/- Walks of the laws FnPlacesOf, FnBordersOf, FnCoversOf over drawn texts. -/
import Derived.Test.YtokpcdclaifkpaaE
namespace Go.Proofs.Ytokpcdclaifkpaa
open Go.RowKit
set_option linter.unusedVariables false

theorem l_isInB (pa : Option Addr) (n ca : Nat) (xs : List Int) (x : Int) (la ha : Nat) (w : World) {b : Bool} (hb : inB xs x = b) (hn : xs.length = n) (hle : n ≤ 1048576) (ra : Row w la ha pa (ints xs)) :
    Calls Try.prog 34 #[.slice pa n ca, .int .i64 x] w fun e w' => e = .returned (.bool b) ∧ w' = w := by
  rw [← hb]; exact (l_isIn pa n ca xs x la ha w hn hle ra).mono fun _ _ ⟨h1, h2⟩ => ⟨h1, h2.symm⟩
theorem mem_sel {P : Nat → Bool} {a m i : Nat} : ((a + i : Nat) : Int) ∈ sel P a m ↔ i < m ∧ P (a + i) = true := by
  induction m with
  | zero => simp [sel]
  | succ m ih =>
    cases hP : P (a + m) with
    | false =>
      rw [sel_no hP, ih]
      constructor
      · rintro ⟨h1, h2⟩; exact ⟨by omega, h2⟩
      · rintro ⟨h1, h2⟩
        by_cases e : i = m
        · subst e; rw [hP] at h2; cases h2
        · exact ⟨by omega, h2⟩
    | true =>
      rw [sel_yes hP, List.mem_append, ih, List.mem_singleton]
      constructor
      · rintro (⟨h1, h2⟩ | h)
        · exact ⟨by omega, h2⟩
        · obtain rfl : i = m := by omega
          exact ⟨by omega, hP⟩
      · rintro ⟨h1, h2⟩
        by_cases e : i = m
        · right; rw [e]
        · left; exact ⟨by omega, h2⟩
theorem inB_mem {xs : List Int} {x : Int} : inB xs x = true ↔ x ∈ xs := by unfold inB; rw [List.contains_iff_mem]
theorem inB_sel0 {P : Nat → Bool} {m i : Nat} (hi : i < m) {b : Bool} (h : P i = b) : inB (sel P 0 m) (i : Int) = b := by
  rw [Bool.eq_iff_iff, inB_mem]
  have := @mem_sel P 0 m i
  rw [Nat.zero_add] at this
  rw [this, h]; exact ⟨fun h => h.2, fun h => ⟨hi, h⟩⟩

set_option maxHeartbeats 4000000 in
theorem walk_FnPlacesOf (pa : Option Addr) (n cap : Nat) (w : World) (hx : CodeAt w pa n cap) :
    Calls Try.prog 9 #[.slice pa n cap] w fun e w' => e = .returned (.bool true) ∧ Below w.heap.size w w' := by
  have hcap := hx.2.1; have hnc := hx.1
  unfold maxLen at hcap
  have HC := Lib.hid hx; clear hx
  by_cases hn : n ≤ 1048576
  · go_enter Try.func9, Try.ntmps9
    go_wp2_with fail
    refine (d_DrawPlacesOf _ _ _ _ HC.out).mono ?_; rintro e w1 ⟨s, t, rfl, hs, ht, hb1⟩
    go_wp2_with fail
    refine (i_PlacesOf s t _ (size41 hs) (size41 ht)).mono ?_; rintro e w2 ⟨pb, m, cb, rfl, HN, hle, hr2, hb2⟩
    have hB2 := Below.then hb1 hb2; clear hb1 hb2
    go_wp2_with fail
    refine (s_PlacesOf s t _ (size41 hs) (size41 ht)).mono ?_; rintro e w3 ⟨pc, m3, cc, rfl, HN3, _, hr3, hb3⟩
    obtain rfl : m = m3 := HN.out.symm.trans HN3.out
    have hB3 := Below.then hB2 hb3
    have hr2 := hr2.kept hb3
    clear hB2 hb3
    go_wp2_with fail
    refine (l_equalInts pb pc m cb cc _ _ _ _ _ _ HN.out hle hr2 hr3).mono ?_; rintro e w4 ⟨rfl, hb4⟩
    have hB4 := Below.then hB3 hb4
    have hr2 := hr2.kept hb4
    clear hB3 hb4 hr3
    go_wp2_with fail
    refine (i_ValidText s _ (size41 hs)).mono ?_; rintro e w5 ⟨rfl, hb5⟩
    have hB5 := Below.then hB4 hb5
    have hr2 := hr2.kept hb5
    clear hB4 hb5
    have again : ∀ {w' : World}, Below w.heap.size w w' → Row w' w1.heap.size w2.heap.size pb (ints (placesOf s.data.toList t.data.toList)) → True := fun _ _ => trivial
    cases h1 : vt s.data.toList
    · go_wp2_with fail
      refine (s_PlacesOf s t _ (size41 hs) (size41 ht)).mono ?_; rintro e w6 ⟨pd, m6, cd, rfl, HN6, _, hr6, hb6⟩
      obtain rfl : m = m6 := HN.out.symm.trans HN6.out
      have hB6 := Below.then hB5 hb6
      have hr2 := hr2.kept hb6
      go_wp2_with fail
      refine (l_equalInts pb pd m cb cd _ _ _ _ _ _ HN.out hle hr2 hr6).mono ?_; rintro e w7 ⟨rfl, hb7⟩
      go_wp2
      go_ret
      exact ⟨rfl, Below.then hB6 hb7⟩
    · go_wp2_with fail
      refine (i_ValidText t _ (size41 ht)).mono ?_; rintro e w6 ⟨rfl, hb6⟩
      have hB6 := Below.then hB5 hb6
      have hr2 := hr2.kept hb6
      clear hB5 hb6
      cases h2 : vt t.data.toList
      · go_wp2_with fail
        refine (s_PlacesOf s t _ (size41 hs) (size41 ht)).mono ?_; rintro e w7 ⟨pd, m6, cd, rfl, HN6, _, hr6, hb7⟩
        obtain rfl : m = m6 := HN.out.symm.trans HN6.out
        have hB7 := Below.then hB6 hb7
        have hr2 := hr2.kept hb7
        go_wp2_with fail
        refine (l_equalInts pb pd m cb cd _ _ _ _ _ _ HN.out hle hr2 hr6).mono ?_; rintro e w8 ⟨rfl, hb8⟩
        go_wp2
        go_ret
        exact ⟨rfl, Below.then hB7 hb8⟩
      · cases h3 : t.data.toList.isEmpty
        · have he := emp_no' h3
          have ht0 := size_pos h3
          have hsz := vt_size h1
          have HP := Lib.hid (placesOf_yes h1 h2 h3)
          go_wp2
          clear he h1 h2 h3
          go_loopw [6] (fun i wr => ∃ k : Nat, k ≤ s.size ∧ i = .int .i64 k ∧ Below w.heap.size w wr ∧ Row wr w1.heap.size w2.heap.size pb (ints (placesOf s.data.toList t.data.toList))) (fun i _ => s.size - (intOf i).toNat)
          case atStart => exact ⟨0, by omega, rfl, hB6, hr2⟩
          case round =>
            obtain ⟨k, hk, rfl, hB, hr⟩ := hrel
            clear hB6 hr2
            by_cases hlt : k + t.size ≤ s.size
            · have e1 : IntKind.i64.wrap ((k : Int) + t.size) = k + t.size := IntWalk.i64_in _ (by omega)
              have e2 : ((k : Int) + t.size) ≤ s.size := by omega
              have e3 : ((k : Int) + t.size).toNat = k + t.size := by omega
              have e4 : (0 : Int) ≤ (k : Int) + t.size := by omega
              have e5 : (k : Int) ≤ k + t.size := by omega
              cases hX : ((s.extract k (k + t.size)).toList == t.toList)
              · have HI := Lib.hid (show inB (placesOf s.data.toList t.data.toList) k = false by rw [HP.out]; unfold placesL; exact inB_sel0 (by rw [list_len]; omega) (atB_no hX))
                go_wp2
                go_quiet ((go_at_call 34; exact Calls.quiet_of_same (l_isInB _ _ _ _ _ _ _ _ HI.out HN.out hle (hr.kept (below_drewN (Below.refl _ _) _)))))
                clear e1
                go_wp2
                go_roundw
                case rel => exact ⟨k + 1, by omega, by go_num, below_drewN hB _, hr.kept (below_drewN (Below.refl _ _) _)⟩
                case measure => simp [intOf]; omega
              · have HI := Lib.hid (show inB (placesOf s.data.toList t.data.toList) k = true by rw [HP.out]; unfold placesL; exact inB_sel0 (by rw [list_len]; omega) (atB_yes hX))
                go_wp2
                go_quiet ((go_at_call 34; exact Calls.quiet_of_same (l_isInB _ _ _ _ _ _ _ _ HI.out HN.out hle (hr.kept (below_drewN (Below.refl _ _) _)))))
                clear e1
                go_wp2
                go_roundw
                case rel => exact ⟨k + 1, by omega, by go_num, below_drewN hB _, hr.kept (below_drewN (Below.refl _ _) _)⟩
                case measure => simp [intOf]; omega
            · go_wp2_with fail
              refine (l_ascends pb m cb _ _ _ _ HN.out hle hr (by rw [HP.out]; exact sel_asc _ _ _)).mono ?_; rintro e w8 ⟨rfl, hb8⟩
              go_wp2
              go_ret
              exact ⟨rfl, Below.then hB hb8⟩
        · have he := emp_yes' h3
          go_wp2_with fail
          refine (s_PlacesOf s t _ (size41 hs) (size41 ht)).mono ?_; rintro e w7 ⟨pd, m6, cd, rfl, HN6, _, hr6, hb7⟩
          obtain rfl : m = m6 := HN.out.symm.trans HN6.out
          have hB7 := Below.then hB6 hb7
          have hr2 := hr2.kept hb7
          go_wp2_with fail
          refine (l_equalInts pb pd m cb cd _ _ _ _ _ _ HN.out hle hr2 hr6).mono ?_; rintro e w8 ⟨rfl, hb8⟩
          go_wp2
          go_ret
          exact ⟨rfl, Below.then hB7 hb8⟩
  · go_enter Try.func9, Try.ntmps9
    go_wp2
    go_ret
    exact ⟨rfl, Below.refl _ _⟩
end Go.Proofs.Ytokpcdclaifkpaa
