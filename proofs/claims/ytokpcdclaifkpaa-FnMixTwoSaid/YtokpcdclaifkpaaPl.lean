/- The walks of PlacesOf, the reference's and the program's, of strings.HasPrefix and of places. -/
import Derived.Test.YtokpcdclaifkpaaP
namespace Go.Proofs.Ytokpcdclaifkpaa
open Go.RowKit
set_option linter.unusedVariables false

/-- w stands in s at i. -/
def atB (s w : List UInt8) (i : Nat) : Bool := decide ((s.drop i).take w.length = w)
def placesL (s w : List UInt8) : List Int := sel (atB s w) 0 s.length
def placesOf (s w : List UInt8) : List Int := if vt s && vt w && !w.isEmpty then placesL s w else []

theorem atB_lt {s w : List UInt8} {i : Nat} (h : atB s w i = true) (h0 : 0 < w.length) : i + w.length ≤ s.length := by
  have e := of_decide_eq_true h
  have := congrArg List.length e
  rw [List.length_take, List.length_drop] at this; omega
theorem sel_tail {P : Nat → Bool} {a m : Nat} (n : Nat) (h : m ≤ n) (hP : ∀ i, m ≤ i → i < n → P (a + i) = false) : sel P a n = sel P a m := by
  induction n with
  | zero => rw [show m = 0 by omega]
  | succ n ih =>
    by_cases e : m = n + 1
    · rw [e]
    · rw [sel_no (hP n (by omega) (by omega))]; exact ih (by omega) (fun i h1 h2 => hP i h1 (by omega))
theorem owns_iterAt {w : World} {lo : Nat} {e : TypeId} {v : Value} {n : Nat} {xs : List Value} (h : w.ownsRow lo e 1 v n xs) {K : Nat} {s : ByteArray} {p : Nat} (hit : w.heap[K]? = some (.stringIter s p)) (p' : Nat) : (w.iterAt K s p').ownsRow lo e 1 v n xs := by
  refine ⟨h.1, ?_⟩
  rcases h.2 with hn | ⟨g, cap, cur, hv, hg, hh, r⟩
  · exact .inl hn
  · have hne : g ≠ K := by rintro rfl; rw [hit] at hh; cases hh
    exact .inr ⟨g, cap, cur, hv, hg, (Lib.iterAt_other w K g s p' hne).trans hh, r⟩
theorem iter_grown {w w' : World} {lo : Nat} {e : TypeId} {v : Value} {n : Nat} {xs : List Value} (h : w.ownsRow lo e 1 v n xs) {K : Nat} {s : ByteArray} {p : Nat} (hit : w.heap[K]? = some (.stringIter s p)) {o : Obj} (hg : (w.alloc o).grownBy w' v.ownBlock) :
    w'.heap[K]? = some (.stringIter s p) := by
  have hlt : K < w.heap.size := (Array.getElem?_eq_some_iff.1 hit).1
  rw [hg.block K (by simp; omega) ?_]
  · rw [Below.heap_alloc w o K hlt]; exact hit
  · rcases h.2 with ⟨rfl, _⟩ | ⟨g, cap, cur, rfl, _, hh, _⟩
    · simp [Value.ownBlock]
    · simp only [Value.ownBlock]
      intro e; cases e; rw [hit] at hh; cases hh

set_option maxHeartbeats 400000 in
theorem l_hasPrefix (s p : ByteArray) (w : World) (hs : s.size ≤ maxLen) (hp : p.size ≤ maxLen) :
    Calls Try.prog 78 #[.string s, .string p] w fun e w' => e = .returned (.bool (Lib.hasPrefix s.data.toList p.data.toList)) ∧ w = w' := by
  unfold maxLen at hs hp
  rw [← Lib.hasPrefix_raw]
  by_cases h : p.size ≤ s.size
  · go_enter Try.func78, Try.ntmps78
    go_wp2
    go_ret
    simp [h]
  · go_enter Try.func78, Try.ntmps78
    go_wp2
    go_ret
    simp [h]
theorem hasPrefix_atB (s w : List UInt8) (i : Nat) : Lib.hasPrefix (s.drop i) w = atB s w i := by
  rw [Bool.eq_iff_iff]; unfold atB Lib.hasPrefix
  rw [List.isPrefixOf_iff_prefix, decide_eq_true_eq, List.prefix_iff_eq_take]
  exact ⟨Eq.symm, Eq.symm⟩
theorem l_HasPrefix (s p : ByteArray) (w : World) (hs : s.size ≤ maxLen) (hp : p.size ≤ maxLen) :
    Calls Try.prog 74 #[.string s, .string p] w fun e w' => e = .returned (.bool (Lib.hasPrefix s.data.toList p.data.toList)) ∧ w = w' := by
  go_enter Try.func74, Try.ntmps74
  go_wp2_with fail
  refine (l_hasPrefix s p _ hs hp).mono ?_; rintro e w' ⟨rfl, rfl⟩
  go_wp2
  go_ret
  exact ⟨rfl, rfl⟩
/-- s[i:] begins with p. -/
theorem l_prefixAt (s p : ByteArray) (i : Nat) (w : World) (hs : s.size ≤ maxLen) (hp : p.size ≤ maxLen) :
    Calls Try.prog 74 #[.string (s.extract i s.size), .string p] w fun e w' => e = .returned (.bool (atB s.data.toList p.data.toList i)) ∧ w = w' := by
  have := l_HasPrefix (s.extract i s.size) p w (by rw [ByteArray.size_extract]; omega) hp
  rw [cut_from, hasPrefix_atB] at this; exact this

theorem sel0_app {P : Nat → Bool} {k lo : Nat} {w' : World} {v' : Value} (h : P k = true) (ho : w'.ownsRow lo 3 1 v' ((sel P 0 k).length + 1) (ints (sel P 0 k ++ [(k : Int)]))) :
    w'.ownsRow lo 3 1 v' (sel P 0 (k + 1)).length (ints (sel P 0 (k + 1))) := by
  rw [sel_yes (by rw [Nat.zero_add]; exact h), Nat.zero_add]; simpa using ho
theorem sel0_keep {P : Nat → Bool} {k lo : Nat} {w' : World} {v' : Value} (h : P k = false) (ho : w'.ownsRow lo 3 1 v' (sel P 0 k).length (ints (sel P 0 k))) :
    w'.ownsRow lo 3 1 v' (sel P 0 (k + 1)).length (ints (sel P 0 (k + 1))) := by
  rw [sel_no (by rw [Nat.zero_add]; exact h)]; exact ho

set_option maxHeartbeats 1000000 in
theorem i_places (s t : ByteArray) (w : World) (hv : vt s.data.toList = true) (ht : t.size ≤ maxLen) : Calls Try.prog 58 #[.string s, .string t] w (RetInts (placesL s.data.toList t.data.toList) w) := by
  have hsz := vt_size hv
  have HV := Lib.hid hv; clear hv
  have hs : s.size ≤ maxLen := by unfold maxLen; omega
  go_enter Try.func58, Try.ntmps58
  go_wp2
  go_loopw [5, 6] (fun v _ wr => ∃ k : Nat, k ≤ s.size ∧ wr.ownsRow w.heap.size 3 1 v (sel (atB s.data.toList t.data.toList) 0 k).length (ints (sel (atB s.data.toList t.data.toList) 0 k)) ∧ wr.heap[w.heap.size + 1]? = some (.stringIter s k) ∧ Below w.heap.size w wr) (fun _ _ wr => s.size - wr.iterPos (w.heap.size + 1))
  case atStart =>
    refine ⟨0, by omega, (owns_made w).alloc _, ?_, ((Below.refl _ _).alloc (Nat.le_refl _) _).alloc (by simp) _⟩
    have := World.iter_heap (w.alloc (.cells #[] 3)) s 0
    simpa using this
  case round =>
    obtain ⟨k, hk, hown, hit, hb⟩ := hrel
    have hwr := hb.size
    have hle := sel_le (atB s.data.toList t.data.toList) 0 k
    by_cases hlt : k < s.size
    · have hnx : ∀ ty, (Instr.next (.pointer (some ⟨w.heap.size + 1, 0, none⟩)) true ty).run Try.prog wr = _ := fun ty => Lib.run_next_ascii_at wr (w.heap.size + 1) s k ty hit hlt (vt_ascii HV.out k hlt)
      have hit2 := Lib.iterAt_heap wr (w.heap.size + 1) s k (k + 1) hit
      have hb2 := Lib.below_iterAt hb (k := w.heap.size + 1) (by omega) s (k + 1)
      have hown2 := owns_iterAt hown hit (k + 1)
      have hwr2 := hb2.size
      go_wp2_with fail
      refine (l_prefixAt s t k _ hs ht).mono ?_; rintro e w' ⟨rfl, rfl⟩
      cases hP : atB s.data.toList t.data.toList k
      · go_wp2
        go_roundw
        case rel => exact ⟨k + 1, by omega, sel0_keep hP hown2, hit2, hb2⟩
        case measure => simp [World.iterPos, hit2, hit]; omega
      · go_wp2_with (at_builtin; refine wpList_append_int rfl _ _ rfl w.heap.size _ _ _ (k : Int) hown2 rfl rfl (by omega) (by exact hwr2) ?_; intro v' w2 hown3 hgrow3 hb3)
        have hit3 := iter_grown hown2 hit2 hgrow3
        go_roundw
        case rel => exact ⟨k + 1, by omega, sel0_app hP hown3, hit3, hb2.trans hb3⟩
        case measure => simp [World.iterPos, hit3, hit]; omega
    · have hnx : ∀ ty, (Instr.next (.pointer (some ⟨w.heap.size + 1, 0, none⟩)) true ty).run Try.prog wr = _ := fun ty => Lib.run_next_end_at wr (w.heap.size + 1) s k ty hit hlt
      obtain rfl : k = s.size := by omega
      obtain ⟨pa, ca, rfl, h1, h2, _, _⟩ := Row.of_owns hown
      go_wp2_with fail
      refine (l_ClipInt _ _ _ _ h1 h2).mono ?_; rintro e w' ⟨rfl, rfl⟩
      go_wp2
      go_ret
      unfold placesL
      rw [list_len]
      exact RetInts.clip hown (Nat.le_refl _) (by omega) hb

theorem placesOf_yes {s w : List UInt8} (h1 : vt s = true) (h2 : vt w = true) (h3 : w.isEmpty = false) : placesOf s w = placesL s w := by rw [placesOf, if_pos (by rw [h1, h2, h3]; rfl)]
theorem placesOf_no {s w : List UInt8} (h : vt s = false ∨ vt w = false ∨ w.isEmpty = true) : placesOf s w = [] := by
  rw [placesOf, if_neg]; rcases h with h | h | h <;> simp [h]
theorem emp_list {u : ByteArray} : u.toList.isEmpty = u.data.toList.isEmpty := by rw [Lib.toList_data]

set_option maxHeartbeats 1000000 in
theorem i_PlacesOf (s t : ByteArray) (w : World) (hs : s.size ≤ maxLen) (ht : t.size ≤ maxLen) : Calls Try.prog 19 #[.string s, .string t] w (RetInts (placesOf s.data.toList t.data.toList) w) := by
  cases h1 : vt s.data.toList
  · rw [placesOf_no (.inl h1)]
    go_enter Try.func19, Try.ntmps19
    go_wp2_with fail
    refine (i_ValidText _ _ hs).mono ?_; rintro e w1 ⟨rfl, hb1⟩
    go_wp2
    go_ret
    exact ret_nil _ _ hb1
  · cases h2 : vt t.data.toList
    · rw [placesOf_no (.inr (.inl h2))]
      go_enter Try.func19, Try.ntmps19
      go_wp2_with fail
      refine (i_ValidText _ _ hs).mono ?_; rintro e w1 ⟨rfl, hb1⟩
      go_wp2_with fail
      refine (i_ValidText _ _ ht).mono ?_; rintro e w2 ⟨rfl, hb2⟩
      go_wp2
      go_ret
      exact ret_nil _ _ (hb1.trans (hb2.mono hb1.size))
    · have he := @emp_list t
      cases h3 : t.data.toList.isEmpty
      · rw [h3] at he
        rw [placesOf_yes h1 h2 h3]
        have HV := Lib.hid h1
        go_enter Try.func19, Try.ntmps19
        go_wp2_with fail
        refine (i_ValidText _ _ hs).mono ?_; rintro e w1 ⟨rfl, hb1⟩
        go_wp2_with fail
        refine (i_ValidText _ _ ht).mono ?_; rintro e w2 ⟨rfl, hb2⟩
        go_wp2_with fail
        refine (i_places _ _ _ HV.out ht).mono ?_; rintro e w3 ⟨pa, n, ca, rfl, HN, hle, hr, hb3⟩
        go_wp2
        go_ret
        have s1 := hb1.size; have s2 := hb2.size
        exact ⟨pa, n, ca, rfl, HN, hle, hr.mono (by omega) (Nat.le_refl _), (hb1.trans (hb2.mono (by omega))).trans (hb3.mono (by omega))⟩
      · rw [h3] at he
        rw [placesOf_no (.inr (.inr h3))]
        go_enter Try.func19, Try.ntmps19
        go_wp2_with fail
        refine (i_ValidText _ _ hs).mono ?_; rintro e w1 ⟨rfl, hb1⟩
        go_wp2_with fail
        refine (i_ValidText _ _ ht).mono ?_; rintro e w2 ⟨rfl, hb2⟩
        go_wp2
        go_ret
        exact ret_nil _ _ (hb1.trans (hb2.mono hb1.size))

theorem atB_eq (s t : ByteArray) (k : Nat) : (s.extract k (k + t.size)).data.toList = (s.data.toList.drop k).take t.data.toList.length := by
  rw [Lib.extract_data, list_len, Nat.add_sub_cancel_left]
theorem atB_yes {s t : ByteArray} {k : Nat} (h : ((s.extract k (k + t.size)).toList == t.toList) = true) : atB s.data.toList t.data.toList k = true := by
  have := str_eq h; rw [atB_eq] at this; exact decide_eq_true this
theorem atB_no {s t : ByteArray} {k : Nat} (h : ((s.extract k (k + t.size)).toList == t.toList) = false) : atB s.data.toList t.data.toList k = false := by
  have := str_ne h; rw [atB_eq] at this; exact decide_eq_false this

set_option maxHeartbeats 1000000 in
theorem s_PlacesOf (s t : ByteArray) (w : World) (hs : s.size ≤ maxLen) (ht : t.size ≤ maxLen) : Calls Try.prog 41 #[.string s, .string t] w (RetInts (placesOf s.data.toList t.data.toList) w) := by
  cases h1 : vt s.data.toList
  · rw [placesOf_no (.inl h1)]
    go_enter Try.func41, Try.ntmps41
    go_wp2_with fail
    refine (s_validText _ _ hs).mono ?_; rintro e w1 ⟨rfl, rfl⟩
    go_wp2
    go_ret
    exact ret_nil _ _ (Below.refl _ _)
  · cases h2 : vt t.data.toList
    · rw [placesOf_no (.inr (.inl h2))]
      go_enter Try.func41, Try.ntmps41
      go_wp2_with (go_at_call 56; refine (s_validText _ _ (by assumption)).mono ?_; rintro e w' ⟨rfl, rfl⟩)
      go_ret
      exact ret_nil _ _ (Below.refl _ _)
    · have he := @emp_list t
      have hsz := vt_size h1
      have htz := vt_size h2
      cases h3 : t.data.toList.isEmpty
      · rw [h3] at he
        have ht0 : 0 < t.data.toList.length := by
          cases e : t.data.toList with
          | nil => rw [e] at h3; cases h3
          | cons a l => simp
        rw [placesOf_yes h1 h2 h3]
        go_enter Try.func41, Try.ntmps41
        go_wp2_with (go_at_call 56; refine (s_validText _ _ (by assumption)).mono ?_; rintro e w' ⟨rfl, rfl⟩)
        clear h1 h2 h3 he
        go_loopw [5, 6] (fun v i wr => ∃ k : Nat, k ≤ s.size + 1 ∧ i = .int .i64 k ∧ wr.ownsRow w.heap.size 3 1 v (sel (atB s.data.toList t.data.toList) 0 k).length (ints (sel (atB s.data.toList t.data.toList) 0 k)) ∧ Below w.heap.size w wr) (fun _ i _ => s.size + 1 - (intOf i).toNat)
        case atStart => exact ⟨0, by omega, rfl, owns_made w, (Below.refl _ _).alloc (Nat.le_refl _) _⟩
        case round =>
          obtain ⟨k, hk, rfl, hown, hb⟩ := hrel
          have hwr := hb.size
          have hle := sel_le (atB s.data.toList t.data.toList) 0 k
          by_cases hlt : k + t.size ≤ s.size
          · go_wp2_with (at_builtin; refine wpList_append_int rfl _ _ rfl w.heap.size _ _ _ (k : Int) hown rfl rfl (by omega) (by exact hwr) ?_; intro v' w2 hown3 hgrow3 hb3)
            · have hy := atB_yes ‹_›
              go_roundw
              case rel => exact ⟨k + 1, by omega, by go_num, sel0_app hy hown3, hb.trans hb3⟩
              case measure => simp [intOf]; omega
            · have hy := atB_no ‹_›
              go_roundw
              case rel => exact ⟨k + 1, by omega, by go_num, sel0_keep hy hown, hb⟩
              case measure => simp [intOf]; omega
          · go_wp2
            go_ret
            have e : placesL s.data.toList t.data.toList = sel (atB s.data.toList t.data.toList) 0 k := by
              unfold placesL
              rw [list_len] at ht0
              rcases Nat.le_total k s.size with hks | hks
              · refine sel_tail _ (by rw [list_len]; exact hks) fun i h1 h2 => ?_
                cases hc : atB s.data.toList t.data.toList (0 + i) with
                | false => rfl
                | true => have := atB_lt hc (by rw [list_len]; exact ht0); rw [list_len, list_len] at this; omega
              · rw [list_len]
                refine (sel_tail _ hks fun i h1 h2 => ?_).symm
                cases hc : atB s.data.toList t.data.toList (0 + i) with
                | false => rfl
                | true => have := atB_lt hc (by rw [list_len]; exact ht0); rw [list_len, list_len] at this; omega
            rw [e]
            exact RetInts.of_owns hown (Nat.le_refl _) (by omega) hb
      · rw [h3] at he
        rw [placesOf_no (.inr (.inr h3))]
        go_enter Try.func41, Try.ntmps41
        go_wp2_with (go_at_call 56; refine (s_validText _ _ (by assumption)).mono ?_; rintro e w' ⟨rfl, rfl⟩)
        go_ret
        exact ret_nil _ _ (Below.refl _ _)
end Go.Proofs.Ytokpcdclaifkpaa
