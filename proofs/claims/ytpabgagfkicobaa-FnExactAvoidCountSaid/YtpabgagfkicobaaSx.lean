/- wordsOk: the program's walk. -/
import Derived.Test.YtpabgagfkicobaaSw
namespace Go.Proofs.Ytpabgagfkicobaa
open Go.RowKit
set_option linter.unusedVariables false
set_option maxHeartbeats 1000000 in
theorem i_badWord (z : ByteArray) (w : World) (hz : z.size ≤ maxLen) : Calls Try.prog 53 #[.string z] w fun e w' => e = .returned (.bool (!wOk z)) ∧ Below w.heap.size w w' := by
  have hm := hz; unfold maxLen at hm
  have hw : wOk z = ((decide ((1 : Int) ≤ z.size) && decide ((z.size : Int) ≤ 6)) && vt z.data.toList) := by
    unfold wOk
    rw [Bool.and_comm, show decide ((1 : Int) ≤ z.size) = decide (1 ≤ z.size) by rw [Bool.eq_iff_iff, decide_eq_true_eq, decide_eq_true_eq]; omega, show decide ((z.size : Int) ≤ 6) = decide (z.size ≤ 6) by rw [Bool.eq_iff_iff, decide_eq_true_eq, decide_eq_true_eq]; omega]
  rw [hw]
  clear hw
  cases hd : (decide ((1 : Int) ≤ z.size) && decide ((z.size : Int) ≤ 6)) with
  | false =>
    go_enter Try.func53, Try.ntmps53
    go_wp2_with (first | (go_at_call 34; refine (i_within _ _ _ _).mono ?_; rintro e w' ⟨rfl, rfl⟩; rw [hd]) | (go_at_call 47; refine (i_ValidText z _ hz).mono ?_; rintro e w' ⟨rfl, hb⟩))
    go_ret
    exact ⟨rfl, Below.refl _ _⟩
  | true =>
    cases hv : vt z.data.toList
    all_goals
      go_enter Try.func53, Try.ntmps53
      go_wp2_with (first | (go_at_call 34; refine (i_within _ _ _ _).mono ?_; rintro e w' ⟨rfl, rfl⟩; rw [hd]) | (go_at_call 47; refine (i_ValidText z _ hz).mono ?_; rintro e w' ⟨rfl, hb⟩))
      go_ret
      exact ⟨rfl, hb⟩
set_option maxHeartbeats 1000000 in
theorem i_indexWords (pa : Option Addr) (n ca : Nat) (xs : List ByteArray) (lo hi : Nat) (w : World) (hl : xs.length = n) (hn : n ≤ 1048576) (hsz : ∀ x ∈ xs, x.size ≤ maxLen) (hr : RowF w lo hi pa n (strF xs)) :
    Calls Try.prog 56 #[.slice pa n ca, .func (.func 53) #[] #[]] w fun e w' => ∃ r : Int, e = .returned (.int .i64 r) ∧ Hid (decide (0 ≤ r) = !xs.all wOk) ∧ Below w.heap.size w w' := by
  have HL := Lib.hid hl; have HS := Lib.hid hsz; clear hl hsz
  go_enter Try.func56, Try.ntmps56
  go_wp2
  go_loopw [5, 8] (fun _ i wr => ∃ k : Nat, k ≤ n ∧ i = .int .i64 k ∧ Hid (∀ i, i < k → wOk (xs[i]?.getD ⟨#[]⟩) = true) ∧ Below w.heap.size w wr) (fun _ i _ => n - (intOf i).toNat)
  case atStart => exact ⟨0, Nat.zero_le _, rfl, Lib.hid (fun i hi => by omega), Below.refl _ _⟩
  case round =>
    obtain ⟨k, hk, rfl, HK, hb⟩ := hrel
    by_cases hlt : k < n
    · obtain ⟨g, rfl, _, _, c0, _⟩ := (hr.kept hb) k hlt
      have hzs := str_size HS.out k
      unfold strF at c0
      obtain ⟨z, hz⟩ : ∃ z, z = xs[k]?.getD ⟨#[]⟩ := ⟨_, rfl⟩
      rw [← hz] at c0 hzs
      have HZ := Lib.hid hz; clear hz
      have e1 : (k : Int) < n := by omega
      go_wp2_with fail
      refine (i_badWord z _ hzs).mono ?_; rintro e w2 ⟨rfl, hb2⟩
      have hB2 := below_then hb hb2
      clear hb hb2
      cases hw : wOk z with
      | false =>
        have ha : xs.all wOk = false := by
          have hkl : k < xs.length := by rw [HL.out]; exact hlt
          rw [List.all_eq_false]
          refine ⟨_, List.getElem_mem hkl, ?_⟩
          have := HZ.out
          rw [List.getElem?_eq_getElem hkl] at this
          rw [← show z = xs[k] from this, hw]; decide
        have HA := Lib.hid ha
        clear ha
        go_wp2
        go_ret
        exact ⟨k, rfl, Lib.hid (by rw [HA.out, decide_eq_true (by omega)]; rfl), hB2⟩
      | true =>
        have HW := Lib.hid hw
        go_wp2
        go_roundw
        case rel => exact ⟨k + 1, by omega, by go_num, Lib.hid (fun i hi => by
            by_cases e : i = k
            · subst e; rw [← HZ.out]; exact HW.out
            · exact HK.out i (by omega)), hB2⟩
        case measure => simp [intOf]; omega
    · obtain rfl : k = n := by omega
      have ha : xs.all wOk = true := by
        rw [List.all_eq_true]
        intro x hx
        obtain ⟨i, hi, e⟩ := List.getElem_of_mem hx
        have := HK.out i (by have := HL.out; omega)
        rw [List.getElem?_eq_getElem hi] at this
        rw [← e]; exact this
      have HA := Lib.hid ha; clear ha
      go_wp2
      go_ret
      exact ⟨-1, rfl, Lib.hid (by rw [HA.out]; rfl), hb⟩
set_option maxHeartbeats 1000000 in
theorem i_anyBad (pa : Option Addr) (n ca : Nat) (xs : List ByteArray) (lo hi : Nat) (w : World) (hl : xs.length = n) (hn : n ≤ 1048576) (hsz : ∀ x ∈ xs, x.size ≤ maxLen) (hr : RowF w lo hi pa n (strF xs)) :
    Calls Try.prog 36 #[.slice pa n ca, .func (.func 53) #[] #[]] w fun e w' => e = .returned (.bool (!xs.all wOk)) ∧ Below w.heap.size w w' := by
  go_enter Try.func36, Try.ntmps36
  go_wp2_with fail
  refine (i_indexWords pa n ca xs lo hi _ hl hn hsz hr).mono ?_; rintro e w2 ⟨r, rfl, HR, hb⟩
  go_wp2
  go_ret
  exact ⟨by rw [← HR.out]; rfl, hb⟩
set_option maxHeartbeats 1000000 in
theorem i_wordsOk (pa : Option Addr) (n ca : Nat) (xs : List ByteArray) (lo hi : Nat) (w : World) (hl : xs.length = n) (hn : n ≤ 1048576) (hsz : ∀ x ∈ xs, x.size ≤ maxLen) (hr : RowF w lo hi pa n (strF xs)) :
    Calls Try.prog 29 #[.slice pa n ca] w fun e w' => e = .returned (.bool (wsOk xs)) ∧ Below w.heap.size w w' := by
  have HL := Lib.hid hl
  by_cases h6 : n ≤ 6
  · have hw : wsOk xs = xs.all wOk := by unfold wsOk; rw [hl, decide_eq_true h6, Bool.and_true]
    have HW := Lib.hid hw
    clear hw
    go_enter Try.func29, Try.ntmps29
    go_wp2_with (go_at_call 36; refine (i_anyBad pa n ca xs lo hi _ HL.out hn hsz hr).mono ?_; rintro e w2 ⟨rfl, hb⟩)
    go_ret
    exact ⟨by rw [HW.out]; cases xs.all wOk <;> rfl, hb⟩
  · have hw : wsOk xs = false := by unfold wsOk; rw [hl, decide_eq_false h6, Bool.and_false]
    have HW := Lib.hid hw
    have h7 : ¬ (n : Int) ≤ 6 := by omega
    clear hw
    go_enter Try.func29, Try.ntmps29
    go_wp2_with fail
    go_ret
    exact ⟨by rw [HW.out]; rfl, Below.refl _ _⟩
end Go.Proofs.Ytpabgagfkicobaa
