/- IsSuper: the reference's walk. -/
import Derived.Test.YtpabgagfkicobaaSx
import Derived.Test.YtpabgagfkicobaaH
namespace Go.Proofs.Ytpabgagfkicobaa
open Go.RowKit
set_option linter.unusedVariables false
def allInB (s : ByteArray) (xs : List ByteArray) : Bool := xs.all fun x => hasB s.data.toList x.data.toList
set_option maxHeartbeats 1000000 in
theorem s_allIn (s : ByteArray) (pa : Option Addr) (n ca : Nat) (xs : List ByteArray) (lo hi : Nat) (w : World) (hs : s.size ≤ 1048576) (hl : xs.length = n) (hn : n ≤ 1048576) (hsz : ∀ i : Nat, (xs[i]?.getD (⟨#[]⟩ : ByteArray)).size ≤ 1048576) (hr : RowF w lo hi pa n (strF xs)) :
    Calls Try.prog 49 #[.string s, .slice pa n ca] w fun e w' => e = .returned (.bool (allInB s xs)) ∧ Still w w' := by
  have HL := Lib.hid hl; have HS := Lib.hid hsz; clear hl hsz
  go_enter Try.func49, Try.ntmps49
  go_wp2
  go_loopw [5] (fun i wr => ∃ k : Nat, k ≤ n ∧ i = .int .i64 k ∧ Hid (∀ i, i < k → hasB s.data.toList (xs[i]?.getD ⟨#[]⟩).data.toList = true) ∧ Still w wr) (fun i _ => n - (intOf i).toNat)
  case atStart => exact ⟨0, Nat.zero_le _, rfl, Lib.hid (fun i hi => by omega), Still.refl _⟩
  case round =>
    obtain ⟨k, hk, rfl, HK, hst⟩ := hrel
    by_cases hlt : k < n
    · obtain ⟨g, rfl, _, _, c0, _⟩ := (hr.kept hst.1) k hlt
      have hzs := HS.out k
      unfold strF at c0
      obtain ⟨z, hz⟩ : ∃ z, z = xs[k]?.getD ⟨#[]⟩ := ⟨_, rfl⟩
      rw [← hz] at c0 hzs
      have HZ := Lib.hid hz; clear hz
      have e1 : (k : Int) < n := by omega
      go_wp2_with fail
      refine (s_has s z _ hs hzs).mono ?_; rintro e w2 ⟨rfl, rfl⟩
      cases hw : hasB s.data.toList z.data.toList with
      | false =>
        have ha : allInB s xs = false := by
          have hkl : k < xs.length := by rw [HL.out]; exact hlt
          unfold allInB
          rw [List.all_eq_false]
          refine ⟨_, List.getElem_mem hkl, ?_⟩
          have := HZ.out
          rw [List.getElem?_eq_getElem hkl] at this
          rw [← show z = xs[k] from this, hw]; decide
        have HA := Lib.hid ha
        clear ha
        go_wp2
        go_ret
        exact ⟨by rw [HA.out]; rfl, hst⟩
      | true =>
        have HW := Lib.hid hw
        go_wp2
        go_roundw
        case rel => exact ⟨k + 1, by omega, by go_num, Lib.hid (fun i hi => by
            by_cases e : i = k
            · subst e; rw [← HZ.out]; exact HW.out
            · exact HK.out i (by omega)), hst⟩
        case measure => simp [intOf]; omega
    · obtain rfl : k = n := by omega
      have ha : allInB s xs = true := by
        unfold allInB
        rw [List.all_eq_true]
        intro x hx
        obtain ⟨i, hi, e⟩ := List.getElem_of_mem hx
        have := HK.out i (by have := HL.out; omega)
        rw [List.getElem?_eq_getElem hi] at this
        rw [← e]; exact this
      have HA := Lib.hid ha; clear ha
      go_wp2
      go_ret
      exact ⟨by rw [HA.out]; rfl, hst⟩
def superB (s : ByteArray) (xs : List ByteArray) : Bool := vt s.data.toList && (wsOk xs && allInB s xs)
set_option maxHeartbeats 1000000 in
theorem s_IsSuper (s : ByteArray) (pa : Option Addr) (n ca : Nat) (xs : List ByteArray) (lo hi : Nat) (w : World) (hs : s.size ≤ 1048576) (hl : xs.length = n) (hn : n ≤ 1048576) (hsz : ∀ i : Nat, (xs[i]?.getD (⟨#[]⟩ : ByteArray)).size ≤ 1048576) (hsx : ∀ x ∈ xs, x.size ≤ maxLen) (hr : RowF w lo hi pa n (strF xs)) :
    Calls Try.prog 25 #[.string s, .slice pa n ca] w fun e w' => e = .returned (.bool (superB s xs)) ∧ Still w w' := by
  have HL := Lib.hid hl; have HS := Lib.hid hsz; have HX := Lib.hid hsx; clear hl hsz hsx
  have hsm : s.size ≤ maxLen := by unfold maxLen; omega
  unfold superB
  go_enter Try.func25, Try.ntmps25
  go_wp2_with fail
  refine (s_validText s _ hsm).mono ?_; rintro e w1 ⟨rfl, rfl⟩
  cases hv : vt s.data.toList with
  | false =>
    go_wp2_with fail
    go_ret
    exact ⟨by rw [hv]; rfl, Still.refl _⟩
  | true =>
    go_wp2_with fail
    refine (s_validWords pa n ca xs lo hi _ HL.out hn HX.out hr).mono ?_; rintro e w2 ⟨rfl, hst⟩
    have hr2 := hr.kept hst.1
    cases hw : wsOk xs with
    | false =>
      go_wp2_with fail
      go_ret
      exact ⟨by rw [hv, hw]; rfl, hst⟩
    | true =>
      go_wp2_with fail
      refine (s_allIn s pa n ca xs lo hi _ hs HL.out hn HS.out hr2).mono ?_; rintro e w3 ⟨rfl, hst2⟩
      go_wp2
      go_ret
      exact ⟨by rw [hv, hw]; rfl, hst.trans hst2⟩
end Go.Proofs.Ytpabgagfkicobaa
