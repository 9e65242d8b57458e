/- The laws' own helpers over rows of ints: equalInts, isIn, ascends, divisor. -/
import Derived.Test.YtokpcdclaifkpaaWt1
namespace Go.Proofs.Ytokpcdclaifkpaa
open Go.RowKit
set_option linter.unusedVariables false

set_option maxHeartbeats 400000 in
theorem l_equalInts (pa pb : Option Addr) (n ca cb : Nat) (xs : List Int) (la ha lb hb : Nat) (w : World) (hn : xs.length = n) (hle : n ≤ 1048576)
    (ra : Row w la ha pa (ints xs)) (rb : Row w lb hb pb (ints xs)) :
    Calls Try.prog 31 #[.slice pa n ca, .slice pb n cb] w fun e w' => e = .returned (.bool true) ∧ Below w.heap.size w w' := by
  have HN := Lib.hid hn; clear hn
  go_enter Try.func31, Try.ntmps31
  go_wp2
  go_loopw [5] (fun i wr => ∃ k : Nat, k ≤ n ∧ i = .int .i64 k ∧ Below w.heap.size w wr) (fun i _ => n - (intOf i).toNat)
  case atStart => exact ⟨0, Nat.zero_le _, rfl, Below.refl _ _⟩
  case round =>
    obtain ⟨k, hk, rfl, hb⟩ := hrel
    by_cases hlt : k < n
    · obtain ⟨ga, rfl, _, _, hca, _⟩ := (ra.kept hb).getInt (i := k) (by rw [HN.out]; exact hlt)
      obtain ⟨gb, rfl, _, _, hcb, _⟩ := (rb.kept hb).getInt (i := k) (by rw [HN.out]; exact hlt)
      go_wp2
      go_quiet (fail)
      go_wp2
      go_roundw
      case rel => exact ⟨k + 1, by omega, by go_num, below_drewN hb _⟩
      case measure => simp [intOf]; omega
    · go_wp2
      go_ret
      exact ⟨rfl, hb⟩

def inB (xs : List Int) (x : Int) : Bool := xs.contains x
theorem inB_at {xs : List Int} {x : Int} {k : Nat} (hk : k < xs.length) (h : xs[k]?.getD 0 = x) : inB xs x = true := by
  unfold inB; rw [List.contains_iff_mem, ← h, List.getElem?_eq_getElem hk]; exact List.getElem_mem _
theorem inB_none {xs : List Int} {x : Int} {n : Nat} (hn : xs.length = n) (h : ∀ k, k < n → xs[k]?.getD 0 ≠ x) : inB xs x = false := by
  cases hc : inB xs x with
  | false => rfl
  | true =>
    unfold inB at hc; rw [List.contains_iff_mem] at hc
    obtain ⟨i, hi, he⟩ := List.getElem_of_mem hc
    exact absurd (by rw [List.getElem?_eq_getElem hi]; exact he) (h i (by omega))
set_option maxHeartbeats 400000 in
theorem l_isIn (pa : Option Addr) (n ca : Nat) (xs : List Int) (x : Int) (la ha : Nat) (w : World) (hn : xs.length = n) (hle : n ≤ 1048576) (ra : Row w la ha pa (ints xs)) :
    Calls Try.prog 34 #[.slice pa n ca, .int .i64 x] w fun e w' => e = .returned (.bool (inB xs x)) ∧ w = w' := by
  have HN := Lib.hid hn; clear hn
  go_enter Try.func34, Try.ntmps34
  go_wp2
  go_loop [5] (fun i => ∃ k : Nat, k ≤ n ∧ i = .int .i64 k ∧ ∀ j, j < k → xs[j]?.getD 0 ≠ x) (fun i => n - (intOf i).toNat)
  case atStart => exact ⟨0, Nat.zero_le _, rfl, fun j hj => by omega⟩
  case round =>
    obtain ⟨k, hk, rfl, hno⟩ := hrel
    have HO := Lib.hid hno; clear hno
    by_cases hlt : k < n
    · obtain ⟨ga, rfl, _, _, hca, _⟩ := ra.getInt (i := k) (by rw [HN.out]; exact hlt)
      obtain ⟨y, hy⟩ : ∃ y, y = xs[k]?.getD 0 := ⟨_, rfl⟩
      rw [← hy] at hca
      have HY := Lib.hid hy; clear hy
      by_cases hxy : y = x
      · subst hxy
        go_wp2
        go_ret
        exact ⟨ret_bool (inB_at (by rw [HN.out]; exact hlt) HY.out.symm).symm, rfl⟩
      · have hne : (y == x) = false := beq_eq_false_iff_ne.2 hxy
        go_wp2
        go_round
        case rel => exact ⟨k + 1, by omega, by go_num, fun j hj => by
          by_cases e : j = k
          · rw [e, ← HY.out]; exact hxy
          · exact HO.out j (by omega)⟩
        case measure => simp [intOf]; omega
    · obtain rfl : k = n := by omega
      go_wp2
      go_ret
      exact ⟨ret_bool (inB_none HN.out HO.out).symm, rfl⟩

def Asc (xs : List Int) : Prop := ∀ i, i + 1 < xs.length → xs[i]?.getD 0 < xs[i + 1]?.getD 0
set_option maxHeartbeats 400000 in
theorem l_ascends (pa : Option Addr) (n ca : Nat) (xs : List Int) (la ha : Nat) (w : World) (hn : xs.length = n) (hle : n ≤ 1048576) (ra : Row w la ha pa (ints xs)) (hasc : Asc xs) :
    Calls Try.prog 35 #[.slice pa n ca] w fun e w' => e = .returned (.bool true) ∧ Below w.heap.size w w' := by
  have HN := Lib.hid hn; clear hn
  have HA := Lib.hid hasc; clear hasc
  go_enter Try.func35, Try.ntmps35
  go_wp2
  go_loopw [3] (fun i wr => ∃ k : Nat, k ≤ n + 1 ∧ 1 ≤ k ∧ i = .int .i64 k ∧ Below w.heap.size w wr) (fun i _ => n - (intOf i).toNat)
  case atStart => exact ⟨1, by omega, by omega, rfl, Below.refl _ _⟩
  case round =>
    obtain ⟨k, hk, hk1, rfl, hb⟩ := hrel
    by_cases hlt : k < n
    · obtain ⟨m, rfl⟩ : ∃ m, k = m + 1 := ⟨k - 1, by omega⟩
      have hlt2 := HA.out m (by rw [HN.out]; exact hlt)
      obtain ⟨ga, rfl, _, _, hca, _⟩ := (ra.kept hb).getInt (i := m + 1) (by rw [HN.out]; exact hlt)
      obtain ⟨gb, e2, _, _, hcb, _⟩ := (ra.kept hb).getInt (i := m) (by rw [HN.out]; omega)
      cases e2
      obtain ⟨y, hy⟩ : ∃ y, y = xs[m]?.getD 0 := ⟨_, rfl⟩
      obtain ⟨z, hz⟩ : ∃ z, z = xs[m + 1]?.getD 0 := ⟨_, rfl⟩
      rw [← hy] at hcb hlt2
      rw [← hz] at hca hlt2
      clear hy hz
      have hd : decide (z ≤ y) = false := decide_eq_false (by omega)
      have e1 : IntKind.i64.wrap ((m : Int) + 1 - 1) = m := by rw [show (m : Int) + 1 - 1 = m by omega]; exact IntWalk.i64_in _ (by omega)
      have e3 : (m : Int) + 1 - 1 = m := by omega
      have e4 : ((m : Int) + 1).toNat = m + 1 := by omega
      have e5 : (m : Int) + 1 < n := by omega
      have e6 : (m : Int) < n := by omega
      have e7 : (0 : Int) ≤ (m : Int) + 1 := by omega
      have e8 : m < n := by omega
      go_wp2
      go_quiet (fail)
      clear e1 e3
      go_wp2
      go_roundw
      case rel => exact ⟨m + 1 + 1, by omega, by omega, by go_num, below_drewN hb _⟩
      case measure => simp [intOf]; omega
    · go_wp2
      go_ret
      exact ⟨rfl, hb⟩

theorem sel_asc (P : Nat → Bool) (a m : Nat) : Asc (sel P a m) := by
  induction m with
  | zero => intro i hi; simp [sel] at hi
  | succ m ih =>
    cases hP : P (a + m) with
    | false => rw [sel_no hP]; exact ih
    | true =>
      rw [sel_yes hP]
      intro i hi
      rw [List.length_append, List.length_singleton] at hi
      by_cases h1 : i + 1 < (sel P a m).length
      · rw [List.getElem?_append_left (by omega), List.getElem?_append_left h1]; exact ih i h1
      · rw [List.getElem?_append_left (by omega), List.getElem?_append_right (by omega)]
        have e : i + 1 - (sel P a m).length = 0 := by omega
        rw [e]
        have := sel_mem (List.getElem_mem (l := sel P a m) (n := i) (by omega))
        rw [List.getElem?_eq_getElem (by omega)]; simp; omega
set_option maxHeartbeats 400000 in
theorem l_divisor (a b : Nat) (w : World) (ha : a ≤ 1048576) (hb : b ≤ 1048576) :
    Calls Try.prog 33 #[.int .i64 a, .int .i64 b] w fun e w' => e = .returned (.int .i64 (Nat.gcd a b : Nat)) ∧ w = w' := by
  obtain ⟨g, hg⟩ : ∃ g, g = Nat.gcd a b := ⟨_, rfl⟩
  rw [← hg]
  have HG := Lib.hid hg; clear hg
  go_enter Try.func33, Try.ntmps33
  go_wp2
  go_loop [0, 1] (fun x y => ∃ p q : Nat, p ≤ 1048576 ∧ q ≤ 1048576 ∧ x = .int .i64 p ∧ y = .int .i64 q ∧ Nat.gcd p q = g) (fun _ y => (intOf y).toNat)
  case atStart => exact ⟨a, b, ha, hb, rfl, rfl, HG.out.symm⟩
  case round =>
    obtain ⟨p, q, hp, hq, rfl, rfl, hpq⟩ := hrel
    have HP := Lib.hid hpq; clear hpq
    by_cases hq0 : 0 < q
    · have hm : p % q < q := Nat.mod_lt _ hq0
      go_wp2
      go_round
      case rel => exact ⟨q, p % q, by omega, by omega, rfl, by go_num, by rw [Nat.gcd_comm, ← Nat.gcd_rec, Nat.gcd_comm]; exact HP.out⟩
      case measure => simp [intOf]; omega
    · obtain rfl : q = 0 := by omega
      go_wp2
      go_ret
      exact ⟨ret_int (by rw [← HP.out, Nat.gcd_zero_right]), rfl⟩
end Go.Proofs.Ytokpcdclaifkpaa
