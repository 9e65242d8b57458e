/- AvoidCount: the plain law and the reference's walk. -/
import Derived.Test.YtpabgagfkicobaaRw
namespace Go.Proofs.Ytpabgagfkicobaa
open Go.RowKit
set_option linter.unusedVariables false

/-- Some word stands in s. -/
def avB (s : List UInt8) (xs : List ByteArray) : Bool := xs.any fun x => hasB s x.data.toList
/-- Some word stands at the end of s. -/
def sufB (s : List UInt8) (xs : List ByteArray) : Bool := xs.any fun x => Lib.hasSuffix s x.data.toList
/-- The letter at place x. -/
def chrB (x : Nat) : UInt8 := UInt8.ofNat (97 + x)
def sumTo (f : Nat → Nat) : Nat → Nat
  | 0 => 0
  | k + 1 => sumTo f k + f k
def cntA (xs : List ByteArray) (k : Nat) : Nat → List UInt8 → Nat
  | 0, s => if avB s xs then 0 else 1
  | d + 1, s => if avB s xs then 0 else sumTo (fun x => cntA xs k d (s ++ [chrB x])) k
theorem sumTo_le (f : Nat → Nat) (B : Nat) (h : ∀ x, f x ≤ B) : ∀ k, sumTo f k ≤ k * B := by
  intro k
  induction k with
  | zero => exact Nat.zero_le _
  | succ k ih => rw [sumTo, Nat.succ_mul]; have := h k; omega
theorem cntA_pow (xs : List ByteArray) (k : Nat) (hk : k ≤ 4) : ∀ d s, cntA xs k d s ≤ 4 ^ d := by
  intro d
  induction d with
  | zero => intro s; unfold cntA; split <;> simp
  | succ d ih =>
    intro s
    unfold cntA; split
    · exact Nat.zero_le _
    · have h1 := sumTo_le (fun x => cntA xs k d (s ++ [chrB x])) (4 ^ d) (fun x => ih _) k
      have h2 : k * 4 ^ d ≤ 4 * 4 ^ d := Nat.mul_le_mul_right _ hk
      rw [Nat.pow_succ]; omega
theorem pow4_le {d : Nat} (hd : d ≤ 6) : 4 ^ d ≤ 4096 := Nat.pow_le_pow_right (by decide) hd
theorem cntA_le {xs : List ByteArray} {k d : Nat} (hk : k ≤ 4) (hd : d ≤ 6) (s : List UInt8) : cntA xs k d s ≤ 4096 := Nat.le_trans (cntA_pow xs k hk d s) (pow4_le hd)
theorem sumTo_cnt {xs : List ByteArray} {k d : Nat} (hk : k ≤ 4) (hd : d ≤ 6) (s : List UInt8) {j : Nat} (hj : j ≤ 4) : sumTo (fun x => cntA xs k d (s ++ [chrB x])) j ≤ 16384 := by
  have h1 := sumTo_le (fun x => cntA xs k d (s ++ [chrB x])) 4096 (fun x => cntA_le hk hd _) j
  have h2 : j * 4096 ≤ 4 * 4096 := Nat.mul_le_mul_right _ hj
  omega
theorem cntA_bad {xs : List ByteArray} {k d : Nat} {s : List UInt8} (h : avB s xs = true) : cntA xs k d s = 0 := by cases d <;> (unfold cntA; rw [if_pos h])
theorem cntA_zero {xs : List ByteArray} {k : Nat} {s : List UInt8} (h : avB s xs = false) : cntA xs k 0 s = 1 := by unfold cntA; rw [if_neg (by rw [h]; decide)]
theorem cntA_succ {xs : List ByteArray} {k d : Nat} {s : List UInt8} (h : avB s xs = false) : cntA xs k (d + 1) s = sumTo (fun x => cntA xs k d (s ++ [chrB x])) k := by
  show (if avB s xs then 0 else _) = _
  rw [if_neg (by rw [h]; decide)]

/-- One letter. -/
def chr1 (x : Nat) : ByteArray := ⟨#[chrB x]⟩
theorem chr1_app (s : ByteArray) (x : Nat) : (s ++ chr1 x).data.toList = s.data.toList ++ [chrB x] := by
  rw [ByteArray.data_append, Array.toList_append]; rfl
theorem chr1_size (s : ByteArray) (x : Nat) : (s ++ chr1 x).size = s.size + 1 := by rw [ByteArray.size_append]; rfl
theorem abcd_cut {x : Nat} (h : x < 4) : (⟨#[97, 98, 99, 100]⟩ : ByteArray).extract x (x + 1) = chr1 x := by
  match x, h with
  | 0, _ => rfl
  | 1, _ => rfl
  | 2, _ => rfl
  | 3, _ => rfl

/-! A word stands in a text that has one letter more where it stood before, or at the end. -/
theorem atB_iff (s w : List UInt8) (i : Nat) : atB s w i = true ↔ w <+: s.drop i := by
  unfold atB; rw [decide_eq_true_eq, List.prefix_iff_eq_take]; exact ⟨Eq.symm, Eq.symm⟩
theorem hasB_infix (s w : List UInt8) : hasB s w = true ↔ w <:+: s := by
  rw [hasB_iff, List.infix_iff_prefix_suffix]
  constructor
  · rintro ⟨i, _, h⟩; exact ⟨s.drop i, (atB_iff _ _ _).1 h, List.drop_suffix i s⟩
  · rintro ⟨t, h1, h2⟩
    refine ⟨s.length - t.length, by omega, (atB_iff _ _ _).2 ?_⟩
    rw [← List.suffix_iff_eq_drop.1 h2]; exact h1
theorem hasB_push (s w : List UInt8) (c : UInt8) : hasB (s ++ [c]) w = (Lib.hasSuffix (s ++ [c]) w || hasB s w) := by
  rw [Bool.eq_iff_iff, Bool.or_eq_true, hasB_infix, hasB_infix, List.infix_concat_iff]
  unfold Lib.hasSuffix
  rw [List.isSuffixOf_iff_suffix]
theorem avB_push {s : List UInt8} {xs : List ByteArray} (c : UInt8) (h : avB s xs = false) : avB (s ++ [c]) xs = sufB (s ++ [c]) xs := by
  unfold avB sufB at *
  rw [List.any_eq_false] at h
  induction xs with
  | nil => rfl
  | cons x xs ih =>
    rw [List.any_cons, List.any_cons, ih (fun y hy => h y (List.mem_cons_of_mem _ hy)), hasB_push]
    have := h x (List.mem_cons_self ..)
    rw [Bool.not_eq_true] at this
    rw [this, Bool.or_false]
theorem avB_nil {xs : List ByteArray} (h : wsOk xs = true) : avB [] xs = sufB [] xs := by
  unfold wsOk at h; rw [Bool.and_eq_true, List.all_eq_true] at h
  have hne : ∀ x ∈ xs, x.data.toList ≠ [] := fun x hx e => by
    have := h.1 x hx
    unfold wOk at this
    rw [Bool.and_eq_true, Bool.and_eq_true, decide_eq_true_eq] at this
    have := this.2.1
    rw [← list_len, e] at this; simp at this
  unfold avB sufB
  clear h
  induction xs with
  | nil => rfl
  | cons x xs ih =>
    rw [List.any_cons, List.any_cons, ih (fun y hy => hne y (List.mem_cons_of_mem _ hy))]
    congr 1
    rw [Bool.eq_iff_iff, hasB_infix]
    unfold Lib.hasSuffix
    rw [List.isSuffixOf_iff_suffix, List.infix_nil, List.suffix_nil]

def avoidN (n k : Int) (xs : List ByteArray) : Int :=
  if (decide (0 ≤ n) && decide (n ≤ 6)) && ((decide (1 ≤ k) && decide (k ≤ 4)) && wsOk xs) then (cntA xs k.toNat n.toNat [] : Nat) else -1

set_option maxHeartbeats 1000000 in
theorem s_avoids (s : ByteArray) (pa : Option Addr) (n ca : Nat) (xs : List ByteArray) (lo hi : Nat) (w : World) (hs : s.size ≤ 1048576) (hl : xs.length = n) (hn : n ≤ 1048576) (hsz : ∀ i : Nat, (wAt xs i).size ≤ 1048576) (hr : RowF w lo hi pa n (strF xs)) :
    Calls Try.prog 55 #[.string s, .slice pa n ca] w fun e w' => e = .returned (.bool (!avB s.data.toList xs)) ∧ w = w' := by
  have HL := Lib.hid hl; have HS := Lib.hid hsz; clear hl hsz
  go_enter Try.func55, Try.ntmps55
  go_wp2
  go_loop [5] (fun i => ∃ k : Nat, k ≤ n ∧ i = .int .i64 k ∧ Hid (∀ i, i < k → hasB s.data.toList (wAt xs i).data.toList = false)) (fun i => n - (intOf i).toNat)
  case atStart => exact ⟨0, Nat.zero_le _, rfl, Lib.hid (fun i hi => by omega)⟩
  case round =>
    obtain ⟨k, hk, rfl, HK⟩ := hrel
    by_cases hlt : k < n
    · obtain ⟨g, rfl, _, _, c0, _⟩ := hr k hlt
      have hzs := HS.out k
      unfold strF at c0
      unfold wAt at hzs
      obtain ⟨z, hz⟩ : ∃ z, z = xs[k]?.getD ⟨#[]⟩ := ⟨_, rfl⟩
      rw [← hz] at c0 hzs
      have HZ : Hid (wAt xs k = z) := Lib.hid hz.symm
      clear hz
      have e1 : (k : Int) < n := by omega
      go_wp2_with fail
      refine (s_has s z _ hs hzs).mono ?_; rintro e w2 ⟨rfl, rfl⟩
      cases hw : hasB s.data.toList z.data.toList with
      | true =>
        have ha : avB s.data.toList xs = true := by
          have hkl : k < xs.length := by rw [HL.out]; exact hlt
          unfold avB
          rw [List.any_eq_true]
          refine ⟨_, List.getElem_mem hkl, ?_⟩
          have := HZ.out
          unfold wAt at this
          rw [List.getElem?_eq_getElem hkl] at this
          rw [show xs[k] = z from this, hw]
        have HA := Lib.hid ha
        clear ha
        go_wp2
        go_ret
        exact ⟨by rw [HA.out]; rfl, rfl⟩
      | false =>
        have HW := Lib.hid hw
        go_wp2
        go_round
        case rel => exact ⟨k + 1, by omega, by go_num, Lib.hid (fun i hi => by
            by_cases e : i = k
            · subst e; rw [HZ.out]; exact HW.out
            · exact HK.out i (by omega))⟩
        case measure => simp [intOf]; omega
    · obtain rfl : k = n := by omega
      have ha : avB s.data.toList xs = false := by
        unfold avB
        rw [List.any_eq_false]
        intro x hx
        obtain ⟨i, hi, e⟩ := List.getElem_of_mem hx
        have := HK.out i (by have := HL.out; omega)
        unfold wAt at this
        rw [List.getElem?_eq_getElem hi] at this
        rw [← e, show hasB s.data.toList xs[i].data.toList = false from this]; decide
      have HA := Lib.hid ha; clear ha
      go_wp2
      go_ret
      exact ⟨by rw [HA.out]; rfl, rfl⟩
set_option maxHeartbeats 1000000 in
theorem s_avoidFrom (pa : Option Addr) (m ca : Nat) (xs : List ByteArray) (lo hi N K : Nat) (w : World) (hl : xs.length = m) (hm : m ≤ 1048576) (hsz : ∀ i : Nat, (wAt xs i).size ≤ 1048576) (hr : RowF w lo hi pa m (strF xs)) (hN : N ≤ 6) (hK : K ≤ 4) :
    ∀ (d : Nat) (s : ByteArray), s.size + d = N → Calls Try.prog 33 #[.string s, .int .i64 N, .int .i64 K, .slice pa m ca] w fun e w' => e = .returned (.int .i64 (cntA xs K d s.data.toList : Nat)) ∧ w = w' := by
  have HL := Lib.hid hl; have HS := Lib.hid hsz; have HR := Lib.hid hr; clear hl hsz hr
  intro d
  induction d with
  | zero =>
    intro s hsd
    cases ha : avB s.data.toList xs with
    | true =>
      have HC := Lib.hid (cntA_bad (k := K) (d := 0) ha)
      go_enter Try.func33, Try.ntmps33
      go_wp2_with fail
      refine (s_avoids s pa m ca xs lo hi _ (by omega) HL.out hm HS.out HR.out).mono ?_; rintro e w2 ⟨rfl, rfl⟩
      rw [ha]
      go_wp2_with fail
      go_ret
      exact ⟨by rw [HC.out]; rfl, rfl⟩
    | false =>
      have HC := Lib.hid (cntA_zero (k := K) ha)
      have hq : ((s.size : Int) == (N : Int)) = true := by rw [beq_iff_eq]; omega
      go_enter Try.func33, Try.ntmps33
      go_wp2_with fail
      refine (s_avoids s pa m ca xs lo hi _ (by omega) HL.out hm HS.out HR.out).mono ?_; rintro e w2 ⟨rfl, rfl⟩
      rw [ha]
      have HSD := Lib.hid hsd
      clear hsd
      go_wp2_with fail
      go_ret
      exact ⟨by rw [HC.out]; rfl, rfl⟩
  | succ d ih =>
    intro s hsd
    have HIH := Lib.hid ih; clear ih
    cases ha : avB s.data.toList xs with
    | true =>
      have HC := Lib.hid (cntA_bad (k := K) (d := d + 1) ha)
      go_enter Try.func33, Try.ntmps33
      go_wp2_with fail
      refine (s_avoids s pa m ca xs lo hi _ (by omega) HL.out hm HS.out HR.out).mono ?_; rintro e w2 ⟨rfl, rfl⟩
      rw [ha]
      go_wp2_with fail
      go_ret
      exact ⟨by rw [HC.out]; rfl, rfl⟩
    | false =>
      have HC := Lib.hid (cntA_succ (k := K) (d := d) ha)
      have hq : ((s.size : Int) == (N : Int)) = false := by rw [beq_eq_false_iff_ne]; omega
      go_enter Try.func33, Try.ntmps33
      go_wp2_with fail
      refine (s_avoids s pa m ca xs lo hi _ (by omega) HL.out hm HS.out HR.out).mono ?_; rintro e w2 ⟨rfl, rfl⟩
      rw [ha]
      have hs6 : s.size ≤ 6 := by omega
      have hd6 : d ≤ 6 := by omega
      have HSD := Lib.hid hsd
      clear hsd
      go_wp2_with fail
      go_loop [9, 10] (fun z j => ∃ x : Nat, x ≤ K ∧ j = .int .i64 x ∧ z = .int .i64 (sumTo (fun x => cntA xs K d (s.data.toList ++ [chrB x])) x : Nat)) (fun _ j => K - (intOf j).toNat)
      case atStart => exact ⟨0, Nat.zero_le _, rfl, rfl⟩
      case round =>
        obtain ⟨x, hx, rfl, rfl⟩ := hrel
        by_cases hlt : x < K
        · have hsum := sumTo_cnt (xs := xs) hK hd6 s.data.toList (j := x) (by omega)
          have hone := cntA_le (xs := xs) hK hd6 (s.data.toList ++ [chrB x])
          obtain ⟨v, hv⟩ : ∃ v, v = sumTo (fun x => cntA xs K d (s.data.toList ++ [chrB x])) x := ⟨_, rfl⟩
          obtain ⟨c, hc⟩ : ∃ c, c = cntA xs K d (s.data.toList ++ [chrB x]) := ⟨_, rfl⟩
          have HV : Hid (sumTo (fun x => cntA xs K d (s.data.toList ++ [chrB x])) (x + 1) = v + c) := Lib.hid (by rw [hv, hc]; rfl)
          rw [← hv] at hsum; rw [← hc] at hone; rw [← hv]
          have HCC := Lib.hid hc
          clear hv hc
          have e1 : (x : Int) < K := by omega
          have hx4 : x < 4 := by omega
          have hcut := abcd_cut hx4
          have e2 : ((x : Int) + 1).toNat = x + 1 := by omega
          have HCUT := Lib.hid hcut; clear hcut
          go_wp2_with fail
          rw [HCUT.out]
          refine (HIH.out (s ++ chr1 x) (by rw [chr1_size]; have := HSD.out; omega)).mono ?_; rintro e w3 ⟨rfl, rfl⟩
          rw [chr1_app, ← HCC.out]
          go_wp2
          go_round
          case rel => exact ⟨x + 1, by omega, by go_num, by rw [HV.out]; go_num⟩
          case measure => simp [intOf]; omega
        · obtain rfl : x = K := by omega
          go_wp2
          go_ret
          exact ⟨by rw [HC.out]; rfl, rfl⟩
end Go.Proofs.Ytpabgagfkicobaa
