/- Slices of ints that come in; toIntS; the walks of ValidPoints, the reference's and the program's. -/
import Derived.Test.YtkgdifngijeenaaZ
import Derived.ProofKit
import Derived.OpenShut
namespace Go.Proofs.Ytkgdifngijeenaa
open Go.ChangeShapes Go.WideShapes Go.ChangeAt Go.RowKit
set_option linter.unusedVariables false

/-- The slice of ints that a law is given reads as xs. -/
def IntsOf (W : World) (pa : Option Addr) (n cap : Nat) (xs : List Int) : Prop :=
  xs.length = n ∧ n ≤ cap ∧ cap ≤ maxLen ∧ ∀ i, i < n → ∃ b off, pa = some ⟨b, off, none⟩ ∧ W.cell? ⟨b, off + i, none⟩ = some (.int .i64 (xs[i]?.getD 0))
def IntsAt (W : World) (pa : Option Addr) (n cap : Nat) : Prop := ∃ xs, IntsOf W pa n cap xs
theorem IntsOf.kept {W W' : World} {pa : Option Addr} {n cap : Nat} {xs : List Int} (h : IntsOf W pa n cap xs) (hb : Below W.heap.size W W') : IntsOf W' pa n cap xs :=
  ⟨h.1, h.2.1, h.2.2.1, fun i hi => by
    obtain ⟨b, off, e, hc⟩ := h.2.2.2 i hi
    exact ⟨b, off, e, (hb.cell (p := ⟨b, off + i, none⟩) (cell_lt hc)).trans hc⟩⟩
theorem cells_int : Try.prog.cellsOf 3 = 1 := by kernel_rfl
theorem IntsAt.of_trod {H : Type} {enc : TypeId × Value → H} {W : World} {base : Nat} {held : Bool} {pa : Option Addr} {n cap : Nat} {d : DataW H} {ps : List MemPlace}
    (h : DataW.Trod enc Try.prog W base (fun _ => true) held 22 (.slice pa n cap) d ps) : IntsAt W pa n cap := by
  obtain ⟨fuel, hf⟩ := h
  rcases open_ints Try.underlying22 Try.underlying3 cells_int hf with ⟨hcs, hx⟩ | ⟨a, len', cap', zs, hcs, _, hl, hm, hz, hx, hcell, hwz⟩
  · simp [Value.cells] at hcs
    obtain ⟨rfl, rfl, rfl⟩ := hcs
    exact ⟨[], rfl, Nat.le_refl _, Nat.zero_le _, fun i hi => by omega⟩
  · simp [Value.cells] at hcs
    obtain ⟨rfl, rfl, rfl⟩ := hcs
    simp at hz
    refine ⟨zs.take n, by rw [List.length_take]; omega, hl, hm, fun i hi => ?_⟩
    obtain ⟨b, off, rfl, hc⟩ := ints_at hcell (by omega)
    refine ⟨b, off, rfl, ?_⟩
    rw [List.getElem?_take_of_lt hi, ← List.getD_eq_getElem?_getD]
    exact hc i (by omega)

theorem copy_step {W : World} {lo g n k : Nat} {xs : List Int} (h : FnRow W lo g n (fun j => if j < k then xs[j]?.getD 0 else 0)) (hk : k < n) :
    FnRow (W.setCell ⟨g, k, none⟩ (.int .i64 (xs[k]?.getD 0))) lo g n (fun j => if j < k + 1 then xs[j]?.getD 0 else 0) :=
  (h.store hk _).congr fun j hj => by
    unfold upd1
    by_cases e : j = k
    · subst e; rw [if_pos rfl, if_pos (by omega)]
    · rw [if_neg e]
      show (if j < k then xs[j]?.getD 0 else 0) = _
      by_cases e2 : j < k
      · rw [if_pos e2, if_pos (by omega)]
      · rw [if_neg e2, if_neg (by omega)]

set_option maxHeartbeats 400000 in
theorem l_toIntS (pa : Option Addr) (n cap : Nat) (xs : List Int) (w : World) (hx : IntsOf w pa n cap xs) (hn : n ≤ 1048576) :
    Calls Try.prog 15 #[.slice pa n cap] w (RetInts xs w) := by
  have HX := Lib.hid hx; clear hx
  go_enter Try.func15, Try.ntmps15
  go_wp2_with (at_make; refine wpList_make_ints _ rfl _ _ rfl n _ _ rfl rfl rfl rfl hn ?_; intro w1 hz1 hg1)
  have hrow := FnRow.of_zrow hz1 (Nat.le_refl w.heap.size)
  have hgl := hz1.lt
  have hb1 : Below w.heap.size w w1 := (Below.refl _ _).grown hg1 (Nat.le_refl _) (fun k e => by cases e)
  clear hz1 hg1
  go_loopw [4] (fun i wr => ∃ k : Nat, k ≤ n ∧ i = .int .i64 k ∧ FnRow wr w.heap.size w.heap.size n (fun j => if j < k then xs[j]?.getD 0 else 0) ∧ w.heap.size < wr.heap.size ∧ Below w.heap.size w wr) (fun i _ => n - (intOf i).toNat)
  case atStart => exact ⟨0, Nat.zero_le _, rfl, hrow.congr fun j _ => by rw [if_neg (by omega)], hgl, hb1⟩
  case round =>
    obtain ⟨k, hk, rfl, hr, hgw, hb⟩ := hrel
    clear hrow hb1 hgl
    by_cases hlt : k < n
    · obtain ⟨b, off, e, hc⟩ := (HX.out.kept hb).2.2.2 k hlt
      subst e
      have hs := copy_step hr hlt
      obtain ⟨hd, hf⟩ := hr.2 k hlt
      have hcap : n ≤ cap := HX.out.2.1
      obtain ⟨x, hx⟩ : ∃ x, x = xs[k]?.getD 0 := ⟨_, rfl⟩
      rw [← hx] at hc hs
      clear hx
      go_wp2
      go_roundw
      case rel => exact ⟨k + 1, by omega, by go_num, hs, by rw [World.size_setCell]; exact hgw, hb.setCell (p := ⟨w.heap.size, k, none⟩) (Nat.le_refl _) _⟩
      case measure => simp [intOf]; omega
    · obtain rfl : k = n := by omega
      go_wp2
      go_ret
      exact ⟨some ⟨w.heap.size, 0, none⟩, k, k, rfl, Lib.hid HX.out.1, hn, hr.row HX.out.1 (fun j hj => by rw [if_pos hj]) hgw, hb⟩

/-- A slice of ints at whatever place reads as xs. -/
def Rds (W : World) (pa : Option Addr) (xs : List Int) : Prop :=
  ∀ i, i < xs.length → ∃ b off, pa = some ⟨b, off, none⟩ ∧ b < W.heap.size ∧ W.cell? ⟨b, off + i, none⟩ = some (.int .i64 (xs[i]?.getD 0))
theorem Rds.kept {W W' : World} {pa : Option Addr} {xs : List Int} (h : Rds W pa xs) (hb : Below W.heap.size W W') : Rds W' pa xs := fun i hi => by
  obtain ⟨b, off, e, hl, hc⟩ := h i hi
  exact ⟨b, off, e, Nat.lt_of_lt_of_le hl hb.size, (hb.cell (p := ⟨b, off + i, none⟩) hl).trans hc⟩
theorem Row.rds {W : World} {lo hi : Nat} {pa : Option Addr} {xs : List Int} (h : Row W lo hi pa (ints xs)) : Rds W pa xs := fun i hi' => by
  obtain ⟨g, e, _, _, hc, _⟩ := h.getInt hi'
  exact ⟨g, 0, e, cell_lt hc, by rw [Nat.zero_add]; exact hc⟩
theorem Rds.take {W : World} {pa : Option Addr} {xs : List Int} (h : Rds W pa xs) (k : Nat) : Rds W pa (xs.take k) := fun i hi => by
  rw [List.length_take] at hi
  obtain ⟨b, off, e, hl, hc⟩ := h i (by omega)
  exact ⟨b, off, e, hl, by rw [List.getElem?_take_of_lt (by omega)]; exact hc⟩

/-- n lies from lo up to hi. -/
def rngB (n lo hi : Int) : Bool := decide (lo ≤ n) && decide (n ≤ hi)
theorem rngB_yes {n lo hi : Int} (h : rngB n lo hi = true) : lo ≤ n ∧ n ≤ hi := by unfold rngB at h; rw [Bool.and_eq_true, decide_eq_true_eq, decide_eq_true_eq] at h; exact h
theorem rngB_mk {n lo hi : Int} (h1 : lo ≤ n) (h2 : n ≤ hi) : rngB n lo hi = true := by unfold rngB; rw [decide_eq_true h1, decide_eq_true h2]; rfl
theorem rngB_no {n lo hi : Int} (h : n < lo ∨ hi < n) : rngB n lo hi = false := by
  unfold rngB; rcases h with h | h
  · rw [decide_eq_false (by omega)]; rfl
  · rw [decide_eq_false (p := n ≤ hi) (by omega), Bool.and_false]
theorem s_inRange (n lo hi : Int) (w : World) : Calls Try.prog 61 #[.int .i64 n, .int .i64 lo, .int .i64 hi] w fun e w' => e = .returned (.bool (rngB n lo hi)) ∧ w = w' := by
  by_cases h1 : lo ≤ n
  · go_enter Try.func61, Try.ntmps61
    go_wp2
    go_ret
    exact ⟨ret_bool (by unfold rngB; rw [decide_eq_true h1, Bool.true_and]), rfl⟩
  · go_enter Try.func61, Try.ntmps61
    go_wp2
    go_ret
    exact ⟨ret_bool (rngB_no (by omega)).symm, rfl⟩
theorem i_within (n lo hi : Int) (w : World) : Calls Try.prog 47 #[.int .i64 n, .int .i64 lo, .int .i64 hi] w fun e w' => e = .returned (.bool (rngB n lo hi)) ∧ w = w' := by
  by_cases h1 : lo ≤ n
  · go_enter Try.func47, Try.ntmps47
    go_wp2
    go_ret
    exact ⟨ret_bool (by unfold rngB; rw [decide_eq_true h1, Bool.true_and]), rfl⟩
  · go_enter Try.func47, Try.ntmps47
    go_wp2
    go_ret
    exact ⟨ret_bool (rngB_no (by omega)).symm, rfl⟩
/-- The number at i is a place, and greater than the one ahead. -/
def ptAt (xs : List Int) (i : Nat) : Bool := rngB (xs[i]?.getD 0) 0 60 && (decide (i = 0) || decide (xs[i - 1]?.getD 0 < xs[i]?.getD 0))
def vpB (xs : List Int) : Bool := allTo (ptAt xs) xs.length && rngB xs.length 1 6 && decide (xs[0]?.getD 0 = 0)
theorem allTo_no {f : Nat → Bool} {n k : Nat} (hk : k < n) (h : f k = false) : allTo f n = false := by
  cases e : allTo f n with
  | false => rfl
  | true => have := (allTo_iff f n).1 e k hk; rw [h] at this; cases this
theorem vpB_no {xs : List Int} {k : Nat} (hk : k < xs.length) (h : ptAt xs k = false) : vpB xs = false := by unfold vpB; rw [allTo_no hk h]; rfl
theorem ptAt_rng {xs : List Int} {k : Nat} (h : rngB (xs[k]?.getD 0) 0 60 = false) : ptAt xs k = false := by unfold ptAt; rw [h]; rfl
theorem ptAt_zero {xs : List Int} (h : rngB (xs[0]?.getD 0) 0 60 = true) : ptAt xs 0 = true := by unfold ptAt; rw [h]; rfl
theorem ptAt_pos {xs : List Int} {k : Nat} (hk : 0 < k) (h : rngB (xs[k]?.getD 0) 0 60 = true) : ptAt xs k = decide (xs[k - 1]?.getD 0 < xs[k]?.getD 0) := by unfold ptAt; rw [h, decide_eq_false (by omega)]; rfl
set_option maxHeartbeats 1000000 in
theorem s_validPoints (pa : Option Addr) (n ca : Nat) (xs : List Int) (w : World) (hn : xs.length = n) (hle : n ≤ 1048576) (ra : Rds w pa xs) :
    Calls Try.prog 46 #[.slice pa n ca] w fun e w' => e = .returned (.bool (vpB xs)) ∧ Below w.heap.size w w' := by
  have HN := Lib.hid hn; clear hn
  go_enter Try.func46, Try.ntmps46
  go_wp2
  go_loopw [3] (fun i wr => ∃ k : Nat, k ≤ n ∧ i = .int .i64 k ∧ Hid (allTo (ptAt xs) k = true) ∧ Below w.heap.size w wr) (fun i _ => n - (intOf i).toNat)
  case atStart => exact ⟨0, Nat.zero_le _, rfl, Lib.hid rfl, Below.refl _ _⟩
  case round =>
    obtain ⟨k, hk, rfl, HA, hb⟩ := hrel
    by_cases hlt : k < n
    · obtain ⟨g, off, rfl, _, hc⟩ := (ra.kept hb) k (by rw [HN.out]; exact hlt)
      obtain ⟨x, hx⟩ : ∃ x, x = xs[k]?.getD 0 := ⟨_, rfl⟩
      rw [← hx] at hc
      have HX := Lib.hid hx; clear hx
      cases hr : rngB x 0 60 with
      | false =>
        have HP := Lib.hid (vpB_no (xs := xs) (by rw [HN.out]; exact hlt) (ptAt_rng (by rw [← HX.out]; exact hr)))
        go_wp2
        go_quiet ((go_at_call 61; exact Calls.quiet_of_same ((s_inRange _ _ _ _).mono fun _ _ ⟨h1, h2⟩ => ⟨h1, h2.symm⟩)))
        go_wp2
        go_ret
        exact ⟨ret_bool HP.out.symm, below_drewN hb _⟩
      | true =>
        by_cases hk0 : 0 < k
        · obtain ⟨m, rfl⟩ : ∃ m, k = m + 1 := ⟨k - 1, by omega⟩
          obtain ⟨g2, off2, e2, _, hc2⟩ := (ra.kept hb) m (by rw [HN.out]; omega)
          cases e2
          obtain ⟨y, hy⟩ : ∃ y, y = xs[m]?.getD 0 := ⟨_, rfl⟩
          rw [← hy] at hc2
          have hpt : ptAt xs (m + 1) = decide (y < x) := by rw [ptAt_pos (by omega) (by rw [← HX.out]; exact hr), show m + 1 - 1 = m by omega, ← hy, ← HX.out]
          have HPT := Lib.hid hpt; clear hpt hy
          have e1 : IntKind.i64.wrap ((m : Int) + 1 - 1) = m := by rw [show (m : Int) + 1 - 1 = m by omega]; exact IntWalk.i64_in _ (by omega)
          have e3 : (m : Int) + 1 - 1 = m := by omega
          have e4 : ((m : Int) + 1).toNat = m + 1 := by omega
          have e5 : (m : Int) + 1 < n := by omega
          have e6 : (m : Int) < n := by omega
          have e7 : (0 : Int) ≤ (m : Int) + 1 := by omega
          have e8 : m < n := by omega
          have e9 : decide (0 < (m : Int) + 1) = true := decide_eq_true (by omega)
          by_cases hxy : y < x
          · have hd : decide (x ≤ y) = false := decide_eq_false (by omega)
            have HT := Lib.hid (HPT.out.trans (decide_eq_true hxy))
            go_wp2
            go_quiet ((go_at_call 61; exact Calls.quiet_of_same ((s_inRange _ _ _ _).mono fun _ _ ⟨h1, h2⟩ => ⟨h1, h2.symm⟩)))
            clear e1 e3
            go_wp2
            go_roundw
            case rel => exact ⟨m + 1 + 1, by omega, by go_num, Lib.hid (by rw [allTo, HA.out, HT.out]; rfl), below_drewN hb _⟩
            case measure => simp [intOf]; omega
          · have hd : decide (x ≤ y) = true := decide_eq_true (by omega)
            have HT := Lib.hid (vpB_no (xs := xs) (by rw [HN.out]; exact hlt) (HPT.out.trans (decide_eq_false hxy)))
            go_wp2
            go_quiet ((go_at_call 61; exact Calls.quiet_of_same ((s_inRange _ _ _ _).mono fun _ _ ⟨h1, h2⟩ => ⟨h1, h2.symm⟩)))
            clear e1 e3
            go_wp2
            go_ret
            exact ⟨ret_bool HT.out.symm, below_drewN hb _⟩
        · obtain rfl : k = 0 := by omega
          rw [Nat.add_zero] at hc
          have HT := Lib.hid (ptAt_zero (xs := xs) (by rw [← HX.out]; exact hr))
          go_wp2
          go_quiet ((go_at_call 61; exact Calls.quiet_of_same ((s_inRange _ _ _ _).mono fun _ _ ⟨h1, h2⟩ => ⟨h1, h2.symm⟩)))
          go_wp2
          go_roundw
          case rel => exact ⟨1, by omega, by go_num, Lib.hid (by rw [allTo, HA.out, HT.out]; rfl), below_drewN hb _⟩
          case measure => simp [intOf]; omega
    · obtain rfl : k = n := by omega
      have hvp : vpB xs = (rngB k 1 6 && decide (xs[0]?.getD 0 = 0)) := by unfold vpB; rw [HN.out, HA.out, Bool.true_and]
      have HV := Lib.hid hvp; clear hvp
      cases hr : rngB k 1 6 with
      | false =>
        go_wp2_with (go_at_call 61; refine (s_inRange _ _ _ _).mono ?_; rintro e w1 ⟨rfl, rfl⟩)
        go_ret
        exact ⟨ret_bool (by rw [HV.out, hr]; rfl), hb⟩
      | true =>
        have h1 := (rngB_yes hr).1
        obtain ⟨g, off, rfl, _, hc⟩ := (ra.kept hb) 0 (by rw [HN.out]; omega)
        rw [Nat.add_zero] at hc
        obtain ⟨x, hx⟩ : ∃ x, x = xs[0]?.getD 0 := ⟨_, rfl⟩
        rw [← hx] at hc
        have HX := Lib.hid hx; clear hx
        go_wp2_with (go_at_call 61; refine (s_inRange _ _ _ _).mono ?_; rintro e w1 ⟨rfl, rfl⟩)
        go_ret
        exact ⟨ret_bool (by rw [HV.out, hr, Bool.true_and, ← HX.out]; rfl), hb⟩
theorem s_ValidPoints (pa : Option Addr) (n ca : Nat) (xs : List Int) (w : World) (hn : xs.length = n) (hle : n ≤ 1048576) (ra : Rds w pa xs) :
    Calls Try.prog 14 #[.slice pa n ca] w fun e w' => e = .returned (.bool (vpB xs)) ∧ Below w.heap.size w w' := by
  have HN := Lib.hid hn; clear hn
  go_enter Try.func14, Try.ntmps14
  go_wp2_with fail
  refine (s_validPoints pa n ca xs _ HN.out hle ra).mono ?_; rintro e w1 ⟨rfl, hb⟩
  go_wp2
  go_ret
  exact ⟨rfl, hb⟩
set_option maxHeartbeats 1000000 in
theorem i_ValidPoints (pa : Option Addr) (n ca : Nat) (xs : List Int) (w : World) (hn : xs.length = n) (hle : n ≤ 1048576) (ra : Rds w pa xs) :
    Calls Try.prog 16 #[.slice pa n ca] w fun e w' => e = .returned (.bool (vpB xs)) ∧ Below w.heap.size w w' := by
  have HN := Lib.hid hn; clear hn
  have hvp : vpB xs = (allTo (ptAt xs) n && rngB n 1 6 && decide (xs[0]?.getD 0 = 0)) := by unfold vpB; rw [HN.out]
  have HV := Lib.hid hvp; clear hvp
  cases hr : rngB n 1 6 with
  | false =>
    have HR := Lib.hid hr
    go_enter Try.func16, Try.ntmps16
    go_wp2_with (go_at_call 47; refine (i_within _ _ _ _).mono ?_; rintro e w1 ⟨rfl, rfl⟩)
    go_ret
    exact ⟨ret_bool (by rw [HV.out, HR.out, Bool.and_false]; rfl), Below.refl _ _⟩
  | true =>
    have h1 := (rngB_yes hr).1
    obtain ⟨g, off, rfl, _, hc0⟩ := ra 0 (by rw [HN.out]; omega)
    rw [Nat.add_zero] at hc0
    obtain ⟨x0, hx0⟩ : ∃ x, x = xs[0]?.getD 0 := ⟨_, rfl⟩
    rw [← hx0] at hc0
    have HR := Lib.hid hr
    have HX0 := Lib.hid hx0; clear hx0
    by_cases hz : x0 = 0
    · subst hz
      have HA0 : Hid (decide (xs[0]?.getD 0 = 0) = true) := Lib.hid (decide_eq_true HX0.out.symm)
      go_enter Try.func16, Try.ntmps16
      go_wp2_with (go_at_call 47; refine (i_within _ _ _ _).mono ?_; rintro e w1 ⟨rfl, rfl⟩)
      clear hr hc0
      go_loopw [17, 3, 4] (fun i _ _ wr => ∃ k : Nat, k ≤ n ∧ i = .int .i64 k ∧ Hid (allTo (ptAt xs) k = true) ∧ Below w.heap.size w wr) (fun i _ _ _ => n - (intOf i).toNat)
      case atStart => exact ⟨0, Nat.zero_le _, rfl, Lib.hid rfl, Below.refl _ _⟩
      case round =>
        obtain ⟨k, hk, rfl, HA, hb⟩ := hrel
        by_cases hlt : k < n
        · obtain ⟨g2, off2, e2, _, hc⟩ := (ra.kept hb) k (by rw [HN.out]; exact hlt)
          cases e2
          obtain ⟨x, hx⟩ : ∃ x, x = xs[k]?.getD 0 := ⟨_, rfl⟩
          rw [← hx] at hc
          have HX := Lib.hid hx; clear hx
          cases hr : rngB x 0 60 with
          | false =>
            have HP := Lib.hid (vpB_no (xs := xs) (by rw [HN.out]; exact hlt) (ptAt_rng (by rw [← HX.out]; exact hr)))
            go_wp2_with (go_at_call 47; refine (i_within _ _ _ _).mono ?_; rintro e w1 ⟨rfl, rfl⟩)
            go_ret
            exact ⟨ret_bool HP.out.symm, hb⟩
          | true =>
            by_cases hk0 : 0 < k
            · obtain ⟨m, rfl⟩ : ∃ m, k = m + 1 := ⟨k - 1, by omega⟩
              obtain ⟨g2, off2, e2, _, hc2⟩ := (ra.kept hb) m (by rw [HN.out]; omega)
              cases e2
              obtain ⟨y, hy⟩ : ∃ y, y = xs[m]?.getD 0 := ⟨_, rfl⟩
              rw [← hy] at hc2
              have hpt : ptAt xs (m + 1) = decide (y < x) := by rw [ptAt_pos (by omega) (by rw [← HX.out]; exact hr), show m + 1 - 1 = m by omega, ← hy, ← HX.out]
              have HPT := Lib.hid hpt; clear hpt hy
              have e3 : (m : Int) + 1 - 1 = m := by omega
              have e9 : decide (0 < (m : Int) + 1) = true := decide_eq_true (by omega)
              by_cases hxy : y < x
              · have hd : decide (x ≤ y) = false := decide_eq_false (by omega)
                have HT := Lib.hid (HPT.out.trans (decide_eq_true hxy))
                go_wp2_with (go_at_call 47; refine (i_within _ _ _ _).mono ?_; rintro e w1 ⟨rfl, rfl⟩)
                clear e3
                go_roundw
                case rel => exact ⟨m + 1 + 1, by omega, by go_num, Lib.hid (by rw [allTo, HA.out, HT.out]; rfl), hb⟩
                case measure => simp [intOf]; omega
              · have hd : decide (x ≤ y) = true := decide_eq_true (by omega)
                have HT := Lib.hid (vpB_no (xs := xs) (by rw [HN.out]; exact hlt) (HPT.out.trans (decide_eq_false hxy)))
                go_wp2_with (go_at_call 47; refine (i_within _ _ _ _).mono ?_; rintro e w1 ⟨rfl, rfl⟩)
                go_ret
                exact ⟨ret_bool HT.out.symm, hb⟩
            · obtain rfl : k = 0 := by omega
              rw [Nat.add_zero] at hc
              have HT := Lib.hid (ptAt_zero (xs := xs) (by rw [← HX.out]; exact hr))
              go_wp2_with (go_at_call 47; refine (i_within _ _ _ _).mono ?_; rintro e w1 ⟨rfl, rfl⟩)
              go_roundw
              case rel => exact ⟨1, by omega, by go_num, Lib.hid (by rw [allTo, HA.out, HT.out]; rfl), hb⟩
              case measure => simp [intOf]; omega
        · obtain rfl : k = n := by omega
          go_wp2
          go_ret
          exact ⟨ret_bool (by rw [HV.out, HA.out, HR.out, HA0.out]; rfl), hb⟩
    · have hne : (x0 == 0) = false := beq_eq_false_iff_ne.2 hz
      have hne2 : (x0 != 0) = true := by rw [bne, hne]; rfl
      have HZ := Lib.hid hz; clear hz
      go_enter Try.func16, Try.ntmps16
      go_wp2_with (go_at_call 47; refine (i_within _ _ _ _).mono ?_; rintro e w1 ⟨rfl, rfl⟩)
      go_ret
      exact ⟨ret_bool (by rw [HV.out, decide_eq_false (p := xs[0]?.getD 0 = 0) (by rw [← HX0.out]; exact HZ.out), Bool.and_false]), Below.refl _ _⟩
end Go.Proofs.Ytkgdifngijeenaa
