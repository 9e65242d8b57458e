/- TextOf: the program's walk of one phrase. -/
import Derived.Test.YtknocepgfjebpaaDoorQd
namespace Go.Proofs.YtknocepgfjebpaaDoor
open Go.RowKit
set_option linter.unusedVariables false
set_option maxHeartbeats 1000000 in
theorem i_letterT (z : ByteArray) (w : World) (hz : z.size ≤ 1048576) : Calls Tryd.prog 17 #[.string z] w fun e w' => e = .returned (.bool (litOk z)) ∧ Below w.heap.size w w' := by
  have hzm : z.size ≤ maxLen := by unfold maxLen; omega
  by_cases h1 : z.size = 1
  · have hq : ((z.size : Int) == 1) = true := by rw [beq_iff_eq]; omega
    have HL : Hid (litOk z = vt z.data.toList) := Lib.hid (by unfold litOk; rw [decide_eq_true h1]; rfl)
    have H1 := Lib.hid h1
    clear h1
    go_enter Tryd.func17, Tryd.ntmps17
    go_wp2_with fail
    refine (i_ValidText z _ hzm).mono ?_; rintro e w1 ⟨rfl, hb⟩
    go_wp2
    go_ret
    exact ⟨by rw [HL.out]; rfl, hb⟩
  · have hq : ((z.size : Int) == 1) = false := by rw [beq_eq_false_iff_ne]; omega
    have HL : Hid (litOk z = false) := Lib.hid (by unfold litOk; rw [decide_eq_false h1]; rfl)
    have H1 := Lib.hid h1
    clear h1
    go_enter Tryd.func17, Tryd.ntmps17
    go_wp2_with fail
    go_ret
    exact ⟨by rw [HL.out]; rfl, Below.refl _ _⟩
def fitB (n : Nat) (y : Int) : Bool := (decide (1 ≤ y) && decide (y ≤ 40)) && decide ((n : Int) + y ≤ 40)
set_option maxHeartbeats 1000000 in
theorem i_fits (y : Int) (t : ByteArray) (w : World) (ht : t.size ≤ 40) : Calls Tryd.prog 16 #[.agg #[.int .i64 y], .string t] w fun e w' => e = .returned (.bool (fitB t.size y)) ∧ Below w.heap.size w w' := by
  have hb0 : Below w.heap.size w (w.alloc (.cells #[.int .i64 y] 41)) := (Below.refl _ w).alloc (Nat.le_refl _) _
  have HB := Lib.hid hb0
  clear hb0
  cases hd : (decide (1 ≤ y) && decide (y ≤ 40)) with
  | false =>
    have HF : Hid (fitB t.size y = false) := Lib.hid (by unfold fitB; rw [hd]; rfl)
    have HD := Lib.hid hd
    clear hd
    go_enter Tryd.func16, Tryd.ntmps16
    go_wp2_with fail
    refine (i_inR (n := y) (lo := 1) (hi := 40) _ HD.out).mono ?_; rintro e w' ⟨rfl, rfl⟩
    go_wp2
    go_ret
    exact ⟨by rw [HF.out]; rfl, HB.out⟩
  | true =>
    have hyy : 1 ≤ y ∧ y ≤ 40 := by rw [Bool.and_eq_true, decide_eq_true_eq, decide_eq_true_eq] at hd; exact hd
    obtain ⟨hy1, hy2⟩ := hyy
    have HF : Hid (fitB t.size y = decide ((t.size : Int) + y ≤ 40)) := Lib.hid (by unfold fitB; rw [hd]; rfl)
    have HD := Lib.hid hd
    clear hd
    go_enter Tryd.func16, Tryd.ntmps16
    go_wp2_with fail
    refine (i_inR (n := y) (lo := 1) (hi := 40) _ HD.out).mono ?_; rintro e w' ⟨rfl, rfl⟩
    go_wp2
    go_ret
    exact ⟨by rw [HF.out]; rfl, HB.out⟩
/-- The part that a call has laid into a block. -/
def PartAt (w : World) (b : Nat) (x y : Int) (z : ByteArray) : Prop :=
  w.cell? ⟨b, 0, none⟩ = some (.int .i64 y) ∧ w.cell? ⟨b, 1, none⟩ = some (.int .i64 x) ∧ w.cell? ⟨b, 2, none⟩ = some (.int .i64 y) ∧ w.cell? ⟨b, 3, none⟩ = some (.string z)
theorem PartAt.kept {w w' : World} {b : Nat} {x y : Int} {z : ByteArray} (h : PartAt w b x y z) (hb : Below w.heap.size w w') : PartAt w' b x y z :=
  ⟨(hb.cell (p := ⟨b, 0, none⟩) (cell_lt h.1)).trans h.1, (hb.cell (p := ⟨b, 1, none⟩) (cell_lt h.1)).trans h.2.1, (hb.cell (p := ⟨b, 2, none⟩) (cell_lt h.1)).trans h.2.2.1, (hb.cell (p := ⟨b, 3, none⟩) (cell_lt h.1)).trans h.2.2.2⟩
theorem PartAt.new (w : World) (x y : Int) (z : ByteArray) (T : TypeId) : PartAt (w.alloc (.cells #[.int .i64 y, .int .i64 x, .int .i64 y, .string z] T)) w.heap.size x y z := by
  have hl := heap_alloc_new w (.cells #[.int .i64 y, .int .i64 x, .int .i64 y, .string z] T)
  exact ⟨by simp only [World.cell?, hl]; rfl, by simp only [World.cell?, hl]; rfl, by simp only [World.cell?, hl]; rfl, by simp only [World.cell?, hl]; rfl⟩
/-- What 'behind' hands back. -/
def BehOk (t : ByteArray) (x y : Int) (z : ByteArray) (w : World) (e : Ending) (w' : World) : Prop :=
  (∃ u : ByteArray, e = .returned (.tuple #[.string u, .nilIface]) ∧ Hid (stepT t.data.toList (x, y, z) = some u.data.toList) ∧ u.size ≤ 40) ∧ Below w.heap.size w w'
def BehNo (t : ByteArray) (x y : Int) (z : ByteArray) (w : World) (e : Ending) (w' : World) : Prop :=
  (∃ b : Nat, e = .returned (.tuple #[.string ⟨#[]⟩, .iface 47 (.pointer (some ⟨b, 0, none⟩))]) ∧ Hid (∀ u, stepT t.data.toList (x, y, z) = some u → 40 < u.length)) ∧ Below w.heap.size w w'
def BehR (t : ByteArray) (x y : Int) (z : ByteArray) (w : World) (e : Ending) (w' : World) : Prop := BehOk t x y z w e w' ∨ BehNo t x y z w e w'
theorem fit_no {t z : ByteArray} {x y : Int} (h : fitB t.size y = false) : ∀ u, stepT t.data.toList (x, y, z) = some u → 40 < u.length := by
  intro u hu
  have h1 := stepT_len hu
  rw [list_len] at h1
  have h2 : ¬ ((t.size : Int) + y ≤ 40) := fun h3 => by
    unfold fitB at h
    rw [decide_eq_true h1.2.1, decide_eq_true h1.2.2, decide_eq_true h3] at h; cases h
  have := h1.1
  show 40 < u.length
  have h4 : (u.length : Int) = (t.size : Int) + y := this
  omega
theorem fit_yes {n : Nat} {y : Int} (h : fitB n y = true) : 1 ≤ y ∧ y ≤ 40 ∧ (n : Int) + y ≤ 40 := by
  unfold fitB at h
  rw [Bool.and_eq_true, Bool.and_eq_true, decide_eq_true_eq, decide_eq_true_eq, decide_eq_true_eq] at h
  exact ⟨h.1.1, h.1.2, h.2⟩
theorem none_no {t : List UInt8} {p : PhP} (h : stepT t p = none) : ∀ u, stepT t p = some u → 40 < u.length := fun u hu => by rw [h] at hu; cases hu
set_option maxRecDepth 100000 in
set_option maxHeartbeats 4000000 in
theorem i_behind (t : ByteArray) (x y : Int) (z : ByteArray) (w : World) (ht : t.size ≤ 40) (hz : z.size ≤ 1048576) :
    Calls Tryd.prog 13 #[.agg #[.int .i64 y, .int .i64 x, .int .i64 y, .string z], .string t] w (BehR t x y z w) := by
  have hb0 : Below w.heap.size w (w.alloc (.cells #[.int .i64 y, .int .i64 x, .int .i64 y, .string z] 43)) := (Below.refl _ w).alloc (Nat.le_refl _) _
  have hp0 := PartAt.new w x y z 43
  have HB0 := Lib.hid hb0
  have HP0 := Lib.hid hp0
  clear hb0 hp0
  cases hf : fitB t.size y with
  | false =>
    have HN := Lib.hid (fit_no (t := t) (z := z) (x := x) hf)
    have HFT := Lib.hid hf
    clear hf
    go_enter Tryd.func13, Tryd.ntmps13
    go_wp2_with fail
    (with_reducible refine (i_fits y t _ ht).mono ?_); rintro e w1 ⟨rfl, hb1⟩
    rw [HFT.out]
    have hB1 := below_then HB0.out hb1
    have hsz := hB1.size
    clear hb1
    go_wp2
    go_ret2
    exact .inr ⟨⟨_, rfl, HN⟩, hB1.alloc hsz _⟩
  | true =>
    obtain ⟨hy1, hy2, hy3⟩ := fit_yes hf
    obtain ⟨Y, rfl⟩ := Int.eq_ofNat_of_zero_le (show 0 ≤ y by omega)
    have HFT := Lib.hid hf
    clear hf
    go_enter Tryd.func13, Tryd.ntmps13
    go_wp2_with fail
    (with_reducible refine (i_fits Y t _ ht).mono ?_); rintro e w1 ⟨rfl, hb1⟩
    rw [HFT.out]
    have HB1 := Lib.hid (below_then HB0.out hb1)
    have HP1 := Lib.hid (HP0.out.kept hb1)
    clear hb1
    obtain ⟨a0, a1, a2, a3⟩ := HP1.out
    go_wp2_with fail
    (with_reducible refine (i_letterT z _ hz).mono ?_); rintro e w2 ⟨rfl, hb2⟩
    have HB2 := Lib.hid (below_then HB1.out hb2)
    have HP2 := Lib.hid (HP1.out.kept hb2)
    clear hb2 a0 a1 a2 a3
    obtain ⟨a0, a1, a2, a3⟩ := HP2.out
    have hs2 := HB2.out.size
    cases hlit : litOk z with
    | true =>
      have hz1 : z.size = 1 := by unfold litOk at hlit; rw [Bool.and_eq_true, decide_eq_true_eq] at hlit; exact hlit.1
      have hz0 : ¬ z.size = 0 := by omega
      have HLT := Lib.hid hlit
      have HZ1 := Lib.hid hz1
      have hzs : z.size ≤ 1 := by omega
      clear hlit hz1
      by_cases hx : x = -1
      · subst hx
        by_cases hy : Y = 1
        · subst hy
          have HOK : Hid (stepT t.data.toList (-1, ((1 : Nat) : Int), z) = some (t ++ z).data.toList) := Lib.hid (by rw [stepT_lit (by rfl) HLT.out, ByteArray.data_append, Array.toList_append])
          have HZ0 := Lib.hid hz0
          clear hz0
          go_wp2_with fail
          go_ret2
          exact .inl ⟨⟨t ++ z, rfl, HOK, by rw [ByteArray.size_append]; have := HZ1.out; omega⟩, HB2.out⟩
        · have hyb : ((Y : Int) == 1) = false := by rw [beq_eq_false_iff_ne]; omega
          have HN := Lib.hid (none_no (stepT_litno (t := t.data.toList) (y := (Y : Int)) (z := z) (fun h => hy (by have := h.1; omega))))
          have HY := Lib.hid hy
          clear hy
          have hz0b : z.toList.isEmpty = false := by
            rw [Lib.toList_data]
            cases e : z.data.toList with
            | nil => exact absurd (by rw [← list_len, e]; rfl) hz0
            | cons a b => rfl
          have HZ0 := Lib.hid hz0
          clear hz0
          go_wp2_with fail
          go_ret2
          exact .inr ⟨⟨_, rfl, HN⟩, HB2.out.alloc hs2 _⟩
      · have hxb : (x == -1) = false := beq_eq_false_iff_ne.2 hx
        have HN := Lib.hid (none_no (stepT_farno (t := t.data.toList) (x := x) (y := (Y : Int)) (z := z) hx (fun h => hz0 h.2.2.2.2)))
        have HX := Lib.hid hx
        clear hx
        have hz0b : z.toList.isEmpty = false := by
          rw [Lib.toList_data]
          cases e : z.data.toList with
          | nil => exact absurd (by rw [← list_len, e]; rfl) hz0
          | cons a b => rfl
        have HZ0 := Lib.hid hz0
        clear hz0
        go_wp2_with fail
        go_ret2
        exact .inr ⟨⟨_, rfl, HN⟩, HB2.out.alloc hs2 _⟩
    | false =>
      have HLT := Lib.hid hlit
      clear hlit
      by_cases hz0 : z.size = 0
      · have hze : z = ⟨#[]⟩ := by
          have : z.data.toList = [] := List.length_eq_zero_iff.1 (by rw [list_len]; exact hz0)
          exact ByteArray.ext (Array.ext' (by rw [this]))
        subst hze
        clear hz0
        cases hd : (decide (0 ≤ x) && decide (x ≤ (t.size : Int) - 1)) with
        | false =>
          have HD := Lib.hid hd
          have HN := Lib.hid (show ∀ u, stepT t.data.toList (x, (Y : Int), ⟨#[]⟩) = some u → 40 < u.length by
            by_cases hx : x = -1
            · subst hx; exact none_no (stepT_litno (fun h => by have := h.2; rw [HLT.out] at this; cases this))
            · exact none_no (stepT_farno hx (fun h => by
                have h1 := h.1; have h2 := h.2.1
                rw [list_len] at h2
                rw [decide_eq_true h1, decide_eq_true h2] at hd; cases hd)))
          clear hd
          go_wp2_with fail
          (with_reducible refine (i_inR (n := x) (lo := 0) (hi := (t.size : Int) - 1) _ HD.out).mono ?_); rintro e w' ⟨rfl, rfl⟩
          go_wp2_with fail
          go_ret2
          exact .inr ⟨⟨_, rfl, HN⟩, HB2.out.alloc hs2 _⟩
        | true =>
          have hxx : 0 ≤ x ∧ x ≤ (t.size : Int) - 1 := by rw [Bool.and_eq_true, decide_eq_true_eq, decide_eq_true_eq] at hd; exact hd
          obtain ⟨x1, x2⟩ := hxx
          obtain ⟨X, rfl⟩ := Int.eq_ofNat_of_zero_le x1
          have HD := Lib.hid hd
          have HOK := Lib.hid (stepT_far (t := t.data.toList) (x := (X : Int)) (y := (Y : Int)) (z := ⟨#[]⟩) (by omega) ⟨by omega, by rw [list_len]; exact x2, hy1, hy2, rfl⟩)
          clear hd
          go_wp2_with fail
          (with_reducible refine (i_inR (n := (X : Int)) (lo := 0) (hi := (t.size : Int) - 1) _ HD.out).mono ?_); rintro e w' ⟨rfl, rfl⟩
          go_wp2_with fail
          go_loop [1, 59] (fun o j => ∃ (m : Nat) (u : ByteArray), m ≤ Y ∧ j = .int .i64 m ∧ o = .string u ∧ Hid (u.data.toList = copyN t.data.toList X m) ∧ u.size = t.size + m) (fun _ j => Y - (intOf j).toNat)
          case atStart => exact ⟨0, t, Nat.zero_le _, rfl, rfl, Lib.hid rfl, rfl⟩
          case round =>
            obtain ⟨m, u, hm2, rfl, rfl, HU, hus⟩ := hrel
            by_cases hlt2 : m < Y
            · have e3 : (m : Int) < Y := by omega
              have hxm : X + m < u.size := by omega
              have hnext : Hid ((u ++ u.extract (X + m) (X + m + 1)).data.toList = copyN t.data.toList X (m + 1)) := Lib.hid (by rw [ext_last u (X + m) hxm, HU.out]; rfl)
              have hus2 : u.size ≤ 100 := by omega
              have HUS := Lib.hid hus
              clear hus
              go_wp2
              go_round
              case rel => exact ⟨m + 1, _, by omega, by go_num, rfl, hnext, by have := HUS.out; rw [ByteArray.size_append, ByteArray.size_extract]; omega⟩
              case measure => simp [intOf]; omega
            · obtain rfl : m = Y := by omega
              have HU2 : Hid (stepT t.data.toList ((X : Int), (m : Int), ⟨#[]⟩) = some u.data.toList) := Lib.hid (by rw [HOK.out, HU.out]; simp)
              go_wp2
              go_ret2
              exact .inl ⟨⟨u, rfl, HU2, by omega⟩, HB2.out⟩
      · have HN := Lib.hid (show ∀ u, stepT t.data.toList (x, (Y : Int), z) = some u → 40 < u.length by
          by_cases hx : x = -1
          · subst hx; exact none_no (stepT_litno (fun h => by have := h.2; rw [HLT.out] at this; cases this))
          · exact none_no (stepT_farno hx (fun h => hz0 h.2.2.2.2)))
        have hz0b : z.toList.isEmpty = false := by
          rw [Lib.toList_data]
          cases e : z.data.toList with
          | nil => exact absurd (by rw [← list_len, e]; rfl) hz0
          | cons a b => rfl
        have HZ0 := Lib.hid hz0
        clear hz0
        go_wp2_with fail
        go_ret2
        exact .inr ⟨⟨_, rfl, HN⟩, HB2.out.alloc hs2 _⟩
end Go.Proofs.YtknocepgfjebpaaDoor
