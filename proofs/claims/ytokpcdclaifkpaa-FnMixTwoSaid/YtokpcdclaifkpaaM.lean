/- The walks of CommonRow, the reference's and the program's, and of their tables. -/
import Derived.Test.YtokpcdclaifkpaaTab
import Derived.StillTailTactics
namespace Go.Proofs.Ytokpcdclaifkpaa
open Go.RowKit
set_option linter.unusedVariables false

/-- The call hands back a new table of n rows and m columns that reads as T. -/
def RetTab (T : Nat → Nat → Int) (n m : Nat) (w : World) (e : Ending) (w' : World) : Prop :=
  ∃ gT ca gs, e = .returned (.slice (some ⟨gT, 0, none⟩) n ca) ∧ Hid (gs.length = n) ∧ Tab w' w.heap.size gT gs m T ∧ Below w.heap.size w w'
def lcsT (a b : List UInt8) (i j : Nat) : Int := (lcs (a.drop i) (b.drop j) : Nat)
/-- The reference's table while it is filled: row i from column k + 1 on, and all rows behind it. -/
def stageC (a b : List UInt8) (i k : Int) (i' j' : Nat) : Int := if i < i' ∨ (i = i' ∧ k < j') then lcsT a b i' j' else 0

theorem owns_kept0 {w w' : World} {lo : Nat} {e : TypeId} {v : Value} {n : Nat} {xs : List Value} (h : w.ownsRow lo e 1 v n xs) (hg : w.grownBy w' none) : w'.ownsRow lo e 1 v n xs := by
  refine h.kept hg ?_
  cases v.ownBlock with
  | none => exact .inl rfl
  | some g => exact .inr (by simp)
/-- One more row of zeros in the slice of rows. -/
theorem rows_next {w wr w1 w2 : World} {m : Nat} {v v' : Value} {k : Nat} {gs : List Nat} (hd : gs.Nodup) (hz : ∀ g, g ∈ gs → w.heap.size ≤ g ∧ Zrow wr g m) (hbw : Below w.heap.size w wr)
    (hown : wr.ownsRow w.heap.size 27 1 v k (rowsV gs m)) (hz1 : Zrow w1 wr.heap.size m) (hg1 : wr.grownBy w1 none) {o : Obj}
    (hown2 : w2.ownsRow w.heap.size 27 1 v' (k + 1) (rowsV gs m ++ [.slice (some ⟨wr.heap.size, 0, none⟩) m m])) (hg2 : (w1.alloc o).grownBy w2 v.ownBlock) :
    w2.ownsRow w.heap.size 27 1 v' (k + 1) (rowsV (gs ++ [wr.heap.size]) m) ∧ (gs ++ [wr.heap.size]).Nodup ∧ (∀ g, g ∈ gs ++ [wr.heap.size] → w.heap.size ≤ g ∧ Zrow w2 g m) ∧ Below w.heap.size w w2 := by
  have hb1 : Below w.heap.size w w1 := hbw.grown hg1 hbw.size (fun k e => by cases e)
  have hown1 := (owns_kept0 hown hg1).alloc o
  have keep : ∀ g, Zrow w1 g m → Zrow w2 g m := fun g h => by
    have h2 : Zrow (w1.alloc o) g m := by obtain ⟨cur, e1, e2⟩ := h; exact ⟨cur, (Below.heap_alloc w1 o g (Array.getElem?_eq_some_iff.1 e1).1).trans e1, e2⟩
    exact h2.kept hg2 (h2.ne hown1)
  refine ⟨by simpa [rowsV] using hown2, ?_, ?_, (hb1.alloc hb1.size o).grown hg2 (by simp; have := hb1.size; omega) (fun k e => (hown1.lt k e).1)⟩
  · rw [List.nodup_append]
    refine ⟨hd, by simp, fun x hx y hy => ?_⟩
    rw [List.mem_singleton] at hy; subst hy
    have := (hz x hx).2.lt; omega
  · intro g hg
    rw [List.mem_append, List.mem_singleton] at hg
    rcases hg with hg | rfl
    · exact ⟨(hz g hg).1, keep g ((hz g hg).2.kept hg1 (by simp))⟩
    · exact ⟨hbw.size, keep _ hz1⟩
theorem rows_made (w : World) (m : Nat) : (w.alloc (.cells #[] 27)).ownsRow w.heap.size 27 1 (.slice (some ⟨w.heap.size, 0, none⟩) 0 0) 0 (rowsV [] m) :=
  World.ownsRow_made (base := w.heap.size) (e := 27) (size := 1) w #[] 0 (Nat.le_refl _) (by decide) rfl
theorem lcsT_out (a b : ByteArray) (i j : Nat) (h : a.size ≤ i ∨ b.size ≤ j) : lcsT a.data.toList b.data.toList i j = 0 := by
  unfold lcsT
  rcases h with h | h
  · rw [List.drop_of_length_le (by rw [list_len]; exact h), lcs_nil]; rfl
  · rw [List.drop_of_length_le (l := b.data.toList) (by rw [list_len]; exact h), lcs_nil']; rfl
theorem lcsT_eq {a b : ByteArray} {i j : Nat} (hi : i < a.size) (hj : j < b.size) (h : a[i] = b[j]) : lcsT a.data.toList b.data.toList i j = lcsT a.data.toList b.data.toList (i + 1) (j + 1) + 1 := by
  unfold lcsT; rw [drop_cons a i hi, drop_cons b j hj, lcs_cons, if_pos h]; rfl
theorem lcsT_ne {a b : ByteArray} {i j : Nat} (hi : i < a.size) (hj : j < b.size) (h : a[i] ≠ b[j]) : lcsT a.data.toList b.data.toList i j = max (lcsT a.data.toList b.data.toList (i + 1) j) (lcsT a.data.toList b.data.toList i (j + 1)) := by
  unfold lcsT; rw [drop_cons a i hi, drop_cons b j hj, lcs_cons, if_neg h, ← drop_cons a i hi, ← drop_cons b j hj]; omega
theorem lcsT_le (a b : List UInt8) (i j : Nat) : 0 ≤ lcsT a b i j ∧ lcsT a b i j ≤ a.length + b.length := by
  have := scs_lcs _ (a.drop i) (b.drop j) (Nat.le_refl _)
  rw [List.length_drop, List.length_drop] at this
  unfold lcsT; omega

theorem stageC_step {a b : List UInt8} {i j : Nat} {v : Int} (hv : v = lcsT a b i j) (i' j' : Nat) : upd (stageC a b i j) i j v i' j' = stageC a b i ((j : Int) - 1) i' j' := by
  unfold upd stageC
  by_cases e : i' = i ∧ j' = j
  · obtain ⟨rfl, rfl⟩ := e
    rw [if_pos ⟨rfl, rfl⟩, if_pos (.inr ⟨rfl, by omega⟩), hv]
  · rw [if_neg e]
    by_cases h : (i : Int) < i' ∨ ((i : Int) = i' ∧ (j : Int) < j')
    · rw [if_pos h, if_pos (by omega)]
    · rw [if_neg h, if_neg (by omega)]
theorem stageC_row {a b : ByteArray} {i : Nat} (i' j' : Nat) (hj : j' < b.size + 1) : stageC a.data.toList b.data.toList i (-1) i' j' = stageC a.data.toList b.data.toList ((i : Int) - 1) ((b.size : Int) - 1) i' j' := by
  unfold stageC
  by_cases h : (i : Int) < i' ∨ ((i : Int) = i' ∧ (-1 : Int) < j')
  · rw [if_pos h, if_pos (by omega)]
  · rw [if_neg h]
    split
    · exact (lcsT_out a b i' j' (by omega)).symm
    · rfl
theorem stageC_done (a b : List UInt8) (k : Int) (i' j' : Nat) : stageC a b (-1) k i' j' = lcsT a b i' j' := by
  unfold stageC; rw [if_pos (by omega)]
theorem stageC_in {a b : List UInt8} {i j : Int} {i' j' : Nat} (h : i < i' ∨ (i = i' ∧ j < j')) : stageC a b i j i' j' = lcsT a b i' j' := by
  unfold stageC; rw [if_pos h]

set_option maxHeartbeats 4000000 in
theorem s_common (a b : ByteArray) (w : World) (ha : a.size ≤ 40) (hb : b.size ≤ 40) :
    Calls Try.prog 66 #[.string a, .string b] w (RetTab (lcsT a.data.toList b.data.toList) (a.size + 1) (b.size + 1) w) := by
  go_enter Try.func66, Try.ntmps66
  go_wp2
  go_loopw [5, 6] (fun v i wr => ∃ (k : Nat) (gs : List Nat), k ≤ a.size + 1 ∧ i = .int .i64 k ∧ wr.ownsRow w.heap.size 27 1 v k (rowsV gs (b.size + 1)) ∧ gs.Nodup ∧ (∀ g, g ∈ gs → w.heap.size ≤ g ∧ Zrow wr g (b.size + 1)) ∧ Below w.heap.size w wr) (fun _ i _ => a.size + 1 - (intOf i).toNat)
  case atStart => exact ⟨0, [], by omega, rfl, rows_made w _, List.nodup_nil, by simp, (Below.refl _ _).alloc (Nat.le_refl _) _⟩
  case round =>
    obtain ⟨k, gs, hk, rfl, hown, hd, hz, hbw⟩ := hrel
    have hwr := hbw.size
    by_cases hlt : k ≤ a.size
    · go_wp2_with (first | (at_make; refine wpList_make_ints _ rfl _ _ rfl (b.size + 1) _ _ rfl rfl (by omega) (by omega) (by omega) ?_; intro w1 hz1 hg1) | (at_builtin; refine wpList_append_row rfl _ _ rfl w.heap.size _ _ _ _ rfl (owns_kept0 hown hg1) rfl rfl (by omega) ((hbw.grown hg1 hwr (fun k e => by cases e)).size) ?_; intro v' w2 hown2 hgrow2))
      have R := rows_next hd hz hbw hown hz1 hg1 hown2 hgrow2
      go_roundw
      case rel => exact ⟨k + 1, gs ++ [wr.heap.size], by omega, by go_num, R.1, R.2.1, R.2.2.1, R.2.2.2⟩
      case measure => simp [intOf]; omega
    · have hk1 : a.size < k := by omega
      obtain ⟨hgl, gT, cap, rfl, hgT, htab⟩ := Tab.of_owns hown (by omega) hd hz
      clear hown hd hz
      have htab1 := Lib.hid (htab.congr (T' := stageC a.data.toList b.data.toList (a.size - 1) (b.size - 1)) fun i j hi hj => by
        unfold stageC; split
        · rename_i h; exact (lcsT_out a b i j (by omega)).symm
        · rfl)
      clear htab
      have HL := Lib.hid hgl; clear hgl
      go_wp2
      go_loopw [7, 8] (fun i _ wr => ∃ ii : Int, -1 ≤ ii ∧ ii ≤ (a.size : Int) - 1 ∧ i = .int .i64 ii ∧ Tab wr w.heap.size gT gs (b.size + 1) (stageC a.data.toList b.data.toList ii (b.size - 1)) ∧ Below w.heap.size w wr) (fun i _ _ => ((intOf i) + 1).toNat)
      case atStart => exact ⟨_, by omega, by omega, rfl, htab1.out, hbw⟩
      case round =>
        obtain ⟨ii, hii0, hii1, rfl, htab, hbw2⟩ := hrel
        clear htab1 hbw
        by_cases h0 : 0 ≤ ii
        · obtain ⟨i, rfl⟩ := Int.eq_ofNat_of_zero_le h0
          go_wp2
          obtain ⟨g, hg⟩ : ∃ g, gs[i]? = some g := ⟨_, List.getElem?_eq_getElem (by rw [HL.out]; omega)⟩
          obtain ⟨g1, hg1⟩ : ∃ g, gs[i + 1]? = some g := ⟨_, List.getElem?_eq_getElem (by rw [HL.out]; omega)⟩
          have HG := Lib.hid hg; have HG1 := Lib.hid hg1; clear hg hg1
          go_loopw [8] (fun k wr => ∃ jj : Int, -1 ≤ jj ∧ jj ≤ (b.size : Int) - 1 ∧ k = .int .i64 jj ∧ Tab wr w.heap.size gT gs (b.size + 1) (stageC a.data.toList b.data.toList i jj) ∧ Below w.heap.size w wr) (fun k _ => ((intOf k) + 1).toNat)
          case atStart => exact ⟨_, by omega, by omega, rfl, htab, hbw2⟩
          case round =>
            obtain ⟨jj, hjj0, hjj1, rfl, htab3, hbw3⟩ := hrel
            clear htab hbw2
            by_cases hj0 : 0 ≤ jj
            · obtain ⟨j, rfl⟩ := Int.eq_ofNat_of_zero_le hj0
              have hia : i < a.size := by omega
              have hjb : j < b.size := by omega
              go_wp2
              go_quiet (fail)
              go_wp2
              · have e1 : IntKind.i64.wrap ((i : Int) + 1) = i + 1 := IntWalk.i64_in _ (by omega)
                have e3 : ((i : Int) + 1).toNat = i + 1 := by omega
                have e4 : (0 : Int) ≤ (i : Int) + 1 := by omega
                have e5 : IntKind.i64.wrap ((j : Int) + 1) = j + 1 := IntWalk.i64_in _ (by omega)
                have e7 : ((j : Int) + 1).toNat = j + 1 := by omega
                have e8 : (0 : Int) ≤ (j : Int) + 1 := by omega
                have e9 : i < k := by omega
                have e11 : i + 1 < k := by omega
                have e12 : (i : Int) < k := by omega
                have e13 : (i : Int) + 1 < k := by omega
                have e10 : (j : Int) < b.size + 1 := by omega
                refine still_tail_abs 16 (by kernel_rfl) (by kernel_rfl) ?_
                intro w5 hst5
                have htab5 := htab3.still (((Still.refl wr).drewN nq).trans hst5)
                have c0 := (htab5.2.2 i g HG.out).1.2.2
                have c1 := (htab5.2.2 (i + 1) g1 HG1.out).1.2.2
                have c2 := ((htab5.2.2 i g HG.out).2 j (by omega)).1
                have c2f := ((htab5.2.2 i g HG.out).2 j (by omega)).2
                have c3 := ((htab5.2.2 (i + 1) g1 HG1.out).2 (j + 1) (by omega)).1
                rw [stageC_in (by omega)] at c3
                obtain ⟨hx0, hx1⟩ := lcsT_le a.data.toList b.data.toList (i + 1) (j + 1)
                rw [list_len, list_len] at hx1
                have HE := Lib.hid (lcsT_eq hia hjb (byte_eq ‹_›))
                obtain ⟨x, hx⟩ : ∃ x, x = lcsT a.data.toList b.data.toList (i + 1) (j + 1) := ⟨_, rfl⟩
                rw [← hx] at c3 hx0 hx1
                have HX := Lib.hid hx; clear hx
                simp only [List.take_succ_cons, List.take_zero, List.drop_succ_cons, List.drop_zero]
                repeat still_step
                refine wpStill_nil ?_
                go_wp2
                go_roundw
                case rel => exact ⟨(j : Int) - 1, by omega, by omega, rfl, (htab5.store HG.out (by omega) _).congr fun i' j' _ _ => stageC_step (by rw [HE.out, HX.out]) i' j', (((below_drewN hbw3 nq).trans (hst5.below _))).setCell (p := ⟨g, j, none⟩) (htab5.2.2 i g HG.out).1.1 _⟩
                case measure => simp [intOf]
              · have e1 : IntKind.i64.wrap ((i : Int) + 1) = i + 1 := IntWalk.i64_in _ (by omega)
                have e3 : ((i : Int) + 1).toNat = i + 1 := by omega
                have e4 : (0 : Int) ≤ (i : Int) + 1 := by omega
                have e5 : IntKind.i64.wrap ((j : Int) + 1) = j + 1 := IntWalk.i64_in _ (by omega)
                have e7 : ((j : Int) + 1).toNat = j + 1 := by omega
                have e8 : (0 : Int) ≤ (j : Int) + 1 := by omega
                have e9 : i < k := by omega
                have e11 : i + 1 < k := by omega
                have e12 : (i : Int) < k := by omega
                have e13 : (i : Int) + 1 < k := by omega
                have e10 : (j : Int) < b.size + 1 := by omega
                refine still_tail_abs 23 (by kernel_rfl) (by kernel_rfl) ?_
                intro w5 hst5
                have htab5 := htab3.still (((Still.refl wr).drewN nq).trans hst5)
                have c0 := (htab5.2.2 i g HG.out).1.2.2
                have c1 := (htab5.2.2 (i + 1) g1 HG1.out).1.2.2
                have c2 := ((htab5.2.2 i g HG.out).2 j (by omega)).1
                have c2f := ((htab5.2.2 i g HG.out).2 j (by omega)).2
                have c3 := ((htab5.2.2 (i + 1) g1 HG1.out).2 j (by omega)).1
                rw [stageC_in (by omega)] at c3
                have c4 := ((htab5.2.2 i g HG.out).2 (j + 1) (by omega)).1
                rw [stageC_in (by omega)] at c4
                have HE := Lib.hid (lcsT_ne hia hjb (byte_ne ‹_›))
                obtain ⟨x, hx⟩ : ∃ x, x = lcsT a.data.toList b.data.toList (i + 1) j := ⟨_, rfl⟩
                obtain ⟨y, hy⟩ : ∃ y, y = lcsT a.data.toList b.data.toList i (j + 1) := ⟨_, rfl⟩
                rw [← hx] at c3
                rw [← hy] at c4
                have HX := Lib.hid hx; have HY := Lib.hid hy; clear hx hy
                by_cases hxy : x < y
                all_goals
                  simp only [List.take_succ_cons, List.take_zero, List.drop_succ_cons, List.drop_zero]
                  repeat still_step
                  refine wpStill_nil ?_
                  go_wp2
                  go_roundw
                  case rel => exact ⟨(j : Int) - 1, by omega, by omega, rfl, (htab5.store HG.out (by omega) _).congr fun i' j' _ _ => stageC_step (by rw [HE.out, ← HX.out, ← HY.out]; omega) i' j', (((below_drewN hbw3 nq).trans (hst5.below _))).setCell (p := ⟨g, j, none⟩) (htab5.2.2 i g HG.out).1.1 _⟩
                  case measure => simp [intOf]
            · obtain rfl : jj = -1 := by omega
              go_wp2
              go_roundw
              case rel => exact ⟨(i : Int) - 1, by omega, by omega, rfl, htab3.congr fun i' j' _ hj => stageC_row i' j' hj, hbw3⟩
              case measure => simp [intOf]
        · obtain rfl : ii = -1 := by omega
          obtain rfl : k = a.size + 1 := by omega
          go_wp2
          go_ret
          exact ⟨gT, cap, gs, rfl, HL, htab.congr fun i' j' _ _ => stageC_done _ _ _ i' j', hbw2⟩
end Go.Proofs.Ytokpcdclaifkpaa
