/- Slices of strings as arguments and as results: the laws' helpers. -/
import Derived.Test.YtpabgagfkicobaaPs
import Derived.Deep.RegionHeld3
import Derived.BigQuiet
import Derived.SliceStrings
import Derived.OpenShut
namespace Go.Proofs.Ytpabgagfkicobaa
open Go.RowKit
set_option linter.unusedVariables false

def strF (xs : List ByteArray) (i : Nat) : Value := .string (xs[i]?.getD ⟨#[]⟩)
/-- A slice of strings at whatever place reads as xs. -/
def StrsOf (W : World) (pa : Option Addr) (n cap : Nat) (xs : List ByteArray) : Prop :=
  xs.length = n ∧ n ≤ cap ∧ cap ≤ maxLen ∧ (∀ x ∈ xs, x.size ≤ maxLen) ∧ ∀ i, i < n → ∃ b off, pa = some ⟨b, off, none⟩ ∧ W.cell? ⟨b, off + i, none⟩ = some (strF xs i)
def StrsAt (W : World) (pa : Option Addr) (n cap : Nat) : Prop := ∃ xs, StrsOf W pa n cap xs
theorem StrsOf.kept {W W' : World} {pa : Option Addr} {n cap : Nat} {xs : List ByteArray} (h : StrsOf W pa n cap xs) (hb : Below W.heap.size W W') : StrsOf W' pa n cap xs :=
  ⟨h.1, h.2.1, h.2.2.1, h.2.2.2.1, fun i hi => by
    obtain ⟨b, off, e, c0⟩ := h.2.2.2.2 i hi
    exact ⟨b, off, e, (hb.cell (p := ⟨b, off + i, none⟩) (cell_lt c0)).trans c0⟩⟩
theorem str_size {xs : List ByteArray} (h : ∀ x ∈ xs, x.size ≤ maxLen) (k : Nat) : (xs[k]?.getD ⟨#[]⟩).size ≤ maxLen := by
  by_cases hk : k < xs.length
  · rw [List.getElem?_eq_getElem hk]; exact h _ (List.getElem_mem hk)
  · rw [List.getElem?_eq_none (by omega)]; exact Nat.zero_le _
theorem RowF.of_made1 {W : World} {lo m : Nat} {e : TypeId} {n g ca : Nat} {vs : List Value} (h : W.ownsRow lo e m (.slice (some ⟨g, 0, none⟩) n ca) n vs) :
    RowF W lo W.heap.size (some ⟨g, 0, none⟩) (n * m) (fun i => vs[i]?.getD undef) := by
  have hown := h
  obtain ⟨hl, hcase⟩ := h
  rcases hcase with ⟨h0, _⟩ | ⟨g', cap, cur, e', hg, hh, hn, hcap, hsz, htake⟩
  · cases h0
  · cases e'
    intro i hi
    have hv : vs[i]? = some (vs[i]?.getD undef) := by rw [List.getElem?_eq_getElem (by omega)]; rfl
    refine ⟨g, rfl, hg, (Array.getElem?_eq_some_iff.1 hh).1, ?_, by simp [World.frozen?, hh]⟩
    have := hown.cells (g := g) rfl i _ hv
    rw [show (⟨g, i, none⟩ : Addr) = (⟨g, 0, none⟩ : Addr).add i from by cases i <;> simp [Addr.add]]
    exact this
def mixS (m : Nat) (f g : Nat → Value) (t : Nat) : Value := if t < m then f t else g t
theorem mixS_none (f g : Nat → Value) (t : Nat) : mixS 0 f g t = g t := by unfold mixS; rw [if_neg (by omega)]
theorem mixS_all {n : Nat} {f g : Nat → Value} {t : Nat} (h : t < n) : mixS n f g t = f t := by unfold mixS; rw [if_pos h]
theorem mixS_step {k : Nat} {g : Nat → Value} {v : Value} {f : Nat → Value} (h0 : v = f k) (t : Nat) : updF (mixS k f g) k v t = mixS (k + 1) f g t := by
  unfold updF mixS
  by_cases e : t = k
  · rw [if_pos e, if_pos (by omega), h0, e]
  · rw [if_neg e]
    by_cases e2 : t < k
    · rw [if_pos e2, if_pos (by omega)]
    · rw [if_neg e2, if_neg (by omega)]
theorem info_strS : (Try.prog.info? 9).map (fun i => (i.zero, i.size, i.bytes)) = some (some (.string ⟨#[]⟩), 1, 16) := by kernel_rfl
/-- The call hands back a new slice of strings. -/
def RetStr (xs : List ByteArray) (w : World) (e : Ending) (w' : World) : Prop :=
  ∃ pa n ca, e = .returned (.slice pa n ca) ∧ Hid (xs.length = n) ∧ n ≤ ca ∧ ca ≤ maxLen ∧ RowF w' w.heap.size w'.heap.size pa n (strF xs) ∧ Below w.heap.size w w'
set_option maxHeartbeats 2000000 in
theorem l_toStringS (pa : Option Addr) (n cap : Nat) (xs : List ByteArray) (w : World) (hx : StrsOf w pa n cap xs) (hn : n ≤ 1048576) :
    Calls Try.prog 10 #[.slice pa n cap] w (RetStr xs w) := by
  have HX := Lib.hid hx; clear hx
  obtain ⟨i0, hi, hz0, hz1, hz2⟩ := info_parts info_strS
  go_enter Try.func10, Try.ntmps10
  go_wp2_with (at_make; refine wpList_make_full _ rfl _ _ 22 rfl w.heap.size 9 i0 _ 1 Try.underlying22 hi hz0 hz1 .i64 .i64 _ _ n rfl rfl rfl rfl (by rw [hz2]; omega) (by unfold maxLen; omega) (Nat.le_refl _) ?_; intro w1 hown1 hg1)
  have hr1 := RowF.of_made1 hown1
  have hb1 : Below w.heap.size w w1 := (Below.refl _ _).grown hg1 (Nat.le_refl _) (fun k e => by cases e)
  obtain ⟨f, hf⟩ : ∃ f : Nat → Value, f = fun i => (madeCells (Value.cells (.string ⟨#[]⟩)) (n * 1)).toList[i]?.getD undef := ⟨_, rfl⟩
  rw [← hf] at hr1
  have hr1 := hr1.less (M := n) (by omega)
  clear hf hown1 hg1 hi hz0 hz1 hz2
  go_loopw [4] (fun i wr => ∃ k : Nat, k ≤ n ∧ i = .int .i64 k ∧ RowF wr w.heap.size w1.heap.size (some ⟨w.heap.size, 0, none⟩) n (mixS k (strF xs) f) ∧ w1.heap.size ≤ wr.heap.size ∧ Below w.heap.size w wr) (fun i _ => n - (intOf i).toNat)
  case atStart => exact ⟨0, Nat.zero_le _, rfl, hr1.congr fun i _ => (mixS_none _ _ _).symm, Nat.le_refl _, hb1⟩
  case round =>
    obtain ⟨k, hk, rfl, hr, hsz, hb⟩ := hrel
    by_cases hlt : k < n
    · obtain ⟨b, off, rfl, c0⟩ := (HX.out.kept hb).2.2.2.2 k hlt
      have hcap : n ≤ cap := HX.out.2.1
      obtain ⟨x, hx⟩ : ∃ x, x = xs[k]?.getD ⟨#[]⟩ := ⟨_, rfl⟩
      have hp0 : strF xs k = .string x := by rw [hx]; rfl
      rw [hp0] at c0
      clear hx
      have e1 : (k : Int) < n := by omega
      obtain ⟨_, e2, _, _, d0, f0⟩ := hr k hlt
      cases e2
      have hr4 := (hr.set (j := k) hlt (.string x)).congr fun t _ => mixS_step (f := strF xs) (g := f) hp0.symm t
      have hB4 := hb.setCell (p := ⟨w.heap.size, k, none⟩) (Nat.le_refl _) (.string x)
      have H4 := Lib.hid hr4
      clear hr hr4 hp0
      go_wp2
      go_roundw
      case rel => exact ⟨k + 1, by omega, by go_num, H4.out, by rw [World.size_setCell]; omega, hB4⟩
      case measure => simp [intOf]; omega
    · obtain rfl : k = n := by omega
      go_wp2
      go_ret
      exact ⟨_, k, k, rfl, Lib.hid HX.out.1, Nat.le_refl _, by unfold maxLen; omega, (hr.congr fun i hi => mixS_all hi).mono (Nat.le_refl _) hsz, hb⟩
set_option maxHeartbeats 1000000 in
theorem l_eqStringS (pa pb : Option Addr) (n ca cb : Nat) (xs : List ByteArray) (la ha lb hi2 : Nat) (w : World) (hle : n ≤ 1048576) (ra : RowF w la ha pa n (strF xs)) (rb : RowF w lb hi2 pb n (strF xs)) :
    Calls Try.prog 12 #[.slice pa n ca, .slice pb n cb] w fun e w' => e = .returned (.bool true) ∧ Below w.heap.size w w' := by
  go_enter Try.func12, Try.ntmps12
  go_wp2
  go_loopw [5] (fun i wr => ∃ k : Nat, k ≤ n ∧ i = .int .i64 k ∧ Below w.heap.size w wr) (fun i _ => n - (intOf i).toNat)
  case atStart => exact ⟨0, Nat.zero_le _, rfl, Below.refl _ _⟩
  case round =>
    obtain ⟨k, hk, rfl, hb⟩ := hrel
    by_cases hlt : k < n
    · obtain ⟨ga, rfl, _, _, a1, _⟩ := (ra.kept hb) k hlt
      obtain ⟨gb, rfl, _, _, b1, _⟩ := (rb.kept hb) k hlt
      unfold strF at a1 b1
      obtain ⟨x, hx⟩ : ∃ x, x = xs[k]?.getD ⟨#[]⟩ := ⟨_, rfl⟩
      rw [← hx] at a1 b1
      clear hx
      have e1 : (k : Int) < n := by omega
      go_wp2
      go_quiet (fail)
      go_wp2
      go_roundw
      case rel => exact ⟨k + 1, by omega, by go_num, below_drewN hb _⟩
      case measure => simp [intOf]; omega
    · go_wp2
      go_ret
      exact ⟨rfl, hb⟩
/-- What szStringS tells. -/
def SzsRet (xs : List ByteArray) (w : World) (e : Ending) (w' : World) : Prop := ∃ r : Int, e = .returned (.int .i64 r) ∧ Hid (0 ≤ r → xs.length ≤ 1048576 ∧ ∀ i, i < xs.length → (xs[i]?.getD ⟨#[]⟩).size ≤ 1048576) ∧ -1 ≤ r ∧ r ≤ 1048576 ∧ Below w.heap.size w w'
set_option maxHeartbeats 1000000 in
theorem l_szStringS (pa : Option Addr) (n cap : Nat) (xs : List ByteArray) (w : World) (hx : StrsOf w pa n cap xs) :
    Calls Try.prog 8 #[.slice pa n cap, .int .i64 1048576] w (SzsRet xs w) := by
  have HX := Lib.hid hx
  obtain ⟨hl, hnc, hcm, _, _⟩ := hx
  unfold maxLen at hcm
  have HL := Lib.hid hl; clear hl
  by_cases hbig : n ≤ 1048576
  · go_enter Try.func8, Try.ntmps8
    go_wp2
    go_loopw [1, 5] (fun l i wr => ∃ (k : Nat) (z : Int), k ≤ n ∧ i = .int .i64 k ∧ l = .int .i64 z ∧ 0 ≤ z ∧ z ≤ 1048576 ∧ Hid (∀ i, i < k → (xs[i]?.getD ⟨#[]⟩).size ≤ 1048576) ∧ Below w.heap.size w wr) (fun _ i _ => n - (intOf i).toNat)
    case atStart => exact ⟨0, 1048576 - n, Nat.zero_le _, rfl, rfl, by omega, by omega, Lib.hid (fun i hi => by omega), Below.refl _ _⟩
    case round =>
      obtain ⟨k, l, hk, rfl, rfl, hl0, hl1, HZ, hb⟩ := hrel
      by_cases hlt : k < n
      · obtain ⟨b, off, rfl, c0⟩ := (HX.out.kept hb).2.2.2.2 k hlt
        have hzs := str_size HX.out.2.2.2.1 k
        unfold strF at c0
        obtain ⟨z, hz⟩ : ∃ z, z = xs[k]?.getD ⟨#[]⟩ := ⟨_, rfl⟩
        rw [← hz] at c0 hzs
        unfold maxLen at hzs
        have HZE := Lib.hid hz
        clear hz
        have e1 : (k : Int) < n := by omega
        by_cases h : l - (z.size : Int) < 0
        · go_wp2
          go_ret
          exact ⟨-1, rfl, Lib.hid (fun h => by omega), by omega, by omega, hb⟩
        · go_wp2
          go_roundw
          case rel => exact ⟨k + 1, l - z.size, by omega, by go_num, rfl, by omega, by omega, Lib.hid (fun i hi => by
              by_cases e : i = k
              · subst e; rw [← HZE.out]; omega
              · exact HZ.out i (by omega)), hb⟩
          case measure => simp [intOf]; omega
      · obtain rfl : k = n := by omega
        go_wp2
        go_ret
        exact ⟨l, rfl, Lib.hid (fun _ => ⟨by rw [HL.out]; exact hbig, by rw [HL.out]; exact HZ.out⟩), by omega, by omega, hb⟩
  · go_enter Try.func8, Try.ntmps8
    go_wp2
    go_ret
    exact ⟨-1, rfl, Lib.hid (fun h => by omega), by omega, by omega, Below.refl _ _⟩
theorem cells_str : Try.prog.cellsOf 9 = 1 := by kernel_rfl
theorem StrsAt.of_trod {H : Type} {enc : TypeId × Value → H} {W : World} {base : Nat} {held : Bool} {pa : Option Addr} {n cap : Nat} {d : DataW H} {ps : List MemPlace}
    (h : DataW.Trod enc Try.prog W base (fun _ => true) held 22 (.slice pa n cap) d ps) : StrsAt W pa n cap := by
  obtain ⟨fuel, hf⟩ := h
  rcases Go.ChangeShapes.open_strings Try.underlying22 Try.underlying9 cells_str hf with ⟨hcs, hx⟩ | ⟨a, len', cap', zs, hcs, _, hl, hm, hz, hx, hcell, hwz⟩
  · simp [Value.cells] at hcs
    obtain ⟨rfl, rfl, rfl⟩ := hcs
    exact ⟨[], rfl, Nat.le_refl _, Nat.zero_le _, by simp, fun i hi => by omega⟩
  · simp [Value.cells] at hcs
    obtain ⟨rfl, rfl, rfl⟩ := hcs
    simp at hz
    refine ⟨zs.take n, by rw [List.length_take]; omega, hl, hm, fun x hx => hwz x (List.mem_of_mem_take hx), fun i hi => ?_⟩
    obtain ⟨b, off, spot⟩ := a
    have hspot : spot = none := by
      have := World.cell?_spot (hcell 0 (by omega))
      simpa [Addr.add] using this
    subst hspot
    refine ⟨b, off, rfl, ?_⟩
    unfold strF
    rw [List.getElem?_take_of_lt hi, ← Go.WideShapes.add_plain, hcell i (by omega), List.getD_eq_getElem?_getD]; rfl
/-- The marks of strings. -/
def strM (t : Nat) : Value := .string (markT (t + 1))
theorem l_markTextS (z : Int) (k : Nat) (w : World) (hz : z = k) (h0 : 0 < k) (hk : k ≤ 100000000) :
    Calls Try.prog 31 #[.int .i64 z] w fun e w' => e = .returned (.string (markT k)) ∧ Below w.heap.size w w' := by
  subst hz; exact l_markText k w h0 hk
set_option maxHeartbeats 2000000 in
theorem l_markStringS (pa : Option Addr) (n ca : Nat) (f : Nat → Value) (lo hi : Nat) (w : World) (hle : n ≤ 1048576) (ra : RowF w lo hi pa n f) :
    Calls Try.prog 13 #[.slice pa n ca, .int .i64 1] w fun e w' => e = .returned (.int .i64 ((n : Int) + 1)) ∧ OnlyF lo hi w w' ∧ RowF w' lo hi pa n strM := by
  go_enter Try.func13, Try.ntmps13
  go_wp2
  go_loopw [1, 5] (fun m i wr => ∃ k : Nat, k ≤ n ∧ i = .int .i64 k ∧ m = .int .i64 ((k : Int) + 1) ∧ OnlyF lo hi w wr ∧ RowF wr lo hi pa n (mixS k strM f)) (fun _ i _ => n - (intOf i).toNat)
  case atStart => exact ⟨0, Nat.zero_le _, rfl, rfl, OnlyF.refl _ _ _, ra.congr fun i _ => (mixS_none _ _ _).symm⟩
  case round =>
    obtain ⟨k, hk, rfl, rfl, hb, hr⟩ := hrel
    by_cases hlt : k < n
    · have e1 : (k : Int) < n := by omega
      obtain ⟨g, rfl, hg1, hg2, c0, f0⟩ := hr k hlt
      go_wp2_with fail
      refine (l_markTextS ((k : Int) + 1) (k + 1) _ (by omega) (by omega) (by omega)).mono ?_; rintro e w3 ⟨rfl, hb3⟩
      have r3 := hr.kept hb3
      have b3 := hb.then hb3
      obtain ⟨_, e3, _, _, c3, f3⟩ := r3 k hlt
      cases e3
      have r5 := (r3.set (j := k) hlt (.string (markT (k + 1)))).congr fun t _ => mixS_step (f := strM) (g := f) rfl t
      have b4 := b3.setCell hg1 hg2 (i := k) (.string (markT (k + 1)))
      have H5 := Lib.hid r5
      clear r3 r5 hb hr b3
      go_wp2
      go_roundw
      case rel => exact ⟨k + 1, by omega, by go_num, by go_num, b4, H5.out⟩
      case measure => simp [intOf]; omega
    · obtain rfl : k = n := by omega
      go_wp2
      go_ret
      exact ⟨rfl, hb, hr.congr fun i hi => mixS_all hi⟩
set_option maxHeartbeats 2000000 in
theorem l_heldStringS (pa : Option Addr) (n ca : Nat) (lo hi : Nat) (w : World) (hle : n ≤ 1048576) (ra : RowF w lo hi pa n strM) :
    Calls Try.prog 14 #[.slice pa n ca, .int .i64 1] w fun e w' => e = .returned (.int .i64 ((n : Int) + 1)) ∧ Below w.heap.size w w' := by
  go_enter Try.func14, Try.ntmps14
  go_wp2
  go_loopw [1, 5] (fun m i wr => ∃ k : Nat, k ≤ n ∧ i = .int .i64 k ∧ m = .int .i64 ((k : Int) + 1) ∧ Below w.heap.size w wr) (fun _ i _ => n - (intOf i).toNat)
  case atStart => exact ⟨0, Nat.zero_le _, rfl, rfl, Below.refl _ _⟩
  case round =>
    obtain ⟨k, hk, rfl, rfl, hb⟩ := hrel
    by_cases hlt : k < n
    · obtain ⟨g, rfl, _, _, c1, _⟩ := (ra.kept hb) k hlt
      unfold strM at c1
      have e1 : (k : Int) < n := by omega
      obtain ⟨mt, hmt⟩ : ∃ mt, mt = markT (k + 1) := ⟨_, rfl⟩
      rw [← hmt] at c1
      have HMT := Lib.hid hmt; clear hmt
      have hl2 := cell_lt c1
      go_wp2
      go_region_held3 (fun w' => w'.cell? ⟨g, k, none⟩ = some (.string mt)) (first | exact c1 | exact (Below.cell (w := wr.drew) (by assumption) hl2).trans c1)
        ((go_at_call 31; refine (l_markTextS ((k : Int) + 1) (k + 1) _ (by omega) (by omega) (by omega)).mono ?_; rintro e w' ⟨rfl, hbn⟩; rw [← HMT.out]))
      go_wp2
      go_roundw
      case rel => exact ⟨k + 1, by omega, by go_num, by go_num, below_then (a := wr.drew) (hb.trans (Below.refl _ _).drew) hbn⟩
      case measure => simp [intOf]; omega
    · obtain rfl : k = n := by omega
      go_wp2
      go_ret
      exact ⟨rfl, hb⟩
end Go.Proofs.Ytpabgagfkicobaa
