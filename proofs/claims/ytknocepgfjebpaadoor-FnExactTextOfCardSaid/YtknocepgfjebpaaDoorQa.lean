/- Slices of phrases as arguments: toPhraseS, szPhraseS, eqPhraseS. -/
import Derived.Test.YtknocepgfjebpaaDoorPs
import Derived.Deep.RegionHeld3
import Derived.Deep.Slices
import Derived.Deep.Fields
import Derived.ChangeSame
namespace Go.Proofs.YtknocepgfjebpaaDoor
open Go.RowKit
set_option linter.unusedVariables false

abbrev PhP := Int × Int × ByteArray
def phCells (p : PhP) : List Value := [.int .i64 p.1, .int .i64 p.2.1, .string p.2.2]
def phFld (j : Nat) (p : PhP) : Value := match j with | 0 => .int .i64 p.1 | 1 => .int .i64 p.2.1 | _ => .string p.2.2
def phNo : PhP := (0, 0, ⟨#[]⟩)
def phF (ps : List PhP) : Nat → Value := stF 3 phFld phNo ps
theorem phCells_len (p : PhP) : (phCells p).length = 3 := rfl
theorem phCells_get (p : PhP) (j : Nat) (hj : j < 3) : (phCells p)[j]? = some (phFld j p) := by
  match j, hj with
  | 0, _ => rfl
  | 1, _ => rfl
  | 2, _ => rfl
theorem info_ph : (Tryd.prog.info? 33).map (fun i => (i.zero, i.size, i.bytes)) = some (some (.agg #[.int .i64 0, .int .i64 0, .string ⟨#[]⟩]), 3, 32) := by kernel_rfl
def RetPh (ps : List PhP) (w : World) (e : Ending) (w' : World) : Prop :=
  ∃ pa n ca, e = .returned (.slice pa n ca) ∧ Hid (ps.length = n) ∧ n ≤ 1048576 ∧ RowF w' w.heap.size w'.heap.size pa (n * 3) (phF ps) ∧ Below w.heap.size w w'
theorem six_kept {w w' : World} {a1 a2 a3 a4 a5 a6 : Addr} {v1 v2 v3 v4 v5 v6 : Value} (hb : Below w.heap.size w w') (hl : a1.block < w.heap.size ∧ a4.block < w.heap.size ∧ a2.block = a1.block ∧ a3.block = a1.block ∧ a5.block = a4.block ∧ a6.block = a4.block)
    (h : w.cell? a1 = some v1 ∧ w.cell? a2 = some v2 ∧ w.cell? a3 = some v3 ∧ w.cell? a4 = some v4 ∧ w.cell? a5 = some v5 ∧ w.cell? a6 = some v6) :
    w'.cell? a1 = some v1 ∧ w'.cell? a2 = some v2 ∧ w'.cell? a3 = some v3 ∧ w'.cell? a4 = some v4 ∧ w'.cell? a5 = some v5 ∧ w'.cell? a6 = some v6 := by
  obtain ⟨l1, l4, e2, e3, e5, e6⟩ := hl
  exact ⟨(hb.cell l1).trans h.1, (hb.cell (by omega)).trans h.2.1, (hb.cell (by omega)).trans h.2.2.1, (hb.cell l4).trans h.2.2.2.1, (hb.cell (by omega)).trans h.2.2.2.2.1, (hb.cell (by omega)).trans h.2.2.2.2.2⟩
theorem ph_cells {W : World} {lo hi n : Nat} {pa : Option Addr} {ps : List PhP} (h : RowF W lo hi pa (n * 3) (phF ps)) {k : Nat} (hk : k < n) :
    ∃ g, pa = some ⟨g, 0, none⟩ ∧ lo ≤ g ∧ g < hi ∧ W.cell? ⟨g, k * 3, none⟩ = some (.int .i64 (ps[k]?.getD phNo).1) ∧ W.cell? ⟨g, k * 3 + 1, none⟩ = some (.int .i64 (ps[k]?.getD phNo).2.1) ∧ W.cell? ⟨g, k * 3 + 2, none⟩ = some (.string (ps[k]?.getD phNo).2.2) := by
  obtain ⟨g, e, h1, h2, h3, _⟩ := h (k * 3 + 0) (by omega)
  obtain ⟨g', e', _, _, h4, _⟩ := h (k * 3 + 1) (by omega)
  obtain ⟨g'', e'', _, _, h5, _⟩ := h (k * 3 + 2) (by omega)
  rw [e] at e' e''
  cases e'; cases e''
  unfold phF at h3 h4 h5
  rw [stF_at (by omega)] at h3 h4 h5
  exact ⟨g, e, h1, h2, h3, h4, h5⟩

set_option maxHeartbeats 400000 in
theorem l_eqPhrase (a b : Int) (c : ByteArray) (w : World) : Calls Tryd.prog 15 #[.agg #[.int .i64 a, .int .i64 b, .string c], .agg #[.int .i64 a, .int .i64 b, .string c]] w fun e w' => e = .returned (.bool true) ∧ Below w.heap.size w w' := by
  go_enter Tryd.func15, Tryd.ntmps15
  go_wp2
  go_ret
  exact ⟨rfl, ((Below.refl _ w).alloc (Nat.le_refl _) _).alloc (by simp) _⟩
set_option maxHeartbeats 1000000 in
theorem l_eqPhraseS (pa pb : Option Addr) (n ca cb : Nat) (ps : List PhP) (la ha lb hi2 : Nat) (w : World) (hle : n ≤ 1048576) (ra : RowF w la ha pa (n * 3) (phF ps)) (rb : RowF w lb hi2 pb (n * 3) (phF ps)) :
    Calls Tryd.prog 8 #[.slice pa n ca, .slice pb n cb] w fun e w' => e = .returned (.bool true) ∧ Below w.heap.size w w' := by
  go_enter Tryd.func8, Tryd.ntmps8
  go_wp2
  go_loopw [5] (fun i wr => ∃ k : Nat, k ≤ n ∧ i = .int .i64 k ∧ Below w.heap.size w wr) (fun i _ => n - (intOf i).toNat)
  case atStart => exact ⟨0, Nat.zero_le _, rfl, Below.refl _ _⟩
  case round =>
    obtain ⟨k, hk, rfl, hb⟩ := hrel
    by_cases hlt : k < n
    · obtain ⟨ga, rfl, _, _, a1, a2, a3⟩ := ph_cells (ra.kept hb) hlt
      obtain ⟨gb, rfl, _, _, b1, b2, b3⟩ := ph_cells (rb.kept hb) hlt
      obtain ⟨x, hx⟩ : ∃ x, x = (ps[k]?.getD phNo).1 := ⟨_, rfl⟩
      obtain ⟨y, hy⟩ : ∃ y, y = (ps[k]?.getD phNo).2.1 := ⟨_, rfl⟩
      obtain ⟨z, hz⟩ : ∃ z, z = (ps[k]?.getD phNo).2.2 := ⟨_, rfl⟩
      rw [← hx] at a1 b1; rw [← hy] at a2 b2; rw [← hz] at a3 b3
      clear hx hy hz
      have la1 := cell_lt a1; have lb1 := cell_lt b1
      have e1 : (k : Int) < n := by omega
      go_wp2
      go_region_held3 (fun w' => w'.cell? ⟨ga, k * 3, none⟩ = some (.int .i64 x) ∧ w'.cell? ⟨ga, k * 3 + 1, none⟩ = some (.int .i64 y) ∧ w'.cell? ⟨ga, k * 3 + 2, none⟩ = some (.string z) ∧ w'.cell? ⟨gb, k * 3, none⟩ = some (.int .i64 x) ∧ w'.cell? ⟨gb, k * 3 + 1, none⟩ = some (.int .i64 y) ∧ w'.cell? ⟨gb, k * 3 + 2, none⟩ = some (.string z))
        (first | exact ⟨a1, a2, a3, b1, b2, b3⟩ | exact six_kept (w := wr.drew) (by assumption) ⟨la1, lb1, rfl, rfl, rfl, rfl⟩ ⟨a1, a2, a3, b1, b2, b3⟩)
        ((go_at_call 15; refine (l_eqPhrase x y z _).mono ?_; rintro e w' ⟨rfl, hbn⟩))
      go_wp2
      go_roundw
      case rel => exact ⟨k + 1, by omega, by go_num, below_then (a := wr.drew) (hb.trans (Below.refl _ _).drew) hbn⟩
      case measure => simp [intOf]; omega
    · go_wp2
      go_ret
      exact ⟨rfl, hb⟩

def mixF (m : Nat) (f g : Nat → Value) (t : Nat) : Value := if t < m then f t else g t
theorem mixF_all {n : Nat} {f g : Nat → Value} {t : Nat} (h : t < n) : mixF n f g t = f t := by unfold mixF; rw [if_pos h]
theorem mixF_none (f g : Nat → Value) (t : Nat) : mixF 0 f g t = g t := by unfold mixF; rw [if_neg (by omega)]
theorem mix_three {k : Nat} {g : Nat → Value} {v0 v1 v2 : Value} {f : Nat → Value} (h0 : v0 = f (k * 3)) (h1 : v1 = f (k * 3 + 1)) (h2 : v2 = f (k * 3 + 2)) (t : Nat) :
    updF (updF (updF (mixF (k * 3) f g) (k * 3) v0) (k * 3 + 1) v1) (k * 3 + 2) v2 t = mixF ((k + 1) * 3) f g t := by
  unfold updF mixF
  by_cases e2 : t = k * 3 + 2
  · rw [if_pos e2, if_pos (by omega), h2, e2]
  · rw [if_neg e2]
    by_cases e1 : t = k * 3 + 1
    · rw [if_pos e1, if_pos (by omega), h1, e1]
    · rw [if_neg e1]
      by_cases e0 : t = k * 3
      · rw [if_pos e0, if_pos (by omega), h0, e0]
      · rw [if_neg e0]
        by_cases e : t < k * 3
        · rw [if_pos e, if_pos (by omega)]
        · rw [if_neg e, if_neg (by omega)]
/-- A slice of phrases at whatever place reads as ps. -/
def PhsOf (W : World) (pa : Option Addr) (n cap : Nat) (ps : List PhP) : Prop :=
  ps.length = n ∧ n ≤ cap ∧ cap ≤ maxLen ∧ (∀ p ∈ ps, p.2.2.size ≤ maxLen) ∧ ∀ i, i < n → ∃ b off, pa = some ⟨b, off, none⟩ ∧ W.cell? ⟨b, off + i * 3, none⟩ = some (.int .i64 (ps[i]?.getD phNo).1) ∧ W.cell? ⟨b, off + i * 3 + 1, none⟩ = some (.int .i64 (ps[i]?.getD phNo).2.1) ∧ W.cell? ⟨b, off + i * 3 + 2, none⟩ = some (.string (ps[i]?.getD phNo).2.2)
def PhsAt (W : World) (pa : Option Addr) (n cap : Nat) : Prop := ∃ ps, PhsOf W pa n cap ps
theorem PhsOf.kept {W W' : World} {pa : Option Addr} {n cap : Nat} {ps : List PhP} (h : PhsOf W pa n cap ps) (hb : Below W.heap.size W W') : PhsOf W' pa n cap ps :=
  ⟨h.1, h.2.1, h.2.2.1, h.2.2.2.1, fun i hi => by
    obtain ⟨b, off, e, c0, c1, c2⟩ := h.2.2.2.2 i hi
    exact ⟨b, off, e, (hb.cell (p := ⟨b, off + i * 3, none⟩) (cell_lt c0)).trans c0, (hb.cell (p := ⟨b, off + i * 3 + 1, none⟩) (cell_lt c1)).trans c1, (hb.cell (p := ⟨b, off + i * 3 + 2, none⟩) (cell_lt c2)).trans c2⟩⟩
theorem RowF.of_made {W : World} {lo m : Nat} {e : TypeId} {n g ca : Nat} {vs : List Value} (h : W.ownsRow lo e m (.slice (some ⟨g, 0, none⟩) n ca) n vs) :
    RowF W lo W.heap.size (some ⟨g, 0, none⟩) (n * m) (fun i => vs[i]?.getD undef) := by
  have hown := h
  obtain ⟨hl, hcase⟩ := h
  rcases hcase with ⟨h0, _⟩ | ⟨g', cap, cur, e', hg, hh, hn, hcap, hsz, htake⟩
  · cases h0
  · cases e'
    intro i hi
    have hv : vs[i]? = some (vs[i]?.getD undef) := by rw [List.getElem?_eq_getElem (by omega)]; rfl
    refine ⟨g, rfl, hg, (Array.getElem?_eq_some_iff.1 hh).1, ?_, by simp [World.frozen?, hh]⟩
    have := hown.cells (g := g) rfl i _ hv
    rw [show (⟨g, i, none⟩ : Addr) = (⟨g, 0, none⟩ : Addr).add i from by cases i <;> simp [Addr.add]]
    exact this
set_option maxHeartbeats 1000000 in
theorem l_toPhrase (x y : Int) (z : ByteArray) (w : World) : Calls Tryd.prog 12 #[.agg #[.int .i64 x, .int .i64 y, .string z]] w fun e w' => e = .returned (.agg #[.int .i64 x, .int .i64 y, .string z]) ∧ Below w.heap.size w w' := by
  go_enter Tryd.func12, Tryd.ntmps12
  go_wp2
  have hb : Below w.heap.size w (((w.alloc (.cells #[.int .i64 x, .int .i64 y, .string z] 32)).alloc (.cells #[.int .i64 x, .int .i64 y, .string z] 33)).alloc (.cells #[.int .i64 x, .int .i64 y, .string z] 33)) := (((Below.refl _ w).alloc (Nat.le_refl _) _).alloc (by simp) _).alloc (by simp; omega) _
  refine bodyPost_ret (v := .agg #[.int .i64 x, .int .i64 y, .string z]) (by simp [results, Tryd.results12, go_sem]) rfl ⟨rfl, hb⟩
set_option maxHeartbeats 2000000 in
theorem l_toPhraseS (pa : Option Addr) (n cap : Nat) (ps : List PhP) (w : World) (hx : PhsOf w pa n cap ps) (hn : n ≤ 1048576) :
    Calls Tryd.prog 6 #[.slice pa n cap] w (RetPh ps w) := by
  have HX := Lib.hid hx; clear hx
  obtain ⟨i0, hi, hz0, hz1, hz2⟩ := info_parts info_ph
  go_enter Tryd.func6, Tryd.ntmps6
  go_wp2_with (at_make; refine wpList_make_full _ rfl _ _ 26 rfl w.heap.size 33 i0 _ 3 Tryd.underlying26 hi hz0 hz1 .i64 .i64 _ _ n rfl rfl rfl rfl (by rw [hz2]; omega) (by unfold maxLen; omega) (Nat.le_refl _) ?_; intro w1 hown1 hg1)
  have hr1 := RowF.of_made hown1
  have hb1 : Below w.heap.size w w1 := (Below.refl _ _).grown hg1 (Nat.le_refl _) (fun k e => by cases e)
  obtain ⟨f, hf⟩ : ∃ f : Nat → Value, f = fun i => (madeCells (Value.cells (.agg #[.int .i64 0, .int .i64 0, .string ⟨#[]⟩])) (n * 3)).toList[i]?.getD undef := ⟨_, rfl⟩
  rw [← hf] at hr1
  clear hf hown1 hg1 hi hz0 hz1 hz2
  go_loopw [4] (fun i wr => ∃ k : Nat, k ≤ n ∧ i = .int .i64 k ∧ RowF wr w.heap.size w1.heap.size (some ⟨w.heap.size, 0, none⟩) (n * 3) (mixF (k * 3) (phF ps) f) ∧ w1.heap.size ≤ wr.heap.size ∧ Below w.heap.size w wr) (fun i _ => n - (intOf i).toNat)
  case atStart => exact ⟨0, Nat.zero_le _, rfl, hr1.congr fun i _ => (mixF_none _ _ _).symm, Nat.le_refl _, hb1⟩
  case round =>
    obtain ⟨k, hk, rfl, hr, hsz, hb⟩ := hrel
    by_cases hlt : k < n
    · obtain ⟨b, off, rfl, c0, c1, c2⟩ := (HX.out.kept hb).2.2.2.2 k hlt
      have hcap : n ≤ cap := HX.out.2.1
      obtain ⟨x, hx⟩ : ∃ x, x = (ps[k]?.getD phNo).1 := ⟨_, rfl⟩
      obtain ⟨y, hy⟩ : ∃ y, y = (ps[k]?.getD phNo).2.1 := ⟨_, rfl⟩
      obtain ⟨z, hz⟩ : ∃ z, z = (ps[k]?.getD phNo).2.2 := ⟨_, rfl⟩
      have hp0 : phF ps (k * 3) = .int .i64 x := by rw [hx]; exact stF_at (j := 0) (by decide) phFld phNo ps k
      have hp1 : phF ps (k * 3 + 1) = .int .i64 y := by rw [hy]; exact stF_at (j := 1) (by decide) phFld phNo ps k
      have hp2 : phF ps (k * 3 + 2) = .string z := by rw [hz]; exact stF_at (j := 2) (by decide) phFld phNo ps k
      rw [← hx] at c0; rw [← hy] at c1; rw [← hz] at c2
      clear hx hy hz
      have e1 : (k : Int) < n := by omega
      go_wp2_with fail
      refine (l_toPhrase x y z _).mono ?_; rintro e w2 ⟨rfl, hb2⟩
      have hr2 := hr.kept hb2
      have hB2 := below_then hb hb2
      have hs2 := hb2.size
      obtain ⟨_, e2, _, _, d0, f0⟩ := hr2 (k * 3) (by omega)
      obtain ⟨_, e3, _, _, d1, f1⟩ := hr2 (k * 3 + 1) (by omega)
      obtain ⟨_, e4, _, _, d2, f2⟩ := hr2 (k * 3 + 2) (by omega)
      cases e2; cases e3; cases e4
      have hr4 := ((((hr2.set (j := k * 3) (by omega) (.int .i64 x)).set (j := k * 3 + 1) (by omega) (.int .i64 y)).set (j := k * 3 + 2) (by omega) (.string z))).congr fun t _ => mix_three (f := phF ps) (g := f) hp0.symm hp1.symm hp2.symm t
      have hB4 := ((hB2.setCell (p := ⟨w.heap.size, k * 3, none⟩) (Nat.le_refl _) (.int .i64 x)).setCell (p := ⟨w.heap.size, k * 3 + 1, none⟩) (Nat.le_refl _) (.int .i64 y)).setCell (p := ⟨w.heap.size, k * 3 + 2, none⟩) (Nat.le_refl _) (.string z)
      have H4 := Lib.hid hr4
      clear hr hr2 hr4 hb hb2 hp0 hp1 hp2
      go_wp2
      go_roundw
      case rel => exact ⟨k + 1, by omega, by go_num, H4.out, by rw [World.size_setCell, World.size_setCell, World.size_setCell]; omega, hB4⟩
      case measure => simp [intOf]; omega
    · obtain rfl : k = n := by omega
      go_wp2
      go_ret
      exact ⟨_, k, k, rfl, Lib.hid HX.out.1, hn, (hr.congr fun i hi => mixF_all hi).mono (Nat.le_refl _) hsz, hb⟩
set_option maxHeartbeats 1000000 in
theorem l_szPhrase (x y : Int) (z : ByteArray) (l : Int) (w : World) (hl0 : 0 ≤ l) (hl : l ≤ 1048576) (hz : z.size ≤ maxLen) :
    Calls Tryd.prog 9 #[.agg #[.int .i64 x, .int .i64 y, .string z], .int .i64 l] w fun e w' => e = .returned (.int .i64 (if l - z.size < 0 then -1 else l - z.size)) ∧ Below w.heap.size w w' := by
  unfold maxLen at hz
  by_cases h : l - (z.size : Int) < 0
  · rw [if_pos h]
    go_enter Tryd.func9, Tryd.ntmps9
    go_wp2
    go_ret
    exact ⟨rfl, (Below.refl _ w).alloc (Nat.le_refl _) _⟩
  · rw [if_neg h]
    go_enter Tryd.func9, Tryd.ntmps9
    go_wp2
    go_ret
    exact ⟨rfl, (Below.refl _ w).alloc (Nat.le_refl _) _⟩
/-- What szPhraseS tells. -/
def SzPh (ps : List PhP) (w : World) (e : Ending) (w' : World) : Prop := ∃ r : Int, e = .returned (.int .i64 r) ∧ Hid (0 ≤ r → ps.length ≤ 1048576 ∧ ∀ i, i < ps.length → (ps[i]?.getD phNo).2.2.size ≤ 1048576) ∧ -1 ≤ r ∧ r ≤ 1048576 ∧ Below w.heap.size w w'
set_option maxHeartbeats 1000000 in
theorem l_szPhraseS (pa : Option Addr) (n cap : Nat) (ps : List PhP) (w : World) (hx : PhsOf w pa n cap ps) :
    Calls Tryd.prog 4 #[.slice pa n cap, .int .i64 1048576] w (SzPh ps w) := by
  have HX := Lib.hid hx
  obtain ⟨hl, hnc, hcm, _, _⟩ := hx
  unfold maxLen at hcm
  have HL := Lib.hid hl; clear hl
  by_cases hbig : n ≤ 1048576
  · go_enter Tryd.func4, Tryd.ntmps4
    go_wp2
    go_loopw [1, 5] (fun l i wr => ∃ (k : Nat) (z : Int), k ≤ n ∧ i = .int .i64 k ∧ l = .int .i64 z ∧ 0 ≤ z ∧ z ≤ 1048576 ∧ Hid (∀ i, i < k → (ps[i]?.getD phNo).2.2.size ≤ 1048576) ∧ Below w.heap.size w wr) (fun _ i _ => n - (intOf i).toNat)
    case atStart => exact ⟨0, 1048576 - n, Nat.zero_le _, rfl, rfl, by omega, by omega, Lib.hid (fun i hi => by omega), Below.refl _ _⟩
    case round =>
      obtain ⟨k, l, hk, rfl, rfl, hl0, hl1, HZ, hb⟩ := hrel
      by_cases hlt : k < n
      · obtain ⟨b, off, rfl, c0, c1, c2⟩ := (HX.out.kept hb).2.2.2.2 k hlt
        have hzs : (ps[k]?.getD phNo).2.2.size ≤ maxLen := by
          have hkl : k < ps.length := by rw [HL.out]; exact hlt
          rw [List.getElem?_eq_getElem hkl]; exact HX.out.2.2.2.1 _ (List.getElem_mem hkl)
        obtain ⟨x, hx⟩ : ∃ x, x = (ps[k]?.getD phNo).1 := ⟨_, rfl⟩
        obtain ⟨y, hy⟩ : ∃ y, y = (ps[k]?.getD phNo).2.1 := ⟨_, rfl⟩
        obtain ⟨z, hz⟩ : ∃ z, z = (ps[k]?.getD phNo).2.2 := ⟨_, rfl⟩
        rw [← hx] at c0; rw [← hy] at c1; rw [← hz] at c2 hzs
        have HZE := Lib.hid hz
        clear hx hy hz
        have e1 : (k : Int) < n := by omega
        go_wp2_with fail
        refine (l_szPhrase x y z l _ hl0 hl1 hzs).mono ?_; rintro e w2 ⟨rfl, hb2⟩
        have hB2 := below_then hb hb2
        clear hb hb2
        by_cases h : l - (z.size : Int) < 0
        · rw [if_pos h]
          go_wp2
          go_ret
          exact ⟨-1, rfl, Lib.hid (fun h => by omega), by omega, by omega, hB2⟩
        · rw [if_neg h]
          go_wp2
          go_roundw
          case rel => exact ⟨k + 1, l - z.size, by omega, by go_num, rfl, by omega, by omega, Lib.hid (fun i hi => by
              by_cases e : i = k
              · subst e; rw [← HZE.out]; omega
              · exact HZ.out i (by omega)), hB2⟩
          case measure => simp [intOf]; omega
      · obtain rfl : k = n := by omega
        go_wp2
        go_ret
        exact ⟨l, rfl, Lib.hid (fun _ => ⟨by rw [HL.out]; exact hbig, by rw [HL.out]; exact HZ.out⟩), by omega, by omega, hb⟩
  · go_enter Tryd.func4, Tryd.ntmps4
    go_wp2
    go_ret
    exact ⟨-1, rfl, Lib.hid (fun h => by omega), by omega, by omega, Below.refl _ _⟩
section
open Go.ChangeShapes Go.WideShapes Go.Deep
variable {H : Type} {enc : TypeId × Value → H} {P : Program} {w : World} {base : Nat} {spare : Nat → Bool} {held : Bool}
theorem open_slice_fields {t e : TypeId} {fs : Array Field} {fuel : Nat} {cs : List Value} {x : DataW H × List MemPlace} (ht : P.underlying t = some (.slice e)) (he : P.underlying e = some (.struct fs))
    (hone : oneCellFields P fs = true) (hC : P.cellsOf e = fs.size) (h : DataW.trod enc P w base spare held fuel t cs = some x) :
    (cs = [.slice none 0 0] ∧ x = (.nil, [])) ∨
    ∃ (a : Addr) (len cap m : Nat), cs = [.slice (some a) len cap] ∧ len ≤ cap ∧ cap ≤ maxLen ∧ m = (if spare a.block then cap else len) ∧
      ∀ i, i < m → ∀ (j : Nat) (f : Field), fs[j]? = some f → ∃ (v : Value) (y : DataW H × List MemPlace) (n : Nat), w.cell? (a.add (i * fs.size + j)) = some v ∧ DataW.trod enc P w base spare held n f.type [v] = some y := by
  rcases open_slice ht h with h0 | ⟨a, len, cap, m, n, D, Pl, hcs, hb, hl, hm, hmm, hx, hi⟩
  · exact .inl h0
  · refine .inr ⟨a, len, cap, m, hcs, hl, hm, hmm, fun i him j f hj => ?_⟩
    obtain ⟨cs', hc, ht'⟩ := hi i him
    rw [hC] at hc
    obtain ⟨ys, n', hn', hy, hlen, hyl, hf⟩ := DataW.trod_struct he ht'
    obtain ⟨_, hcl, hat⟩ := World.cells?_some hc
    obtain ⟨ho, hk⟩ := hone_of hone j f hj
    have hjl : j < fs.size := (Array.getElem?_eq_some_iff.1 hj).1
    have hcell := hat j hjl
    have hv : cs'[j]? = some (cs'[j]'(by omega)) := List.getElem?_eq_getElem (by omega)
    have h1 := hf j f hj
    rw [ho, hk] at h1
    have hone' : (cs'.drop j).take 1 = [cs'[j]'(by omega)] := by
      rw [List.drop_eq_getElem_cons (by omega)]
      rfl
    rw [hone'] at h1
    have hys : ys[j]? = some (ys[j]'(by omega)) := List.getElem?_eq_getElem (by omega)
    refine ⟨_, _, _, ?_, h1.trans hys⟩
    rw [← Go.Deep.add_add, hcell, hv]
end
theorem add_flat (b off : Nat) (r : Option Addr) (i : Nat) (a : Addr) (h : a = ⟨b, off, none⟩) : a.add i = ⟨b, off + i, none⟩ := by
  subst h; cases i <;> simp [Addr.add]
theorem PhsAt.of_trod {H : Type} {enc : TypeId × Value → H} {W : World} {base : Nat} {held : Bool} {pa : Option Addr} {n cap : Nat} {d : DataW H} {qs : List MemPlace}
    (h : DataW.Trod enc Tryd.prog W base (fun _ => true) held 22 (.slice pa n cap) d qs) : PhsAt W pa n cap := by
  obtain ⟨fuel, hf⟩ := h
  rcases open_slice_fields Tryd.underlying22 Tryd.underlying32 (by kernel_rfl) (by kernel_rfl) hf with ⟨hcs, hx⟩ | ⟨a, len', cap', m, hcs, hl, hm, hmm, hcell⟩
  · simp [Value.cells] at hcs
    obtain ⟨rfl, rfl, rfl⟩ := hcs
    exact ⟨[], rfl, Nat.le_refl _, Nat.zero_le _, by simp, fun i hi => by omega⟩
  · simp [Value.cells] at hcs
    obtain ⟨rfl, rfl, rfl⟩ := hcs
    simp at hmm
    subst hmm
    have hex : ∀ i, i < n → ∃ p : PhP, W.cell? (a.add (i * 3 + 0)) = some (.int .i64 p.1) ∧ W.cell? (a.add (i * 3 + 1)) = some (.int .i64 p.2.1) ∧ W.cell? (a.add (i * 3 + 2)) = some (.string p.2.2) ∧ p.2.2.size ≤ maxLen := fun i hi => by
      obtain ⟨v0, y0, n0, c0, t0⟩ := hcell i (by omega) 0 _ rfl
      obtain ⟨v1, y1, n1, c1, t1⟩ := hcell i (by omega) 1 _ rfl
      obtain ⟨v2, y2, n2, c2, t2⟩ := hcell i (by omega) 2 _ rfl
      obtain ⟨x, hx, _, _⟩ := DataW.trod_int Tryd.underlying3 t0
      obtain ⟨y, hy, _, _⟩ := DataW.trod_int Tryd.underlying3 t1
      obtain ⟨z, hz, _, hs⟩ := DataW.trod_string Tryd.underlying9 t2
      cases hx; cases hy; cases hz
      exact ⟨(x, y, z), c0, c1, c2, hs⟩
    obtain ⟨f, hf⟩ : ∃ f : Nat → PhP, ∀ i, i < n → W.cell? (a.add (i * 3 + 0)) = some (.int .i64 (f i).1) ∧ W.cell? (a.add (i * 3 + 1)) = some (.int .i64 (f i).2.1) ∧ W.cell? (a.add (i * 3 + 2)) = some (.string (f i).2.2) ∧ (f i).2.2.size ≤ maxLen :=
      ⟨fun i => if h : i < n then Classical.choose (hex i h) else phNo, fun i hi => by simp only [dif_pos hi]; exact Classical.choose_spec (hex i hi)⟩
    refine ⟨(List.range n).map f, by simp, hl, hm, ?_, fun i hi => ?_⟩
    · intro p hp
      obtain ⟨i, hi, rfl⟩ := List.mem_map.1 hp
      exact (hf i (List.mem_range.1 hi)).2.2.2
    · have hg : ((List.range n).map f)[i]?.getD phNo = f i := by rw [List.getElem?_map, List.getElem?_range hi]; rfl
      rw [hg]
      obtain ⟨c0, c1, c2, _⟩ := hf i hi
      obtain ⟨b, off, spot⟩ := a
      have hspot : spot = none := by
        have := World.cell?_spot (hf 0 (by omega)).1
        simpa [Addr.add] using this
      subst hspot
      exact ⟨b, off, rfl, by rw [add_flat b off none _ _ rfl] at c0; exact c0, by rw [add_flat b off none _ _ rfl] at c1; exact c1, by rw [add_flat b off none _ _ rfl] at c2; exact c2⟩
end Go.Proofs.YtknocepgfjebpaaDoor
