/- The law's helpers over slices of phrases: eqPhraseS, markPhraseS, heldPhraseS; PhrasesOf, the reference's and the program's; the law FnExactPhrasesOf. -/
import Derived.Test.YtkgdifngijeenaaPh
import Derived.Deep.RegionHeld3
namespace Go.Proofs.Ytkgdifngijeenaa
open Go.RowKit
set_option linter.unusedVariables false

theorem six_kept {w w' : World} {a1 a2 a3 a4 a5 a6 : Addr} {v1 v2 v3 v4 v5 v6 : Value} (hb : Below w.heap.size w w') (hl : a1.block < w.heap.size ∧ a4.block < w.heap.size ∧ a2.block = a1.block ∧ a3.block = a1.block ∧ a5.block = a4.block ∧ a6.block = a4.block)
    (h : w.cell? a1 = some v1 ∧ w.cell? a2 = some v2 ∧ w.cell? a3 = some v3 ∧ w.cell? a4 = some v4 ∧ w.cell? a5 = some v5 ∧ w.cell? a6 = some v6) :
    w'.cell? a1 = some v1 ∧ w'.cell? a2 = some v2 ∧ w'.cell? a3 = some v3 ∧ w'.cell? a4 = some v4 ∧ w'.cell? a5 = some v5 ∧ w'.cell? a6 = some v6 := by
  obtain ⟨l1, l4, e2, e3, e5, e6⟩ := hl
  exact ⟨(hb.cell l1).trans h.1, (hb.cell (by omega)).trans h.2.1, (hb.cell (by omega)).trans h.2.2.1, (hb.cell l4).trans h.2.2.2.1, (hb.cell (by omega)).trans h.2.2.2.2.1, (hb.cell (by omega)).trans h.2.2.2.2.2⟩
theorem ph_cells {W : World} {lo hi n : Nat} {pa : Option Addr} {ps : List PhP} (h : RowF W lo hi pa (n * 3) (phF ps)) {k : Nat} (hk : k < n) :
    ∃ g, pa = some ⟨g, 0, none⟩ ∧ lo ≤ g ∧ g < hi ∧ W.cell? ⟨g, k * 3, none⟩ = some (.int .i64 (ps[k]?.getD phNo).1) ∧ W.cell? ⟨g, k * 3 + 1, none⟩ = some (.int .i64 (ps[k]?.getD phNo).2.1) ∧ W.cell? ⟨g, k * 3 + 2, none⟩ = some (.string (ps[k]?.getD phNo).2.2) := by
  obtain ⟨g, e, h1, h2, h3, _⟩ := h (k * 3 + 0) (by omega)
  obtain ⟨g', e', _, _, h4, _⟩ := h (k * 3 + 1) (by omega)
  obtain ⟨g'', e'', _, _, h5, _⟩ := h (k * 3 + 2) (by omega)
  rw [e] at e' e''
  cases e'; cases e''
  unfold phF at h3 h4 h5
  rw [stF_at (by omega)] at h3 h4 h5
  exact ⟨g, e, h1, h2, h3, h4, h5⟩

set_option maxHeartbeats 400000 in
theorem l_eqPhrase (a b : Int) (c : ByteArray) (w : World) : Calls Try.prog 58 #[.agg #[.int .i64 a, .int .i64 b, .string c], .agg #[.int .i64 a, .int .i64 b, .string c]] w fun e w' => e = .returned (.bool true) ∧ Below w.heap.size w w' := by
  go_enter Try.func58, Try.ntmps58
  go_wp2
  go_ret
  exact ⟨rfl, ((Below.refl _ w).alloc (Nat.le_refl _) _).alloc (by simp) _⟩
set_option maxHeartbeats 1000000 in
theorem l_eqPhraseS (pa pb : Option Addr) (n ca cb : Nat) (ps : List PhP) (la ha lb hi2 : Nat) (w : World) (hle : n ≤ 1048576) (ra : RowF w la ha pa (n * 3) (phF ps)) (rb : RowF w lb hi2 pb (n * 3) (phF ps)) :
    Calls Try.prog 30 #[.slice pa n ca, .slice pb n cb] w fun e w' => e = .returned (.bool true) ∧ Below w.heap.size w w' := by
  go_enter Try.func30, Try.ntmps30
  go_wp2
  go_loopw [5] (fun i wr => ∃ k : Nat, k ≤ n ∧ i = .int .i64 k ∧ Below w.heap.size w wr) (fun i _ => n - (intOf i).toNat)
  case atStart => exact ⟨0, Nat.zero_le _, rfl, Below.refl _ _⟩
  case round =>
    obtain ⟨k, hk, rfl, hb⟩ := hrel
    by_cases hlt : k < n
    · obtain ⟨ga, rfl, _, _, a1, a2, a3⟩ := ph_cells (ra.kept hb) hlt
      obtain ⟨gb, rfl, _, _, b1, b2, b3⟩ := ph_cells (rb.kept hb) hlt
      obtain ⟨x, hx⟩ : ∃ x, x = (ps[k]?.getD phNo).1 := ⟨_, rfl⟩
      obtain ⟨y, hy⟩ : ∃ y, y = (ps[k]?.getD phNo).2.1 := ⟨_, rfl⟩
      obtain ⟨z, hz⟩ : ∃ z, z = (ps[k]?.getD phNo).2.2 := ⟨_, rfl⟩
      rw [← hx] at a1 b1; rw [← hy] at a2 b2; rw [← hz] at a3 b3
      clear hx hy hz
      have la1 := cell_lt a1; have lb1 := cell_lt b1
      have e1 : (k : Int) < n := by omega
      go_wp2
      go_region_held3 (fun w' => w'.cell? ⟨ga, k * 3, none⟩ = some (.int .i64 x) ∧ w'.cell? ⟨ga, k * 3 + 1, none⟩ = some (.int .i64 y) ∧ w'.cell? ⟨ga, k * 3 + 2, none⟩ = some (.string z) ∧ w'.cell? ⟨gb, k * 3, none⟩ = some (.int .i64 x) ∧ w'.cell? ⟨gb, k * 3 + 1, none⟩ = some (.int .i64 y) ∧ w'.cell? ⟨gb, k * 3 + 2, none⟩ = some (.string z))
        (first | exact ⟨a1, a2, a3, b1, b2, b3⟩ | exact six_kept (w := wr.drew) (by assumption) ⟨la1, lb1, rfl, rfl, rfl, rfl⟩ ⟨a1, a2, a3, b1, b2, b3⟩)
        ((go_at_call 58; refine (l_eqPhrase x y z _).mono ?_; rintro e w' ⟨rfl, hbn⟩))
      go_wp2
      go_roundw
      case rel => exact ⟨k + 1, by omega, by go_num, below_then (a := wr.drew) (hb.trans (Below.refl _ _).drew) hbn⟩
      case measure => simp [intOf]; omega
    · go_wp2
      go_ret
      exact ⟨rfl, hb⟩

/-- The marks of phrases, cell by cell. -/
def phM (t : Nat) : Value := if t % 3 = 2 then .string (markT (t + 1)) else .int .i64 ((t : Int) + 1)
def mixF (m : Nat) (f g : Nat → Value) (t : Nat) : Value := if t < m then f t else g t
theorem mixF_all {n : Nat} {f g : Nat → Value} {t : Nat} (h : t < n) : mixF n f g t = f t := by unfold mixF; rw [if_pos h]
theorem mixF_none (f g : Nat → Value) (t : Nat) : mixF 0 f g t = g t := by unfold mixF; rw [if_neg (by omega)]
theorem mix_three {k : Nat} {g : Nat → Value} {v0 v1 v2 : Value} {f : Nat → Value} (h0 : v0 = f (k * 3)) (h1 : v1 = f (k * 3 + 1)) (h2 : v2 = f (k * 3 + 2)) (t : Nat) :
    updF (updF (updF (mixF (k * 3) f g) (k * 3) v0) (k * 3 + 1) v1) (k * 3 + 2) v2 t = mixF ((k + 1) * 3) f g t := by
  unfold updF mixF
  by_cases e2 : t = k * 3 + 2
  · rw [if_pos e2, if_pos (by omega), h2, e2]
  · rw [if_neg e2]
    by_cases e1 : t = k * 3 + 1
    · rw [if_pos e1, if_pos (by omega), h1, e1]
    · rw [if_neg e1]
      by_cases e0 : t = k * 3
      · rw [if_pos e0, if_pos (by omega), h0, e0]
      · rw [if_neg e0]
        by_cases e : t < k * 3
        · rw [if_pos e, if_pos (by omega)]
        · rw [if_neg e, if_neg (by omega)]
theorem phM_0 (k : Nat) : phM (k * 3) = .int .i64 ((k : Int) * 3 + 1) := by unfold phM; rw [if_neg (by omega)]; congr 1
theorem phM_1 (k : Nat) : phM (k * 3 + 1) = .int .i64 ((k : Int) * 3 + 1 + 1) := by unfold phM; rw [if_neg (by omega)]; congr 1
theorem phM_2 (k : Nat) : phM (k * 3 + 2) = .string (markT (k * 3 + 2 + 1)) := by unfold phM; rw [if_pos (by omega)]
theorem l_markTextI (z : Int) (k : Nat) (w : World) (hz : z = k) (h0 : 0 < k) (hk : k ≤ 100000000) :
    Calls Try.prog 59 #[.int .i64 z] w fun e w' => e = .returned (.string (markT k)) ∧ Below w.heap.size w w' := by
  subst hz; exact l_markText k w h0 hk
set_option maxHeartbeats 2000000 in
theorem l_markPhraseS (pa : Option Addr) (n ca : Nat) (f : Nat → Value) (lo hi : Nat) (w : World) (hle : n ≤ 1048576) (ra : RowF w lo hi pa (n * 3) f) :
    Calls Try.prog 31 #[.slice pa n ca, .int .i64 1] w fun e w' => e = .returned (.int .i64 ((n : Int) * 3 + 1)) ∧ OnlyF lo hi w w' ∧ RowF w' lo hi pa (n * 3) phM := by
  go_enter Try.func31, Try.ntmps31
  go_wp2
  go_loopw [1, 5] (fun m i wr => ∃ k : Nat, k ≤ n ∧ i = .int .i64 k ∧ m = .int .i64 ((k : Int) * 3 + 1) ∧ OnlyF lo hi w wr ∧ RowF wr lo hi pa (n * 3) (mixF (k * 3) phM f)) (fun _ i _ => n - (intOf i).toNat)
  case atStart => exact ⟨0, Nat.zero_le _, rfl, rfl, OnlyF.refl _ _ _, ra.congr fun i _ => (mixF_none _ _ _).symm⟩
  case round =>
    obtain ⟨k, hk, rfl, rfl, hb, hr⟩ := hrel
    by_cases hlt : k < n
    · obtain ⟨g, rfl, hg1, hg2, c0, f0⟩ := hr (k * 3) (by omega)
      obtain ⟨g', e', _, _, c1, f1⟩ := hr (k * 3 + 1) (by omega)
      obtain ⟨g'', e'', _, _, c2, f2⟩ := hr (k * 3 + 2) (by omega)
      cases e'; cases e''
      have r1 := hr.set (j := k * 3) (by omega) (.int .i64 ((k : Int) * 3 + 1))
      have r2 := r1.set (j := k * 3 + 1) (by omega) (.int .i64 ((k : Int) * 3 + 1 + 1))
      have b2 := (hb.setCell hg1 hg2 (i := k * 3) (.int .i64 ((k : Int) * 3 + 1))).setCell hg1 hg2 (i := k * 3 + 1) (.int .i64 ((k : Int) * 3 + 1 + 1))
      have e1 : (k : Int) < n := by omega
      go_wp2_with fail
      refine (l_markTextI ((k : Int) * 3 + 1 + 1 + 1) (k * 3 + 2 + 1) _ (by omega) (by omega) (by omega)).mono ?_; rintro e w3 ⟨rfl, hb3⟩
      have r3 := r2.kept hb3
      have b3 := b2.then hb3
      obtain ⟨_, e3, _, _, c3, f3⟩ := r3 (k * 3 + 2) (by omega)
      cases e3
      have r4 := r3.set (j := k * 3 + 2) (by omega) (.string (markT (k * 3 + 2 + 1)))
      have r5 := r4.congr fun t _ => mix_three (f := phM) (g := f) (phM_0 k).symm (phM_1 k).symm (phM_2 k).symm t
      have b4 := b3.setCell hg1 hg2 (i := k * 3 + 2) (.string (markT (k * 3 + 2 + 1)))
      have H5 := Lib.hid r5
      clear r1 r2 r3 r4 r5 b2 b3 hr
      go_wp2
      go_roundw
      case rel => exact ⟨k + 1, by omega, by go_num, by go_num, b4, H5.out⟩
      case measure => simp [intOf]; omega
    · obtain rfl : k = n := by omega
      go_wp2
      go_ret
      exact ⟨rfl, hb, hr.congr fun i hi => mixF_all hi⟩
set_option maxHeartbeats 2000000 in
theorem l_heldPhraseS (pa : Option Addr) (n ca : Nat) (lo hi : Nat) (w : World) (hle : n ≤ 1048576) (ra : RowF w lo hi pa (n * 3) phM) :
    Calls Try.prog 32 #[.slice pa n ca, .int .i64 1] w fun e w' => e = .returned (.int .i64 ((n : Int) * 3 + 1)) ∧ Below w.heap.size w w' := by
  go_enter Try.func32, Try.ntmps32
  go_wp2
  go_loopw [1, 5] (fun m i wr => ∃ k : Nat, k ≤ n ∧ i = .int .i64 k ∧ m = .int .i64 ((k : Int) * 3 + 1) ∧ Below w.heap.size w wr) (fun _ i _ => n - (intOf i).toNat)
  case atStart => exact ⟨0, Nat.zero_le _, rfl, rfl, Below.refl _ _⟩
  case round =>
    obtain ⟨k, hk, rfl, rfl, hb⟩ := hrel
    by_cases hlt : k < n
    · obtain ⟨g, rfl, _, _, c0, _⟩ := (ra.kept hb) (k * 3) (by omega)
      obtain ⟨_, e', _, _, c1, _⟩ := (ra.kept hb) (k * 3 + 1) (by omega)
      obtain ⟨_, e'', _, _, c2, _⟩ := (ra.kept hb) (k * 3 + 2) (by omega)
      cases e'; cases e''
      rw [phM_0] at c0; rw [phM_1] at c1; rw [phM_2] at c2
      have e1 : (k : Int) < n := by omega
      obtain ⟨mt, hmt⟩ : ∃ mt, mt = markT (k * 3 + 2 + 1) := ⟨_, rfl⟩
      rw [← hmt] at c2
      have HMT := Lib.hid hmt; clear hmt
      have hl2 := cell_lt c2
      go_wp2
      go_region_held3 (fun w' => w'.cell? ⟨g, k * 3 + 2, none⟩ = some (.string mt)) (first | exact c2 | exact (Below.cell (w := wr.drew) (by assumption) hl2).trans c2)
        ((go_at_call 59; refine (l_markTextI ((k : Int) * 3 + 1 + 1 + 1) (k * 3 + 2 + 1) _ (by omega) (by omega) (by omega)).mono ?_; rintro e w' ⟨rfl, hbn⟩; rw [← HMT.out]))
      go_wp2
      go_roundw
      case rel => exact ⟨k + 1, by omega, by go_num, by go_num, below_then (a := wr.drew) (hb.trans (Below.refl _ _).drew) hbn⟩
      case measure => simp [intOf]; omega
    · obtain rfl : k = n := by omega
      go_wp2
      go_ret
      exact ⟨rfl, hb⟩
end Go.Proofs.Ytkgdifngijeenaa
