/- Slices of pairs: what a call that made one hands back; the law's helpers eqPairS, markPairS, heldPairS. -/
import Derived.Test.YtkgdifngijeenaaPs
import Derived.Deep.RegionHeld3
namespace Go.Proofs.Ytkgdifngijeenaa
open Go.RowKit
set_option linter.unusedVariables false

abbrev PrP := Int × ByteArray
def prCells (p : PrP) : List Value := [.int .i64 p.1, .string p.2]
def prFld (j : Nat) (p : PrP) : Value := match j with | 0 => .int .i64 p.1 | _ => .string p.2
def prNo : PrP := (0, ⟨#[]⟩)
def prF (ps : List PrP) : Nat → Value := stF 2 prFld prNo ps
theorem prCells_len (p : PrP) : (prCells p).length = 2 := rfl
theorem prCells_get (p : PrP) (j : Nat) (hj : j < 2) : (prCells p)[j]? = some (prFld j p) := by
  match j, hj with
  | 0, _ => rfl
  | 1, _ => rfl
theorem info_pr : (Try.prog.info? 48).map (fun i => (i.zero, i.size, i.bytes)) = some (some (.agg #[.int .i64 0, .string ⟨#[]⟩]), 2, 24) := by kernel_rfl
theorem two_new (w : World) (a b : Value) (t : TypeId) (j : Nat) (u : Value) (h : [a, b][j]? = some u) : (w.alloc (.cells #[a, b] t)).cell? ((⟨w.heap.size, 0, none⟩ : Addr).add j) = some u := by
  have hl := heap_alloc_new w (.cells #[a, b] t)
  have ha : (⟨w.heap.size, 0, none⟩ : Addr).add j = ⟨w.heap.size, j, none⟩ := by cases j <;> simp [Addr.add]
  rw [ha, World.cell?, hl]
  simp only
  rw [← h]
  match j with
  | 0 => rfl
  | 1 => rfl
  | j + 2 => simp at h
theorem wpList_append_pr {ops : Array Oper} {rest : List Oper} {o : Oper} {a : Act} {Q : Exit → Act → World → Prop} {w : World} (hgd : o.guard = none) (s x : Operand)
    (ho : o.op = .call { callee := .builtin .append, args := #[s, x], argTypes := #[41, 41] })
    (lo : Nat) (v : Value) (n : Nat) (ps : List PrP) (p : PrP) (hown : w.ownsRow lo 48 2 v n (ps.flatMap prCells)) (hs : a.eval s = v)
    (hx : a.eval x = .slice (some ⟨w.heap.size, 0, none⟩) 1 1) (hn : n ≤ 1048576) (hlo : lo ≤ w.heap.size)
    (h : ∀ v' w', w'.ownsRow lo 48 2 v' (n + 1) ((ps ++ [p]).flatMap prCells) → (w.alloc (.cells #[.int .i64 p.1, .string p.2] 48)).grownBy w' v.ownBlock → Below lo w w' → wpList Try.prog ops Q rest (a.put o.dst v') w') :
    wpList Try.prog ops Q (o :: rest) a (w.alloc (.cells #[.int .i64 p.1, .string p.2] 48)) := by
  obtain ⟨i0, hi, hz0, hz1, hz2⟩ := info_parts info_pr
  refine wpList_append_own _ hgd s x 41 ho lo 48 i0 _ 2 24 Try.underlying41 hi hz0 hz1 hz2 rfl (by decide) v n _ hs (hown.alloc _) ⟨w.heap.size, 0, none⟩ 1 1 (prCells p) hx rfl (two_new _ _ _ _) ?_ (by unfold maxLen; omega) (by omega) (by simp; omega) ?_
  · intro u hu
    simp only [prCells, List.mem_cons, List.not_mem_nil, or_false] at hu
    rcases hu with rfl | rfl <;> rfl
  · intro v' w' h1 h2 _
    refine h v' w' (by rw [List.flatMap_append, List.flatMap_singleton]; exact h1) h2 (((Below.refl lo w).alloc hlo _).grown h2 (by simp; omega) (fun k e => (hown.lt k e).1))

/-- The call hands back a new slice of pairs. -/
def RetPr (ps : List PrP) (w : World) (e : Ending) (w' : World) : Prop :=
  ∃ pa n ca, e = .returned (.slice pa n ca) ∧ Hid (ps.length = n) ∧ n ≤ 1048576 ∧ RowF w' w.heap.size w'.heap.size pa (n * 2) (prF ps) ∧ Below w.heap.size w w'
theorem RetPr.of_owns {w w' : World} {lo n : Nat} {v : Value} {ps : List PrP} (h : w'.ownsRow lo 48 2 v n (ps.flatMap prCells)) (hl : ps.length = n) (hlo : w.heap.size ≤ lo) (hn : n ≤ 1048576) (hb : Below w.heap.size w w') :
    ∃ pa ca, v = .slice pa n ca ∧ n ≤ ca ∧ ca ≤ maxLen ∧ ∀ ca', RetPr ps w (.returned (.slice pa n ca')) w' := by
  obtain ⟨pa, cap, e, h1, h2, h3⟩ := RowF.of_owns prFld prNo ps h (fun i hi => cells_get prCells prFld prNo (by decide) prCells_len prCells_get ps i (by rw [hl]; exact hi))
  exact ⟨pa, cap, e, h1, h2, fun ca' => ⟨pa, n, ca', rfl, Lib.hid hl, hn, h3.mono hlo (Nat.le_refl _), hb⟩⟩
theorem pr_made (w : World) : (w.alloc (.cells #[] 48)).ownsRow w.heap.size 48 2 (.slice (some ⟨w.heap.size, 0, none⟩) 0 0) 0 (([] : List PrP).flatMap prCells) :=
  World.ownsRow_made (base := w.heap.size) (e := 48) (size := 2) w #[] 0 (Nat.le_refl _) (by decide) rfl

theorem own_setP {W : World} {lo B : Nat} {e : TypeId} {m n : Nat} {v : Value} {xs : List Value} (h : W.ownsRow lo e m v n xs) (hne : ∀ k, v.ownBlock = some k → k ≠ B) (i : Nat) (u : Value) : (W.setCell ⟨B, i, none⟩ u).ownsRow lo e m v n xs := by
  refine h.kept (row := some B) ⟨rfl, rfl, rfl, by rw [World.size_setCell]; exact Nat.le_refl _, fun k _ hk => Below.heap_setCell _ _ _ _ (fun e => hk (by rw [e]))⟩ ?_
  cases hv : v.ownBlock with
  | none => exact .inl rfl
  | some g => exact .inr (fun e => hne g hv (by cases e; rfl))
set_option maxHeartbeats 400000 in
theorem l_ClipPr (pa : Option Addr) (n ca : Nat) (w : World) (h1 : n ≤ ca) (h2 : ca ≤ maxLen) :
    Calls Try.prog 65 #[.slice pa n ca] w fun e w' => e = .returned (.slice pa n n) ∧ w = w' := by
  unfold maxLen at h2
  go_enter Try.func65, Try.ntmps65
  go_wp2
  go_ret
  exact ⟨rfl, rfl⟩

theorem pr_cells {W : World} {lo hi n : Nat} {pa : Option Addr} {ps : List PrP} (h : RowF W lo hi pa (n * 2) (prF ps)) {k : Nat} (hk : k < n) :
    ∃ g, pa = some ⟨g, 0, none⟩ ∧ lo ≤ g ∧ g < hi ∧ W.cell? ⟨g, k * 2, none⟩ = some (.int .i64 (ps[k]?.getD prNo).1) ∧ W.cell? ⟨g, k * 2 + 1, none⟩ = some (.string (ps[k]?.getD prNo).2) := by
  obtain ⟨g, e, h1, h2, h3, _⟩ := h (k * 2 + 0) (by omega)
  obtain ⟨g', e', _, _, h4, _⟩ := h (k * 2 + 1) (by omega)
  rw [e] at e'
  cases e'
  unfold prF at h3 h4
  rw [stF_at (by omega)] at h3 h4
  exact ⟨g, e, h1, h2, h3, h4⟩
theorem four_kept {w w' : World} {a1 a2 a3 a4 : Addr} {v1 v2 v3 v4 : Value} (hb : Below w.heap.size w w') (hl : a1.block < w.heap.size ∧ a3.block < w.heap.size ∧ a2.block = a1.block ∧ a4.block = a3.block)
    (h : w.cell? a1 = some v1 ∧ w.cell? a2 = some v2 ∧ w.cell? a3 = some v3 ∧ w.cell? a4 = some v4) : w'.cell? a1 = some v1 ∧ w'.cell? a2 = some v2 ∧ w'.cell? a3 = some v3 ∧ w'.cell? a4 = some v4 := by
  obtain ⟨l1, l3, e2, e4⟩ := hl
  exact ⟨(hb.cell l1).trans h.1, (hb.cell (by omega)).trans h.2.1, (hb.cell l3).trans h.2.2.1, (hb.cell (by omega)).trans h.2.2.2⟩
set_option maxHeartbeats 400000 in
theorem l_eqPair (a : Int) (c : ByteArray) (w : World) : Calls Try.prog 64 #[.agg #[.int .i64 a, .string c], .agg #[.int .i64 a, .string c]] w fun e w' => e = .returned (.bool true) ∧ Below w.heap.size w w' := by
  go_enter Try.func64, Try.ntmps64
  go_wp2
  go_ret
  exact ⟨rfl, ((Below.refl _ w).alloc (Nat.le_refl _) _).alloc (by simp) _⟩
set_option maxHeartbeats 1000000 in
theorem l_eqPairS (pa pb : Option Addr) (n ca cb : Nat) (ps : List PrP) (la ha lb hi2 : Nat) (w : World) (hle : n ≤ 1048576) (ra : RowF w la ha pa (n * 2) (prF ps)) (rb : RowF w lb hi2 pb (n * 2) (prF ps)) :
    Calls Try.prog 37 #[.slice pa n ca, .slice pb n cb] w fun e w' => e = .returned (.bool true) ∧ Below w.heap.size w w' := by
  go_enter Try.func37, Try.ntmps37
  go_wp2
  go_loopw [5] (fun i wr => ∃ k : Nat, k ≤ n ∧ i = .int .i64 k ∧ Below w.heap.size w wr) (fun i _ => n - (intOf i).toNat)
  case atStart => exact ⟨0, Nat.zero_le _, rfl, Below.refl _ _⟩
  case round =>
    obtain ⟨k, hk, rfl, hb⟩ := hrel
    by_cases hlt : k < n
    · obtain ⟨ga, rfl, _, _, a1, a2⟩ := pr_cells (ra.kept hb) hlt
      obtain ⟨gb, rfl, _, _, b1, b2⟩ := pr_cells (rb.kept hb) hlt
      obtain ⟨x, hx⟩ : ∃ x, x = (ps[k]?.getD prNo).1 := ⟨_, rfl⟩
      obtain ⟨z, hz⟩ : ∃ z, z = (ps[k]?.getD prNo).2 := ⟨_, rfl⟩
      rw [← hx] at a1 b1; rw [← hz] at a2 b2
      clear hx hz
      have la1 := cell_lt a1; have lb1 := cell_lt b1
      have e1 : (k : Int) < n := by omega
      go_wp2
      go_region_held3 (fun w' => w'.cell? ⟨ga, k * 2, none⟩ = some (.int .i64 x) ∧ w'.cell? ⟨ga, k * 2 + 1, none⟩ = some (.string z) ∧ w'.cell? ⟨gb, k * 2, none⟩ = some (.int .i64 x) ∧ w'.cell? ⟨gb, k * 2 + 1, none⟩ = some (.string z))
        (first | exact ⟨a1, a2, b1, b2⟩ | exact four_kept (w := wr.drew) (by assumption) ⟨la1, lb1, rfl, rfl⟩ ⟨a1, a2, b1, b2⟩)
        ((go_at_call 64; refine (l_eqPair x z _).mono ?_; rintro e w' ⟨rfl, hbn⟩))
      go_wp2
      go_roundw
      case rel => exact ⟨k + 1, by omega, by go_num, below_then (a := wr.drew) (hb.trans (Below.refl _ _).drew) hbn⟩
      case measure => simp [intOf]; omega
    · go_wp2
      go_ret
      exact ⟨rfl, hb⟩

/-- The marks of pairs, cell by cell. -/
def prM (t : Nat) : Value := if t % 2 = 1 then .string (markT (t + 1)) else .int .i64 ((t : Int) + 1)
def mixP (m : Nat) (f g : Nat → Value) (t : Nat) : Value := if t < m then f t else g t
theorem mixP_all {n : Nat} {f g : Nat → Value} {t : Nat} (h : t < n) : mixP n f g t = f t := by unfold mixP; rw [if_pos h]
theorem mixP_none (f g : Nat → Value) (t : Nat) : mixP 0 f g t = g t := by unfold mixP; rw [if_neg (by omega)]
theorem mix_two {k : Nat} {g : Nat → Value} {v0 v1 : Value} {f : Nat → Value} (h0 : v0 = f (k * 2)) (h1 : v1 = f (k * 2 + 1)) (t : Nat) :
    updF (updF (mixP (k * 2) f g) (k * 2) v0) (k * 2 + 1) v1 t = mixP ((k + 1) * 2) f g t := by
  unfold updF mixP
  by_cases e1 : t = k * 2 + 1
  · rw [if_pos e1, if_pos (by omega), h1, e1]
  · rw [if_neg e1]
    by_cases e0 : t = k * 2
    · rw [if_pos e0, if_pos (by omega), h0, e0]
    · rw [if_neg e0]
      by_cases e : t < k * 2
      · rw [if_pos e, if_pos (by omega)]
      · rw [if_neg e, if_neg (by omega)]
theorem prM_0 (k : Nat) : prM (k * 2) = .int .i64 ((k : Int) * 2 + 1) := by unfold prM; rw [if_neg (by omega)]; congr 1
theorem prM_1 (k : Nat) : prM (k * 2 + 1) = .string (markT (k * 2 + 1 + 1)) := by unfold prM; rw [if_pos (by omega)]
theorem l_markTextP (z : Int) (k : Nat) (w : World) (hz : z = k) (h0 : 0 < k) (hk : k ≤ 100000000) :
    Calls Try.prog 59 #[.int .i64 z] w fun e w' => e = .returned (.string (markT k)) ∧ Below w.heap.size w w' := by
  subst hz; exact l_markText k w h0 hk
set_option maxHeartbeats 2000000 in
theorem l_markPairS (pa : Option Addr) (n ca : Nat) (f : Nat → Value) (lo hi : Nat) (w : World) (hle : n ≤ 1048576) (ra : RowF w lo hi pa (n * 2) f) :
    Calls Try.prog 40 #[.slice pa n ca, .int .i64 1] w fun e w' => e = .returned (.int .i64 ((n : Int) * 2 + 1)) ∧ OnlyF lo hi w w' ∧ RowF w' lo hi pa (n * 2) prM := by
  go_enter Try.func40, Try.ntmps40
  go_wp2
  go_loopw [1, 5] (fun m i wr => ∃ k : Nat, k ≤ n ∧ i = .int .i64 k ∧ m = .int .i64 ((k : Int) * 2 + 1) ∧ OnlyF lo hi w wr ∧ RowF wr lo hi pa (n * 2) (mixP (k * 2) prM f)) (fun _ i _ => n - (intOf i).toNat)
  case atStart => exact ⟨0, Nat.zero_le _, rfl, rfl, OnlyF.refl _ _ _, ra.congr fun i _ => (mixP_none _ _ _).symm⟩
  case round =>
    obtain ⟨k, hk, rfl, rfl, hb, hr⟩ := hrel
    by_cases hlt : k < n
    · obtain ⟨g, rfl, hg1, hg2, c0, f0⟩ := hr (k * 2) (by omega)
      have r1 := hr.set (j := k * 2) (by omega) (.int .i64 ((k : Int) * 2 + 1))
      have b1 := hb.setCell hg1 hg2 (i := k * 2) (.int .i64 ((k : Int) * 2 + 1))
      have e1 : (k : Int) < n := by omega
      go_wp2_with fail
      refine (l_markTextP ((k : Int) * 2 + 1 + 1) (k * 2 + 1 + 1) _ (by omega) (by omega) (by omega)).mono ?_; rintro e w3 ⟨rfl, hb3⟩
      have r3 := r1.kept hb3
      have b3 := b1.then hb3
      obtain ⟨_, e3, _, _, c3, f3⟩ := r3 (k * 2 + 1) (by omega)
      cases e3
      have r4 := r3.set (j := k * 2 + 1) (by omega) (.string (markT (k * 2 + 1 + 1)))
      have r5 := r4.congr fun t _ => mix_two (f := prM) (g := f) (prM_0 k).symm (prM_1 k).symm t
      have b4 := b3.setCell hg1 hg2 (i := k * 2 + 1) (.string (markT (k * 2 + 1 + 1)))
      have H5 := Lib.hid r5
      clear r1 r3 r4 r5 b1 b3 hr
      go_wp2
      go_roundw
      case rel => exact ⟨k + 1, by omega, by go_num, by go_num, b4, H5.out⟩
      case measure => simp [intOf]; omega
    · obtain rfl : k = n := by omega
      go_wp2
      go_ret
      exact ⟨rfl, hb, hr.congr fun i hi => mixP_all hi⟩
set_option maxHeartbeats 2000000 in
theorem l_heldPairS (pa : Option Addr) (n ca : Nat) (lo hi : Nat) (w : World) (hle : n ≤ 1048576) (ra : RowF w lo hi pa (n * 2) prM) :
    Calls Try.prog 41 #[.slice pa n ca, .int .i64 1] w fun e w' => e = .returned (.int .i64 ((n : Int) * 2 + 1)) ∧ Below w.heap.size w w' := by
  go_enter Try.func41, Try.ntmps41
  go_wp2
  go_loopw [1, 5] (fun m i wr => ∃ k : Nat, k ≤ n ∧ i = .int .i64 k ∧ m = .int .i64 ((k : Int) * 2 + 1) ∧ Below w.heap.size w wr) (fun _ i _ => n - (intOf i).toNat)
  case atStart => exact ⟨0, Nat.zero_le _, rfl, rfl, Below.refl _ _⟩
  case round =>
    obtain ⟨k, hk, rfl, rfl, hb⟩ := hrel
    by_cases hlt : k < n
    · obtain ⟨g, rfl, _, _, c0, _⟩ := (ra.kept hb) (k * 2) (by omega)
      obtain ⟨_, e', _, _, c1, _⟩ := (ra.kept hb) (k * 2 + 1) (by omega)
      cases e'
      rw [prM_0] at c0; rw [prM_1] at c1
      have e1 : (k : Int) < n := by omega
      obtain ⟨mt, hmt⟩ : ∃ mt, mt = markT (k * 2 + 1 + 1) := ⟨_, rfl⟩
      rw [← hmt] at c1
      have HMT := Lib.hid hmt; clear hmt
      have hl2 := cell_lt c1
      go_wp2
      go_region_held3 (fun w' => w'.cell? ⟨g, k * 2 + 1, none⟩ = some (.string mt)) (first | exact c1 | exact (Below.cell (w := wr.drew) (by assumption) hl2).trans c1)
        ((go_at_call 59; refine (l_markTextP ((k : Int) * 2 + 1 + 1) (k * 2 + 1 + 1) _ (by omega) (by omega) (by omega)).mono ?_; rintro e w' ⟨rfl, hbn⟩; rw [← HMT.out]))
      go_wp2
      go_roundw
      case rel => exact ⟨k + 1, by omega, by go_num, by go_num, below_then (a := wr.drew) (hb.trans (Below.refl _ _).drew) hbn⟩
      case measure => simp [intOf]; omega
    · obtain rfl : k = n := by omega
      go_wp2
      go_ret
      exact ⟨rfl, hb⟩
end Go.Proofs.Ytkgdifngijeenaa
