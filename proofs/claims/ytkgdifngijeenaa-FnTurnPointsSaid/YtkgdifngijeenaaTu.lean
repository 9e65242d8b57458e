/- The walks of turn and turned, and of TurnPoints, the reference's and the program's. -/
import Derived.Test.YtkgdifngijeenaaBk
import Derived.RangeFuncNested
namespace Go.Proofs.Ytkgdifngijeenaa
open Go.RowKit Go.Shelf
set_option linter.unusedVariables false
attribute [local go_sem] Oper.semAt_some

/-- The first k of the points the other way round. -/
def turnTo (xs : List Int) (n k : Nat) : List Int := (List.range k).map fun j => xs[n - 1]?.getD 0 - xs[n - 1 - j]?.getD 0
def turnL (xs : List Int) : List Int := turnTo xs xs.length xs.length
theorem turnTo_succ (xs : List Int) (n k : Nat) : turnTo xs n (k + 1) = turnTo xs n k ++ [xs[n - 1]?.getD 0 - xs[n - 1 - k]?.getD 0] := by simp [turnTo, List.range_succ]
theorem turnTo_len (xs : List Int) (n k : Nat) : (turnTo xs n k).length = k := by simp [turnTo]
theorem turnTo_back (xs : List Int) (hx : ∀ i : Nat, 0 ≤ xs[i]?.getD 0 ∧ xs[i]?.getD 0 ≤ 60) (n k : Nat) : (uptoX (backX xs hx n) k).map (fun x => xs[n - 1]?.getD 0 - x.1.2) = turnTo xs n k := by
  simp [uptoX, turnTo, backX]

set_option maxHeartbeats 1000000 in
theorem s_turn (pa : Option Addr) (n ca : Nat) (xs : List Int) (w : World) (hn : xs.length = n) (h1 : 1 ≤ n) (h6 : n ≤ 6) (hx : ∀ i : Nat, 0 ≤ xs[i]?.getD 0 ∧ xs[i]?.getD 0 ≤ 60) (ra : Rds w pa xs) :
    Calls Try.prog 50 #[.slice pa n ca] w (RetInts (turnL xs) w) := by
  have HN := Lib.hid hn; clear hn
  have HX := Lib.hid hx; clear hx
  obtain ⟨b, off, rfl, _, ht⟩ := ra (n - 1) (by rw [HN.out]; omega)
  obtain ⟨t0, t1⟩ := HX.out (n - 1)
  obtain ⟨t, htd⟩ : ∃ t, t = xs[n - 1]?.getD 0 := ⟨_, rfl⟩
  rw [← htd] at ht t0 t1
  have HT := Lib.hid htd; clear htd
  have e1 : ((n : Int) - 1).toNat = n - 1 := by omega
  go_enter Try.func50, Try.ntmps50
  go_wp2
  go_loopw [3, 5] (fun v i wr => ∃ k : Nat, k ≤ n ∧ i = .int .i64 ((n : Int) - 1 - k) ∧ wr.ownsRow w.heap.size 3 1 v k (ints (turnTo xs n k)) ∧ Below w.heap.size w wr) (fun _ i _ => ((intOf i) + 1).toNat)
  case atStart => exact ⟨0, Nat.zero_le _, by simp, owns_made w, (Below.refl _ _).alloc (Nat.le_refl _) _⟩
  case round =>
    obtain ⟨k, hk, rfl, hown, hb⟩ := hrel
    clear ht
    have hwr := hb.size
    by_cases hlt : k < n
    · obtain ⟨i, hi⟩ : ∃ i, i = n - 1 - k := ⟨_, rfl⟩
      obtain ⟨b', off', e2, _, hc⟩ := (ra.kept hb) i (by rw [HN.out]; omega)
      cases e2
      have hs := turnTo_succ xs n k
      rw [← hi, ← HT.out] at hs
      obtain ⟨x0, x1⟩ := HX.out i
      obtain ⟨x, hxd⟩ : ∃ x, x = xs[i]?.getD 0 := ⟨_, rfl⟩
      rw [← hxd] at hc hs x0 x1
      have HS := Lib.hid hs
      have ei : ((n : Int) - 1 - k) = (i : Int) := by omega
      have hin : i < n := by omega
      have hik : (i : Int) = (n : Int) - 1 - k := by omega
      rw [ei]
      have HI := Lib.hid hik
      clear hs hxd ei hi hik
      go_wp2_with (at_builtin; refine wpList_append_int rfl _ _ rfl w.heap.size _ k (turnTo xs n k) (t - x) hown rfl rfl (by omega) (by exact hwr) ?_; intro v' w2 hown2 hgrow2 hb2)
      go_roundw
      case rel => exact ⟨k + 1, by omega, by rw [HI.out]; congr 1; omega, by rw [HS.out]; exact hown2, hb.trans hb2⟩
      case measure => simp [intOf]
    · obtain rfl : k = n := by omega
      go_wp2
      go_ret
      unfold turnL
      rw [HN.out]
      exact RetInts.of_owns hown (Nat.le_refl _) (by omega) hb

theorem wpList_make0_ints {ops : Array Oper} {rest : List Oper} {o : Oper} {a : Act} {Q : Exit → Act → World → Prop} (w : World) (hg : o.guard = none) (l c : Operand)
    (hop : o.op = Op.makeSlice 22 l c) (n : Nat) (C : Int) (hl : a.eval l = .int .i64 0) (hc : a.eval c = .int .i64 C) (hC : C = (n : Int)) (hn : n ≤ 1048576) (base : Nat) (hb : base ≤ w.heap.size)
    (hK : ∀ w', w'.ownsRow base 3 1 (.slice (some ⟨w.heap.size, 0, none⟩) 0 n) 0 (ints []) → w'.heap.size = w.heap.size + 1 → w.grownBy w' none → wpList Try.prog ops Q rest (a.put o.dst (.slice (some ⟨w.heap.size, 0, none⟩) 0 n)) w') :
    wpList Try.prog ops Q (o :: rest) a w := by
  obtain ⟨i0, hi, hz0, hz1, hz2⟩ := info_parts info_int
  have hrun := run_make (P := Try.prog) w 22 3 i0 (.int .i64 0) Try.underlying22 hi hz0 .i64 .i64 0 (n : Int) (by omega) (by omega) (by rw [hz2]; omega) (by omega)
  subst hC
  refine wpList_plain hg fun K hK' => ?_
  unfold Oper.wp
  simp [execOp, hop, hl, hc, hrun, Result.andThen]
  refine hK' _ _ (hK _ ?_ (by simp) (World.grownBy_alloc _ _ _))
  exact World.ownsRow_made w _ n hb (by unfold maxLen; omega) (by rw [size_madeCells, hz1])
set_option maxRecDepth 100000 in
set_option maxHeartbeats 4000000 in
theorem i_turned (pa : Option Addr) (n ca : Nat) (xs : List Int) (w : World) (hn : xs.length = n) (h1 : 1 ≤ n) (h6 : n ≤ 6) (hx : ∀ i : Nat, 0 ≤ xs[i]?.getD 0 ∧ xs[i]?.getD 0 ≤ 60) (ra : Rds w pa xs) :
    Calls Try.prog 51 #[.slice pa n ca] w (RetInts (turnL xs) w) := by
  have HN := Lib.hid hn; clear hn
  have HX := Lib.hid hx; clear hx
  obtain ⟨b, off, rfl, hbw, ht⟩ := ra (n - 1) (by rw [HN.out]; omega)
  obtain ⟨t0, t1⟩ := HX.out (n - 1)
  obtain ⟨t, htd⟩ : ∃ t, t = xs[n - 1]?.getD 0 := ⟨_, rfl⟩
  rw [← htd] at ht t0 t1
  have HT := Lib.hid htd; clear htd
  have hcs : ∀ j, j < n → w.cell? ⟨b, off + j, none⟩ = some (.int .i64 (xs[j]?.getD 0)) := fun j hj => by
    obtain ⟨b', off', e, _, hc⟩ := ra j (by rw [HN.out]; exact hj)
    cases e; exact hc
  have HCS := Lib.hid hcs; clear hcs
  refine (callsIn_wide (n := 6)).1 ?_
  refine callsIn_of_wp_marks Try.func51 rfl trivial ?_ rfl
  simp only [Try.ntmps51, List.size_toArray, List.length_cons, List.length_nil, Nat.reduceAdd, Nat.reduceSub, Array.replicate_succ, Array.replicate_zero, List.push_toArray, List.append_toArray, List.nil_append, List.cons_append]
  refine wpIn_wide.2 ?_
  go_wp2_with (first
    | (at_make; refine wpList_make0_ints _ rfl _ _ rfl n _ rfl rfl rfl (by omega) w.heap.size (by simp) ?_; intro w1 hown1 hs1 hg1; rw [World.size_alloc] at hs1 hown1; have bL := (Boxed.new w 22 (.slice (some ⟨b, off, none⟩) n ca)).kept hg1 (by simp); have cL := bL.cell; have hB1 : Below w.heap.size w w1 := ((Below.refl _ w).alloc (Nat.le_refl _) _).grown hg1 (by simp) (fun k e => by cases e))
    | (go_at_call 69; refine (back_call _ _ _ _).mono ?_; rintro e w' ⟨rfl, rfl⟩))
  have bO := Boxed.new w1 22 (.slice (some ⟨w.heap.size + 1, 0, none⟩) 0 n)
  have hB2 : Below w.heap.size w (w1.alloc (.cells #[.slice (some ⟨w.heap.size + 1, 0, none⟩) 0 n] 22)) := hB1.alloc hB1.size _
  have hB3 := hB2.alloc (by simp; omega) (.cells #[.slice (some ⟨b, off, none⟩) n ca] 22)
  have bN := Boxed.new (w1.alloc (.cells #[.slice (some ⟨w.heap.size + 1, 0, none⟩) 0 n] 22)) 22 (.slice (some ⟨b, off, none⟩) n ca)
  rw [World.size_alloc, hs1] at bN
  rw [hs1] at bO
  obtain ⟨W0, hW0⟩ : ∃ W0, W0 = (w1.alloc (.cells #[.slice (some ⟨w.heap.size + 1, 0, none⟩) 0 n] 22)).alloc (.cells #[.slice (some ⟨b, off, none⟩) n ca] 22) := ⟨_, rfl⟩
  have hsz : W0.heap.size = w.heap.size + 1 + 1 + 1 + 1 := by rw [hW0, World.size_alloc, World.size_alloc, hs1]
  rw [← hW0] at hB3 bN ⊢
  have bO' : Boxed W0 (w.heap.size + 1 + 1) 22 (.slice (some ⟨w.heap.size + 1, 0, none⟩) 0 n) := by rw [hW0]; exact bO.alloc _
  have bL' : Boxed W0 w.heap.size 22 (.slice (some ⟨b, off, none⟩) n ca) := by rw [hW0]; exact (bL.alloc _).alloc _
  have o0 : W0.ownsRow w.heap.size 3 1 (.slice (some ⟨w.heap.size + 1, 0, none⟩) 0 n) 0 (ints []) := by rw [hW0]; exact (hown1.alloc _).alloc _
  have HSZ := Lib.hid hsz
  have hsz2 : w.heap.size + 1 + 1 + 1 < W0.heap.size := by omega
  clear hW0 bO hB2 hB1 bL cL hg1 hs1 hown1 hsz
  refine (wpIn_wide (n := 6)).1 ?_
  refine wpIn_rangeFunc_ownG rfl (by omega) (gf := 71) (lb := #[.pointer (some ⟨w.heap.size + 1 + 1 + 1, 0, none⟩)]) rfl trivial (enters_of Try.func71 (by kernel_rfl) rfl)
    (back_stops (6 - 1) (by omega) (w.heap.size + 1 + 1 + 1) w.heap.size b off n ca xs HX.out (by omega) W0 hsz2 (by omega) hbw bN.cell (fun j hj => (hB3.cell (p := ⟨b, off + j, none⟩) hbw).trans (HCS.out j hj)))
    (fun h k => KpB.t h k) (fun W l o o' q1 q2 q3 q4 => ⟨belowK_b (w := W0) (by omega) W l o o' q1 q2 q3 q4, World.putObj_heap_other (by omega)⟩) (Below.refl _ _) (fun _ => rfl)
    (fun pre W => ((∃ v, Boxed W (w.heap.size + 1 + 1) 22 v ∧ W.ownsRow w.heap.size 3 1 v pre.length (ints (pre.map fun x => t - x.1.2)) ∧ True) ∧ Boxed W w.heap.size 22 (.slice (some ⟨b, off, none⟩) n ca) ∧ Boxed W (w.heap.size + 1 + 1 + 1) 22 (.slice (some ⟨b, off, none⟩) n ca)) ∧ Below w.heap.size w W)
    (fun _ _ _ => False)
    ?hI
    (fun _ _ _ _ _ hs _ _ => hs)
    ⟨⟨⟨_, bO', o0, trivial⟩, bL', bN⟩, hB3⟩
    (fun x => { tmps := #[.slice (some ⟨b, off, none⟩) n ca, .pointer (some ⟨w.heap.size, 0, none⟩), .slice none 0 0, .pointer (some ⟨w.heap.size + 1 + 1, 0, none⟩), undef, .int .i64 x.1.2, .slice (some ⟨b, off, none⟩) n ca, .int .i64 n, .slice (some ⟨w.heap.size + 1, 0, none⟩) 0 n, .slice (some ⟨b, off, none⟩) n ca, .func (.func 71) #[] #[.pointer (some ⟨w.heap.size + 1 + 1 + 1, 0, none⟩)], .int .i64 (x.1.1 : Int), .int .i64 x.1.2, undef, undef, undef, undef, undef, undef, undef, undef, undef, undef, undef, undef], defers := [] }) ?assign ?body ?done ?stop
  case hI => exact OwnFrom.and (Own.from (fun s A B row hs hg hr => ⟨holdsRow_own w.heap.size (w.heap.size + 1 + 1) 22 3 1 (fun pre => pre.length) (fun pre => ints (pre.map fun x => t - x.1.2)) (fun _ _ => True) s A B row hs.1 hg hr, boxed_own w.heap.size 22 (fun _ => .slice (some ⟨b, off, none⟩) n ca) s A B row hs.2.1 hg hr, boxed_own (w.heap.size + 1 + 1 + 1) 22 (fun _ => .slice (some ⟨b, off, none⟩) n ca) s A B row hs.2.2 hg hr⟩) _) (ownFrom_below (Nat.le_refl _) (by omega))
  case assign =>
    intro l x W K hK
    unfold encX
    gi_wp2
    exact hK
  case body =>
    rintro l pre x W ⟨⟨⟨v, hv, hrow, _⟩, hcl, hcn⟩, hB⟩ hlt
    refine wpIn_block ?_
    have hc0 := hv.cell
    have hcl0 := hcl.cell
    have he := (hB.cell (p := ⟨b, off + (n - 1), none⟩) hbw).trans ht
    have e1 : ((n : Int) - 1).toNat = n - 1 := by omega
    obtain ⟨x0, x1⟩ := x.2
    obtain ⟨xv, hxv⟩ : ∃ xv, xv = x.1.2 := ⟨_, rfl⟩
    rw [← hxv] at x0 x1 ⊢
    have hpre : (pre ++ [x]).map (fun x => t - x.1.2) = pre.map (fun x => t - x.1.2) ++ [t - xv] := by rw [List.map_append, hxv]; rfl
    have HPRE := Lib.hid hpre
    clear hpre hxv
    have ew1 : IntKind.i64.wrap ((n : Int) - 1) = n - 1 := IntWalk.i64_in _ (by omega)
    have ew2 : IntKind.i64.wrap (t - xv) = t - xv := IntWalk.i64_in _ (by omega)
    have e2 : (0 : Int) ≤ (n : Int) - 1 := by omega
    have e3 : (n : Int) - 1 < n := by omega
    have e4 : n - 1 < n := by omega
    have e5 : (1 : Int) ≤ n := by omega
    refine held_round (S := fun w' => w'.cell? ⟨w.heap.size + 1 + 1, 0, none⟩ = some v ∧ w'.cell? ⟨w.heap.size, 0, none⟩ = some (.slice (some ⟨b, off, none⟩) n ca) ∧ w'.cell? ⟨b, off + (n - 1), none⟩ = some (.int .i64 t)) 9 (by kernel_rfl) (fun ⟨_, _, h⟩ => h) (by kernel_rfl) (by kernel_rfl) (fun _ _ _ _ _ h => h) ?_
    intro W5 hst
    have kb : ∀ {B v}, Boxed W B 22 v → Boxed W5 B 22 v := fun {B v} h => by unfold Boxed; rw [hst.2]; exact h
    have hv5 := kb hv
    have hcl5 := kb hcl
    have hcn5 := kb hcn
    have hrow5 := hst.owns hrow
    have hB5 := hB.trans (hst.below w.heap.size)
    have he5 := (hB5.cell (p := ⟨b, off + (n - 1), none⟩) hbw).trans ht
    clear kb hc0 hcl0 he
    refine ⟨⟨hv5.cell, hcl5.cell, he5⟩, ?_⟩
    simp only [List.take_succ_cons, List.take_zero, List.drop_succ_cons, List.drop_zero]
    repeat
      refine wpHeld_cons (v := ?_) (Or.inl ⟨by rfl, ?_⟩) ?_
      rotate_left
      · intro W2 hSw
        obtain ⟨q1, q2, q3⟩ := hSw
        go_simp
        try rfl
      simp only [Act.put, List.setIfInBounds_toArray, List.set_cons_zero, List.set_cons_succ]
    refine wpHeld_nil ?_
    clear ew1 ew2
    unfold wpOne
    intro K hK
    have HK := Lib.hid hK; clear hK
    go_simp
    have hbl : b < W5.heap.size := Nat.lt_of_lt_of_le hbw hB5.size
    refine HK.out _ _ ⟨(hv5.alloc _).cell, (hcl5.alloc _).cell, (World.cell?_alloc_lt _ _ ⟨b, off + (n - 1), none⟩ hbl).trans he5⟩ ?_
    clear HK K
    go_wp2_with (at_builtin; refine wpList_append_int rfl _ _ rfl w.heap.size v pre.length (pre.map fun x => t - x.1.2) (t - xv) hrow5 rfl rfl (by omega) (by exact hB5.size) ?_; intro v' w2 hown2 hgrow2 hb2; obtain ⟨g', cap', rfl⟩ := ownsRow_succ hown2; obtain ⟨hv1, hv2, hr2, hk2, hbb⟩ := Boxed.appended (n₀ := w.heap.size) hv5 (by decide) hrow5 hB5.size (by omega) hown2 hgrow2; have hc1 := hv1.cell; have hf1 := hv1.frozen)
    have hl1 := (hcl5.alloc (.cells #[.int .i64 (t - xv)] 3)).kept hgrow2 (hcl5.not_row (by decide) hrow5)
    have hn1 := (hcn5.alloc (.cells #[.int .i64 (t - xv)] 3)).kept hgrow2 (hcn5.not_row (by decide) hrow5)
    have hl2 := hl1.other (B' := w.heap.size + 1 + 1) (by omega) (.slice (some ⟨g', 0, none⟩) (pre.length + 1) cap')
    have hn2 := hn1.other (B' := w.heap.size + 1 + 1) (by omega) (.slice (some ⟨g', 0, none⟩) (pre.length + 1) cap')
    have hko : KeepsOthers W W5 := ⟨hst.1.size, fun i o hi _ => by rw [hst.2]; exact hi⟩
    refine ⟨(hko.trans hk2).from _, ⟨(hst.below _).trans hbb, hn2.trans hcn.symm⟩, ⟨⟨_, hv2, ?_, trivial⟩, hl2, hn2⟩, hB5.trans hbb⟩
    rw [HPRE.out, List.length_append]
    exact hr2
  case done =>
    rintro D ys W hD rfl ⟨⟨⟨v, hv, hrow, _⟩, hcl, hcn⟩, hB⟩ hK
    have hc := hv.cell
    go_wp2
    refine ⟨by simp, .inl ⟨_, _, rfl, run_takeDeferred hK, ?_⟩⟩
    refine ⟨_, results_tmp rfl _ _ _, ?_⟩
    have hfin := ownsRow_putObj hrow (.deferred none) hK rfl
    rw [uptoX_len, HT.out, turnTo_back xs HX.out n n] at hfin
    unfold turnL
    rw [HN.out]
    exact RetInts.of_owns hfin (Nat.le_refl _) (by omega) (hB.trans (belowK_b (w := W0) (by omega) W D _ _ hD hK rfl rfl))
  case stop =>
    rintro D c pre W _ _ h _
    exact h.elim
end Go.Proofs.Ytkgdifngijeenaa
