/- Arguments that are slices of pairs: szPairS, toPairS; the walk of the law FnExactUnpairText. -/
import Derived.Test.YtkgdifngijeenaaUq
import Derived.Deep.Slices
import Derived.Deep.Fields
import Derived.ChangeSame
namespace Go.Proofs.Ytkgdifngijeenaa
open Go.RowKit
set_option linter.unusedVariables false

/-- A slice of pairs at whatever place reads as ps. -/
def PrsOf (W : World) (pa : Option Addr) (n cap : Nat) (ps : List PrP) : Prop :=
  ps.length = n ∧ n ≤ cap ∧ cap ≤ maxLen ∧ (∀ p ∈ ps, p.2.size ≤ maxLen) ∧ ∀ i, i < n → ∃ b off, pa = some ⟨b, off, none⟩ ∧ W.cell? ⟨b, off + i * 2, none⟩ = some (.int .i64 (ps[i]?.getD prNo).1) ∧ W.cell? ⟨b, off + i * 2 + 1, none⟩ = some (.string (ps[i]?.getD prNo).2)
def PrsAt (W : World) (pa : Option Addr) (n cap : Nat) : Prop := ∃ ps, PrsOf W pa n cap ps
theorem PrsOf.kept {W W' : World} {pa : Option Addr} {n cap : Nat} {ps : List PrP} (h : PrsOf W pa n cap ps) (hb : Below W.heap.size W W') : PrsOf W' pa n cap ps :=
  ⟨h.1, h.2.1, h.2.2.1, h.2.2.2.1, fun i hi => by
    obtain ⟨b, off, e, c0, c1⟩ := h.2.2.2.2 i hi
    exact ⟨b, off, e, (hb.cell (p := ⟨b, off + i * 2, none⟩) (cell_lt c0)).trans c0, (hb.cell (p := ⟨b, off + i * 2 + 1, none⟩) (cell_lt c1)).trans c1⟩⟩
theorem RowF.of_made {W : World} {lo m : Nat} {e : TypeId} {n g ca : Nat} {vs : List Value} (h : W.ownsRow lo e m (.slice (some ⟨g, 0, none⟩) n ca) n vs) :
    RowF W lo W.heap.size (some ⟨g, 0, none⟩) (n * m) (fun i => vs[i]?.getD undef) := by
  have hown := h
  obtain ⟨hl, hcase⟩ := h
  rcases hcase with ⟨h0, _⟩ | ⟨g', cap, cur, e', hg, hh, hn, hcap, hsz, htake⟩
  · cases h0
  · cases e'
    intro i hi
    have hv : vs[i]? = some (vs[i]?.getD undef) := by rw [List.getElem?_eq_getElem (by omega)]; rfl
    refine ⟨g, rfl, hg, (Array.getElem?_eq_some_iff.1 hh).1, ?_, by simp [World.frozen?, hh]⟩
    have := hown.cells (g := g) rfl i _ hv
    rw [show (⟨g, i, none⟩ : Addr) = (⟨g, 0, none⟩ : Addr).add i from by cases i <;> simp [Addr.add]]
    exact this
set_option maxHeartbeats 1000000 in
theorem l_toPair (x : Int) (z : ByteArray) (w : World) : Calls Try.prog 62 #[.agg #[.int .i64 x, .string z]] w fun e w' => e = .returned (.agg #[.int .i64 x, .string z]) ∧ Below w.heap.size w w' := by
  go_enter Try.func62, Try.ntmps62
  go_wp2
  have hb : Below w.heap.size w (((w.alloc (.cells #[.int .i64 x, .string z] 62)).alloc (.cells #[.int .i64 x, .string z] 48)).alloc (.cells #[.int .i64 x, .string z] 48)) := (((Below.refl _ w).alloc (Nat.le_refl _) _).alloc (by simp) _).alloc (by simp; omega) _
  refine bodyPost_ret (v := .agg #[.int .i64 x, .string z]) (by simp [results, Try.results62, go_sem]) rfl ⟨rfl, hb⟩
set_option maxHeartbeats 2000000 in
theorem l_toPairS (pa : Option Addr) (n cap : Nat) (ps : List PrP) (w : World) (hx : PrsOf w pa n cap ps) (hn : n ≤ 1048576) :
    Calls Try.prog 35 #[.slice pa n cap] w (RetPr ps w) := by
  have HX := Lib.hid hx; clear hx
  obtain ⟨i0, hi, hz0, hz1, hz2⟩ := info_parts info_pr
  go_enter Try.func35, Try.ntmps35
  go_wp2_with (at_make; refine wpList_make_full _ rfl _ _ 41 rfl w.heap.size 48 i0 _ 2 Try.underlying41 hi hz0 hz1 .i64 .i64 _ _ n rfl rfl rfl rfl (by rw [hz2]; omega) (by unfold maxLen; omega) (Nat.le_refl _) ?_; intro w1 hown1 hg1)
  have hr1 := RowF.of_made hown1
  have hb1 : Below w.heap.size w w1 := (Below.refl _ _).grown hg1 (Nat.le_refl _) (fun k e => by cases e)
  obtain ⟨f, hf⟩ : ∃ f : Nat → Value, f = fun i => (madeCells (Value.cells (.agg #[.int .i64 0, .string ⟨#[]⟩])) (n * 2)).toList[i]?.getD undef := ⟨_, rfl⟩
  rw [← hf] at hr1
  clear hf hown1 hg1 hi hz0 hz1 hz2
  go_loopw [4] (fun i wr => ∃ k : Nat, k ≤ n ∧ i = .int .i64 k ∧ RowF wr w.heap.size w1.heap.size (some ⟨w.heap.size, 0, none⟩) (n * 2) (mixP (k * 2) (prF ps) f) ∧ w1.heap.size ≤ wr.heap.size ∧ Below w.heap.size w wr) (fun i _ => n - (intOf i).toNat)
  case atStart => exact ⟨0, Nat.zero_le _, rfl, hr1.congr fun i _ => (mixP_none _ _ _).symm, Nat.le_refl _, hb1⟩
  case round =>
    obtain ⟨k, hk, rfl, hr, hsz, hb⟩ := hrel
    by_cases hlt : k < n
    · obtain ⟨b, off, rfl, c0, c1⟩ := (HX.out.kept hb).2.2.2.2 k hlt
      have hcap : n ≤ cap := HX.out.2.1
      obtain ⟨x, hx⟩ : ∃ x, x = (ps[k]?.getD prNo).1 := ⟨_, rfl⟩
      obtain ⟨z, hz⟩ : ∃ z, z = (ps[k]?.getD prNo).2 := ⟨_, rfl⟩
      have hp0 : prF ps (k * 2) = .int .i64 x := by rw [hx]; exact stF_at (j := 0) (by decide) prFld prNo ps k
      have hp1 : prF ps (k * 2 + 1) = .string z := by rw [hz]; exact stF_at (j := 1) (by decide) prFld prNo ps k
      rw [← hx] at c0; rw [← hz] at c1
      clear hx hz
      have e1 : (k : Int) < n := by omega
      go_wp2_with fail
      refine (l_toPair x z _).mono ?_; rintro e w2 ⟨rfl, hb2⟩
      have hr2 := hr.kept hb2
      have hB2 := below_then hb hb2
      have hs2 := hb2.size
      obtain ⟨_, e2, _, _, d0, f0⟩ := hr2 (k * 2) (by omega)
      obtain ⟨_, e3, _, _, d1, f1⟩ := hr2 (k * 2 + 1) (by omega)
      cases e2; cases e3
      have hr4 := (((hr2.set (j := k * 2) (by omega) (.int .i64 x)).set (j := k * 2 + 1) (by omega) (.string z))).congr fun t _ => mix_two (f := prF ps) (g := f) hp0.symm hp1.symm t
      have hB4 := (hB2.setCell (p := ⟨w.heap.size, k * 2, none⟩) (Nat.le_refl _) (.int .i64 x)).setCell (p := ⟨w.heap.size, k * 2 + 1, none⟩) (Nat.le_refl _) (.string z)
      have H4 := Lib.hid hr4
      clear hr hr2 hr4 hb hb2 hp0 hp1
      go_wp2
      go_roundw
      case rel => exact ⟨k + 1, by omega, by go_num, H4.out, by rw [World.size_setCell, World.size_setCell]; omega, hB4⟩
      case measure => simp [intOf]; omega
    · obtain rfl : k = n := by omega
      go_wp2
      go_ret
      exact ⟨_, k, k, rfl, Lib.hid HX.out.1, hn, (hr.congr fun i hi => mixP_all hi).mono (Nat.le_refl _) hsz, hb⟩
set_option maxHeartbeats 1000000 in
theorem l_szPair (x : Int) (z : ByteArray) (l : Int) (w : World) (hl0 : 0 ≤ l) (hl : l ≤ 1048576) (hz : z.size ≤ maxLen) :
    Calls Try.prog 60 #[.agg #[.int .i64 x, .string z], .int .i64 l] w fun e w' => e = .returned (.int .i64 (if l - z.size < 0 then -1 else l - z.size)) ∧ Below w.heap.size w w' := by
  unfold maxLen at hz
  by_cases h : l - (z.size : Int) < 0
  · rw [if_pos h]
    go_enter Try.func60, Try.ntmps60
    go_wp2
    go_ret
    exact ⟨rfl, (Below.refl _ w).alloc (Nat.le_refl _) _⟩
  · rw [if_neg h]
    go_enter Try.func60, Try.ntmps60
    go_wp2
    go_ret
    exact ⟨rfl, (Below.refl _ w).alloc (Nat.le_refl _) _⟩
/-- What szPairS tells. -/
def SzRet (ps : List PrP) (w : World) (e : Ending) (w' : World) : Prop := ∃ r : Int, e = .returned (.int .i64 r) ∧ Hid (0 ≤ r → ps.length ≤ 1048576 ∧ ∀ i, i < ps.length → (ps[i]?.getD prNo).2.size ≤ 1048576) ∧ -1 ≤ r ∧ r ≤ 1048576 ∧ Below w.heap.size w w'
set_option maxHeartbeats 1000000 in
theorem l_szPairS (pa : Option Addr) (n cap : Nat) (ps : List PrP) (w : World) (hx : PrsOf w pa n cap ps) :
    Calls Try.prog 33 #[.slice pa n cap, .int .i64 1048576] w (SzRet ps w) := by
  have HX := Lib.hid hx
  obtain ⟨hl, hnc, hcm, _, _⟩ := hx
  unfold maxLen at hcm
  have HL := Lib.hid hl; clear hl
  by_cases hbig : n ≤ 1048576
  · go_enter Try.func33, Try.ntmps33
    go_wp2
    go_loopw [1, 5] (fun l i wr => ∃ (k : Nat) (z : Int), k ≤ n ∧ i = .int .i64 k ∧ l = .int .i64 z ∧ 0 ≤ z ∧ z ≤ 1048576 ∧ Hid (∀ i, i < k → (ps[i]?.getD prNo).2.size ≤ 1048576) ∧ Below w.heap.size w wr) (fun _ i _ => n - (intOf i).toNat)
    case atStart => exact ⟨0, 1048576 - n, Nat.zero_le _, rfl, rfl, by omega, by omega, Lib.hid (fun i hi => by omega), Below.refl _ _⟩
    case round =>
      obtain ⟨k, l, hk, rfl, rfl, hl0, hl1, HZ, hb⟩ := hrel
      by_cases hlt : k < n
      · obtain ⟨b, off, rfl, c0, c1⟩ := (HX.out.kept hb).2.2.2.2 k hlt
        have hzs : (ps[k]?.getD prNo).2.size ≤ maxLen := by
          have hkl : k < ps.length := by rw [HL.out]; exact hlt
          rw [List.getElem?_eq_getElem hkl]; exact HX.out.2.2.2.1 _ (List.getElem_mem hkl)
        obtain ⟨x, hx⟩ : ∃ x, x = (ps[k]?.getD prNo).1 := ⟨_, rfl⟩
        obtain ⟨z, hz⟩ : ∃ z, z = (ps[k]?.getD prNo).2 := ⟨_, rfl⟩
        rw [← hx] at c0; rw [← hz] at c1 hzs
        have HZE := Lib.hid hz
        clear hx hz
        have e1 : (k : Int) < n := by omega
        go_wp2_with fail
        refine (l_szPair x z l _ hl0 hl1 hzs).mono ?_; rintro e w2 ⟨rfl, hb2⟩
        have hB2 := below_then hb hb2
        clear hb hb2
        by_cases h : l - (z.size : Int) < 0
        · rw [if_pos h]
          go_wp2
          go_ret
          exact ⟨-1, rfl, Lib.hid (fun h => by omega), by omega, by omega, hB2⟩
        · rw [if_neg h]
          go_wp2
          go_roundw
          case rel => exact ⟨k + 1, l - z.size, by omega, by go_num, rfl, by omega, by omega, Lib.hid (fun i hi => by
              by_cases e : i = k
              · subst e; rw [← HZE.out]; omega
              · exact HZ.out i (by omega)), hB2⟩
          case measure => simp [intOf]; omega
      · obtain rfl : k = n := by omega
        go_wp2
        go_ret
        exact ⟨l, rfl, Lib.hid (fun _ => ⟨by rw [HL.out]; exact hbig, by rw [HL.out]; exact HZ.out⟩), by omega, by omega, hb⟩
  · go_enter Try.func33, Try.ntmps33
    go_wp2
    go_ret
    exact ⟨-1, rfl, Lib.hid (fun h => by omega), by omega, by omega, Below.refl _ _⟩
section
open Go.ChangeShapes Go.WideShapes Go.Deep
variable {H : Type} {enc : TypeId × Value → H} {P : Program} {w : World} {base : Nat} {spare : Nat → Bool} {held : Bool}
theorem open_slice_fields {t e : TypeId} {fs : Array Field} {fuel : Nat} {cs : List Value} {x : DataW H × List MemPlace} (ht : P.underlying t = some (.slice e)) (he : P.underlying e = some (.struct fs))
    (hone : oneCellFields P fs = true) (hC : P.cellsOf e = fs.size) (h : DataW.trod enc P w base spare held fuel t cs = some x) :
    (cs = [.slice none 0 0] ∧ x = (.nil, [])) ∨
    ∃ (a : Addr) (len cap m : Nat), cs = [.slice (some a) len cap] ∧ len ≤ cap ∧ cap ≤ maxLen ∧ m = (if spare a.block then cap else len) ∧
      ∀ i, i < m → ∀ (j : Nat) (f : Field), fs[j]? = some f → ∃ (v : Value) (y : DataW H × List MemPlace) (n : Nat), w.cell? (a.add (i * fs.size + j)) = some v ∧ DataW.trod enc P w base spare held n f.type [v] = some y := by
  rcases open_slice ht h with h0 | ⟨a, len, cap, m, n, D, Pl, hcs, hb, hl, hm, hmm, hx, hi⟩
  · exact .inl h0
  · refine .inr ⟨a, len, cap, m, hcs, hl, hm, hmm, fun i him j f hj => ?_⟩
    obtain ⟨cs', hc, ht'⟩ := hi i him
    rw [hC] at hc
    obtain ⟨ys, n', hn', hy, hlen, hyl, hf⟩ := DataW.trod_struct he ht'
    obtain ⟨_, hcl, hat⟩ := World.cells?_some hc
    obtain ⟨ho, hk⟩ := hone_of hone j f hj
    have hjl : j < fs.size := (Array.getElem?_eq_some_iff.1 hj).1
    have hcell := hat j hjl
    have hv : cs'[j]? = some (cs'[j]'(by omega)) := List.getElem?_eq_getElem (by omega)
    have h1 := hf j f hj
    rw [ho, hk] at h1
    have hone' : (cs'.drop j).take 1 = [cs'[j]'(by omega)] := by
      rw [List.drop_eq_getElem_cons (by omega)]
      rfl
    rw [hone'] at h1
    have hys : ys[j]? = some (ys[j]'(by omega)) := List.getElem?_eq_getElem (by omega)
    refine ⟨_, _, _, ?_, h1.trans hys⟩
    rw [← Go.Deep.add_add, hcell, hv]
end
theorem add_flat (b off : Nat) (r : Option Addr) (i : Nat) (a : Addr) (h : a = ⟨b, off, none⟩) : a.add i = ⟨b, off + i, none⟩ := by
  subst h; cases i <;> simp [Addr.add]
theorem PrsAt.of_trod {H : Type} {enc : TypeId × Value → H} {W : World} {base : Nat} {held : Bool} {pa : Option Addr} {n cap : Nat} {d : DataW H} {qs : List MemPlace}
    (h : DataW.Trod enc Try.prog W base (fun _ => true) held 37 (.slice pa n cap) d qs) : PrsAt W pa n cap := by
  obtain ⟨fuel, hf⟩ := h
  rcases open_slice_fields Try.underlying37 Try.underlying62 (by kernel_rfl) (by kernel_rfl) hf with ⟨hcs, hx⟩ | ⟨a, len', cap', m, hcs, hl, hm, hmm, hcell⟩
  · simp [Value.cells] at hcs
    obtain ⟨rfl, rfl, rfl⟩ := hcs
    exact ⟨[], rfl, Nat.le_refl _, Nat.zero_le _, by simp, fun i hi => by omega⟩
  · simp [Value.cells] at hcs
    obtain ⟨rfl, rfl, rfl⟩ := hcs
    simp at hmm
    subst hmm
    have hex : ∀ i, i < n → ∃ p : PrP, W.cell? (a.add (i * 2 + 0)) = some (.int .i64 p.1) ∧ W.cell? (a.add (i * 2 + 1)) = some (.string p.2) ∧ p.2.size ≤ maxLen := fun i hi => by
      obtain ⟨v0, y0, n0, c0, t0⟩ := hcell i (by omega) 0 _ rfl
      obtain ⟨v1, y1, n1, c1, t1⟩ := hcell i (by omega) 1 _ rfl
      obtain ⟨x, hx, _, _⟩ := DataW.trod_int Try.underlying3 t0
      obtain ⟨z, hz, _, hs⟩ := DataW.trod_string Try.underlying9 t1
      cases hx; cases hz
      exact ⟨(x, z), c0, c1, hs⟩
    obtain ⟨f, hf⟩ : ∃ f : Nat → PrP, ∀ i, i < n → W.cell? (a.add (i * 2 + 0)) = some (.int .i64 (f i).1) ∧ W.cell? (a.add (i * 2 + 1)) = some (.string (f i).2) ∧ (f i).2.size ≤ maxLen :=
      ⟨fun i => if h : i < n then Classical.choose (hex i h) else prNo, fun i hi => by simp only [dif_pos hi]; exact Classical.choose_spec (hex i hi)⟩
    refine ⟨(List.range n).map f, by simp, hl, hm, ?_, fun i hi => ?_⟩
    · intro p hp
      obtain ⟨i, hi, rfl⟩ := List.mem_map.1 hp
      exact (hf i (List.mem_range.1 hi)).2.2
    · have hg : ((List.range n).map f)[i]?.getD prNo = f i := by rw [List.getElem?_map, List.getElem?_range hi]; rfl
      rw [hg]
      obtain ⟨c0, c1, _⟩ := hf i hi
      obtain ⟨b, off, spot⟩ := a
      have hspot : spot = none := by
        have := World.cell?_spot (hf 0 (by omega)).1
        simpa [Addr.add] using this
      subst hspot
      exact ⟨b, off, rfl, by rw [add_flat b off none _ _ rfl] at c0; exact c0, by rw [add_flat b off none _ _ rfl] at c1; exact c1⟩
set_option maxHeartbeats 1000000 in
theorem walk_FnExactUnpairText (pa : Option Addr) (n cap : Nat) (w : World) (hx : PrsAt w pa n cap) :
    Calls Try.prog 10 #[.slice pa n cap] w fun e w' => e = .returned (.bool true) ∧ Below w.heap.size w w' := by
  obtain ⟨ps, hx⟩ := hx
  have HX := Lib.hid hx; clear hx
  go_enter Try.func10, Try.ntmps10
  go_wp2_with fail
  refine (l_szPairS pa n cap ps _ HX.out).mono ?_; rintro e w1 ⟨r, rfl, HR, hr0, hr1, hb1⟩
  by_cases hneg : r < 0
  · go_wp2
    go_ret
    exact ⟨rfl, hb1⟩
  · have hsz := HR.out (by omega)
    have hn : n ≤ 1048576 := by rw [← HX.out.1]; exact hsz.1
    have HS : Hid (∀ p ∈ ps, p.2.size ≤ 1048576) := Lib.hid (fun p hp => by
      obtain ⟨i, hi, e⟩ := List.getElem_of_mem hp
      have := hsz.2 i hi
      rw [List.getElem?_eq_getElem hi] at this
      rw [← e]; exact this)
    clear hsz
    have HX1 := Lib.hid (HX.out.kept hb1)
    obtain ⟨o, ho⟩ : ∃ o, o = upA ps := ⟨_, rfl⟩
    have HO := Lib.hid ho; clear ho
    go_wp2_with fail
    refine (l_toPairS pa n cap ps _ HX1.out hn).mono ?_; rintro e w2 ⟨p2, m2, c2, rfl, HN2, hm2, hr2, hb2⟩
    obtain rfl : m2 = n := HN2.out.symm.trans HX.out.1
    have HX2 := Lib.hid (HX1.out.kept hb2)
    have hB2 := below_then hb1 hb2
    clear hb1 hb2
    go_wp2_with fail
    refine (s_UnpairText p2 m2 c2 ps _ _ _ HN2.out hm2 HS.out hr2).mono ?_; rintro e w3 ⟨rfl, hb3⟩
    rw [← HO.out]
    have HX3 := Lib.hid (HX2.out.kept hb3)
    have hB3 := below_then hB2 hb3
    clear hB2 hb3 hr2
    go_wp2_with fail
    refine (l_toPairS pa m2 cap ps _ HX3.out hn).mono ?_; rintro e w4 ⟨p4, m4, c4, rfl, HN4, hm4, hr4, hb4⟩
    obtain rfl : m4 = m2 := HN4.out.symm.trans HX.out.1
    have HX4 := Lib.hid (HX3.out.kept hb4)
    have hB4 := below_then hB3 hb4
    clear hB3 hb4
    go_wp2_with fail
    refine (i_UnpairText p4 m4 c4 ps _ _ _ HN4.out hm4 HS.out hr4).mono ?_; rintro e w5 ⟨rfl, hb5⟩
    rw [← HO.out]
    have HX5 := Lib.hid (HX4.out.kept hb5)
    have hr5 := hr4.kept hb5
    have hB5 := below_then hB4 hb5
    clear hB4 hb5 hr4
    obtain ⟨u, hu⟩ : ∃ u, u = ofL (o.getD []) := ⟨_, rfl⟩
    obtain ⟨y, hy⟩ : ∃ y, y = o.isSome := ⟨_, rfl⟩
    rw [← hu, ← hy]
    clear hu hy
    go_wp2_with fail
    refine (l_toPairS pa m4 cap ps _ HX5.out hn).mono ?_; rintro e w6 ⟨p6, m6, c6, rfl, HN6, hm6, hr6, hb6⟩
    obtain rfl : m6 = m4 := HN6.out.symm.trans HX.out.1
    have hr56 := hr5.kept hb6
    have hB6 := below_then hB5 hb6
    clear hB5 hb6 hr5
    go_wp2_with fail
    refine (l_eqPairS p4 p6 m6 c4 c6 ps _ _ _ _ _ hn hr56 hr6).mono ?_; rintro e w7 ⟨rfl, hb7⟩
    go_wp2
    go_ret
    exact ⟨rfl, below_then hB6 hb7⟩
end Go.Proofs.Ytkgdifngijeenaa
