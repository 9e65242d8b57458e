/- The walk of the program's table of shortest mixtures. -/
import Derived.Test.YtokpcdclaifkpaaM
namespace Go.Proofs.Ytokpcdclaifkpaa
open Go.RowKit
set_option linter.unusedVariables false

def scsT (a b : List UInt8) (i j : Nat) : Int := (scs (a.drop i) (b.drop j) : Nat)
def stageS (a b : List UInt8) (i k : Int) (i' j' : Nat) : Int := if i < i' ∨ (i = i' ∧ k < j') then scsT a b i' j' else 0
/-- The table while it is filled: its rows from i0 on are gs. -/
def TabP (W : World) (lo gT n i0 : Nat) (gs : List Nat) (m : Nat) (T : Nat → Nat → Int) : Prop :=
  lo ≤ gT ∧ gs.Nodup ∧ i0 + gs.length = n ∧ (∀ i, i < n → (∃ v, W.cell? ⟨gT, i, none⟩ = some v) ∧ W.frozen? ⟨gT, i, none⟩ = false) ∧
  ∀ i g, gs[i]? = some g → (lo ≤ g ∧ g ≠ gT ∧ W.cell? ⟨gT, i0 + i, none⟩ = some (.slice (some ⟨g, 0, none⟩) m m)) ∧ ∀ j, j < m → W.cell? ⟨g, j, none⟩ = some (.int .i64 (T (i0 + i) j)) ∧ W.frozen? ⟨g, j, none⟩ = false
theorem TabP.congr {W : World} {lo gT n i0 : Nat} {gs : List Nat} {m : Nat} {T T' : Nat → Nat → Int} (h : TabP W lo gT n i0 gs m T) (he : ∀ i j, j < m → T i j = T' i j) : TabP W lo gT n i0 gs m T' :=
  ⟨h.1, h.2.1, h.2.2.1, h.2.2.2.1, fun i g hg => ⟨(h.2.2.2.2 i g hg).1, fun j hj => by rw [← he _ j hj]; exact (h.2.2.2.2 i g hg).2 j hj⟩⟩
theorem TabP.toTab {W : World} {lo gT n : Nat} {gs : List Nat} {m : Nat} {T : Nat → Nat → Int} (h : TabP W lo gT n 0 gs m T) : gs.length = n ∧ Tab W lo gT gs m T :=
  ⟨by have := h.2.2.1; omega, h.1, h.2.1, fun i g hg => by have := h.2.2.2.2 i g hg; rw [Nat.zero_add] at this; exact this⟩
theorem TabP.kept {W W' : World} {lo gT n i0 : Nat} {gs : List Nat} {m : Nat} {T : Nat → Nat → Int} (h : TabP W lo gT n i0 gs m T) (hb : Below W.heap.size W W') : TabP W' lo gT n i0 gs m T :=
  ⟨h.1, h.2.1, h.2.2.1, fun i hi => by
    obtain ⟨⟨v, h1⟩, h2⟩ := h.2.2.2.1 i hi
    exact ⟨⟨v, (hb.cell (p := ⟨gT, i, none⟩) (cell_lt h1)).trans h1⟩, (hb.frozen (p := ⟨gT, i, none⟩) (cell_lt h1)).trans h2⟩,
   fun i g hg => ⟨⟨(h.2.2.2.2 i g hg).1.1, (h.2.2.2.2 i g hg).1.2.1, (hb.cell (p := ⟨gT, i0 + i, none⟩) (cell_lt (h.2.2.2.2 i g hg).1.2.2)).trans (h.2.2.2.2 i g hg).1.2.2⟩,
    fun j hj => ⟨(hb.cell (p := ⟨g, j, none⟩) (cell_lt ((h.2.2.2.2 i g hg).2 j hj).1)).trans ((h.2.2.2.2 i g hg).2 j hj).1, (hb.frozen (p := ⟨g, j, none⟩) (cell_lt ((h.2.2.2.2 i g hg).2 j hj).1)).trans ((h.2.2.2.2 i g hg).2 j hj).2⟩⟩⟩
theorem TabP.store {W : World} {lo gT n i0 : Nat} {gs : List Nat} {m : Nat} {T : Nat → Nat → Int} (h : TabP W lo gT n i0 gs m T) {i j g : Nat} (hg : gs[i]? = some g) (hj : j < m) (v : Int) :
    TabP (W.setCell ⟨g, j, none⟩ (.int .i64 v)) lo gT n i0 gs m (upd T (i0 + i) j v) := by
  have hgT := (h.2.2.2.2 i g hg).1.2.1
  have other : ∀ k, (W.setCell ⟨g, j, none⟩ (.int .i64 v)).cell? ⟨gT, k, none⟩ = W.cell? ⟨gT, k, none⟩ := fun k =>
    World.cell?_setCell_other _ _ _ _ (by simp only [ne_eq, Addr.mk.injEq, not_and]; intro e; exact absurd e hgT)
  refine ⟨h.1, h.2.1, h.2.2.1, fun k hk => ?_, fun i' g' hg' => ⟨⟨(h.2.2.2.2 i' g' hg').1.1, (h.2.2.2.2 i' g' hg').1.2.1, ?_⟩, fun j' hj' => ⟨?_, ?_⟩⟩⟩
  · obtain ⟨⟨u, h1⟩, h2⟩ := h.2.2.2.1 k hk
    exact ⟨⟨u, (other k).trans h1⟩, by rw [World.frozen?_setCell]; exact h2⟩
  · rw [other]; exact (h.2.2.2.2 i' g' hg').1.2.2
  · by_cases e : i' = i ∧ j' = j
    · obtain ⟨rfl, rfl⟩ := e
      rw [hg] at hg'; cases hg'
      rw [World.cell?_setCell_same _ _ _ ((h.2.2.2.2 i' g hg).2 j' hj).1]
      simp [upd]
    · rw [World.cell?_setCell_other _ _ _ _ ?_]
      · rw [upd, if_neg (by omega)]; exact ((h.2.2.2.2 i' g' hg').2 j' hj').1
      · intro e2
        have e3 : g = g' := congrArg Addr.block e2
        have e4 : j = j' := congrArg Addr.off e2
        subst e3
        exact e ⟨nodup_get h.2.1 hg' hg, e4.symm⟩
  · rw [World.frozen?_setCell]; exact ((h.2.2.2.2 i' g' hg').2 j' hj').2
/-- A new row of zeros is laid and stored ahead of the others. -/
theorem TabP.newRow {W W1 : World} {lo gT n i0 : Nat} {gs : List Nat} {m : Nat} {T : Nat → Nat → Int} (h : TabP W lo gT n (i0 + 1) gs m T) (hb : Below W.heap.size W W1) (hlo : lo ≤ W.heap.size) (hz : Zrow W1 W.heap.size m) (hn : i0 < n) (hm : 0 < m)
    (hT : ∀ j, j < m → T i0 j = 0) : TabP (W1.setCell ⟨gT, i0, none⟩ (.slice (some ⟨W.heap.size, 0, none⟩) m m)) lo gT n i0 (W.heap.size :: gs) m T := by
  have h1 := h.kept hb
  have hgTlt : gT < W.heap.size := by obtain ⟨⟨v, hv⟩, _⟩ := h.2.2.2.1 i0 hn; exact cell_lt hv
  have hglt : ∀ (i g : Nat), gs[i]? = some g → g < W.heap.size := fun i g hg => cell_lt ((h.2.2.2.2 i g hg).2 0 hm).1
  have other : ∀ p : Addr, p ≠ ⟨gT, i0, none⟩ → (W1.setCell ⟨gT, i0, none⟩ (.slice (some ⟨W.heap.size, 0, none⟩) m m)).cell? p = W1.cell? p := fun p hp =>
    World.cell?_setCell_other _ _ _ _ (Ne.symm hp)
  have same : (W1.setCell ⟨gT, i0, none⟩ (.slice (some ⟨W.heap.size, 0, none⟩) m m)).cell? ⟨gT, i0, none⟩ = some (.slice (some ⟨W.heap.size, 0, none⟩) m m) := by
    obtain ⟨⟨v, hv⟩, _⟩ := h1.2.2.2.1 i0 hn; exact World.cell?_setCell_same _ _ _ hv
  refine ⟨h.1, ?_, ?_, fun k hk => ?_, fun i g hg => ?_⟩
  · rw [List.nodup_cons]
    refine ⟨fun hm => ?_, h.2.1⟩
    obtain ⟨i, hi⟩ := List.getElem?_of_mem hm
    have := hglt i _ hi; omega
  · have := h.2.2.1; simp only [List.length_cons]; omega
  · obtain ⟨⟨v, hv⟩, hf⟩ := h1.2.2.2.1 k hk
    refine ⟨?_, by rw [World.frozen?_setCell]; exact hf⟩
    by_cases e : k = i0
    · subst e; exact ⟨_, same⟩
    · exact ⟨v, (other _ (by simp only [ne_eq, Addr.mk.injEq, not_and]; intro _ e2; exact absurd e2 e)).trans hv⟩
  · cases i with
    | zero =>
      simp only [List.getElem?_cons_zero, Option.some.injEq] at hg
      subst hg
      refine ⟨⟨hlo, by omega, same⟩, fun j hj => ⟨?_, ?_⟩⟩
      · rw [other _ (by simp only [ne_eq, Addr.mk.injEq, not_and]; intro e; omega), (hz.cell hj).1, Nat.add_zero, hT j hj]
      · rw [World.frozen?_setCell]; exact (hz.cell hj).2
    | succ i =>
      rw [List.getElem?_cons_succ] at hg
      obtain ⟨⟨a1, a2, a3⟩, a4⟩ := h1.2.2.2.2 i g hg
      rw [show i0 + 1 + i = i0 + (i + 1) by omega] at a3 a4
      refine ⟨⟨a1, a2, ?_⟩, fun j hj => ⟨?_, ?_⟩⟩
      · rw [other _ (by simp only [ne_eq, Addr.mk.injEq, not_and]; intro _ e; omega)]; exact a3
      · rw [other _ (by simp only [ne_eq, Addr.mk.injEq, not_and]; intro e; exact absurd e a2)]; exact (a4 j hj).1
      · rw [World.frozen?_setCell]; exact (a4 j hj).2
theorem TabP.made {W : World} {base g n m : Nat} {T : Nat → Nat → Int} (h : W.ownsRow base 27 1 (.slice (some ⟨g, 0, none⟩) n n) n (madeCells #[.slice none 0 0] (n * 1)).toList) (h0 : 0 < n) : TabP W base g n n [] m T := by
  refine ⟨(h.lt g rfl).1, List.nodup_nil, rfl, fun i hi => ?_, fun i g' hg => by simp at hg⟩
  rcases h.2 with ⟨e, _⟩ | ⟨g', cap, cur, e, _, hh, _, _, hs, ht⟩
  · cases e
  · cases e
    have e1 : (cur.toList.take (n * 1))[i]? = cur[i]? := by rw [List.getElem?_take_of_lt (by omega)]; simp
    rw [ht, toList_madeCells_one, List.getElem?_replicate, if_pos (by omega)] at e1
    exact ⟨⟨.slice none 0 0, by simp [World.cell?, hh, ← e1]⟩, by simp [World.frozen?, hh]⟩
theorem wpList_make_rows {ops : Array Oper} {rest : List Oper} {o : Oper} {a : Act} {Q : Exit → Act → World → Prop} (w : World) (hg : o.guard = none) (l c : Operand)
    (hop : o.op = Op.makeSlice 47 l c) (n : Nat) (L C : Int) (hl : a.eval l = .int .i64 L) (hc : a.eval c = .int .i64 C) (hL : L = (n : Int)) (hC : C = (n : Int)) (hn : n ≤ 1048576) (h0 : 0 < n)
    (hK : ∀ w', (∀ m T, TabP w' w.heap.size w.heap.size n n [] m T) → Below w.heap.size w w' → wpList Try.prog ops Q rest (a.put o.dst (.slice (some ⟨w.heap.size, 0, none⟩) n n)) w') :
    wpList Try.prog ops Q (o :: rest) a w := by
  obtain ⟨i0, hi, hz0, hz1, hz2⟩ := info_parts info_row
  refine wpList_make_full w hg l c 47 hop w.heap.size 27 i0 (.slice none 0 0) 1 Try.underlying47 hi hz0 hz1 .i64 .i64 L C n hl hc hL hC (by rw [hz2]; omega) (by unfold maxLen; omega) (Nat.le_refl _) ?_
  intro w' h1 h2
  exact hK w' (fun m T => TabP.made h1 h0) ((Below.refl _ _).grown h2 (Nat.le_refl _) (fun k e => by cases e))
theorem scsT_row {a b : ByteArray} {i j : Nat} (h : a.size ≤ i) : scsT a.data.toList b.data.toList i j = (b.size - j : Nat) := by
  unfold scsT; rw [List.drop_of_length_le (by rw [list_len]; exact h), scs_nil, List.length_drop, list_len]
theorem scsT_col {a b : ByteArray} {i j : Nat} (h : b.size ≤ j) : scsT a.data.toList b.data.toList i j = (a.size - i : Nat) := by
  unfold scsT; rw [List.drop_of_length_le (l := b.data.toList) (by rw [list_len]; exact h), scs_nil', List.length_drop, list_len]
theorem scsT_eq {a b : ByteArray} {i j : Nat} (hi : i < a.size) (hj : j < b.size) (h : a[i] = b[j]) : scsT a.data.toList b.data.toList i j = 1 + scsT a.data.toList b.data.toList (i + 1) (j + 1) := by
  unfold scsT; rw [drop_cons a i hi, drop_cons b j hj, scs_cons, if_pos h]; omega
theorem scsT_ne {a b : ByteArray} {i j : Nat} (hi : i < a.size) (hj : j < b.size) (h : a[i] ≠ b[j]) : scsT a.data.toList b.data.toList i j = 1 + min (scsT a.data.toList b.data.toList (i + 1) j) (scsT a.data.toList b.data.toList i (j + 1)) := by
  unfold scsT; rw [drop_cons a i hi, drop_cons b j hj, scs_cons, if_neg h, ← drop_cons a i hi, ← drop_cons b j hj]; omega
theorem scsT_le (a b : List UInt8) (i j : Nat) : 0 ≤ scsT a b i j ∧ scsT a b i j ≤ a.length + b.length := by
  have := scs_lcs _ (a.drop i) (b.drop j) (Nat.le_refl _)
  rw [List.length_drop, List.length_drop] at this
  unfold scsT; omega
theorem stageS_step {a b : List UInt8} {i j : Nat} {v : Int} (hv : v = scsT a b i j) (i' j' : Nat) : upd (stageS a b i j) i j v i' j' = stageS a b i ((j : Int) - 1) i' j' := by
  unfold upd stageS
  by_cases e : i' = i ∧ j' = j
  · obtain ⟨rfl, rfl⟩ := e
    rw [if_pos ⟨rfl, rfl⟩, if_pos (.inr ⟨rfl, by omega⟩), hv]
  · rw [if_neg e]
    by_cases h : (i : Int) < i' ∨ ((i : Int) = i' ∧ (j : Int) < j')
    · rw [if_pos h, if_pos (by omega)]
    · rw [if_neg h, if_neg (by omega)]
theorem stageS_row {a b : List UInt8} {i : Nat} {m : Nat} (i' j' : Nat) (hj : j' < m + 1) : stageS a b i (-1) i' j' = stageS a b ((i : Int) - 1) m i' j' := by
  unfold stageS
  by_cases h : (i : Int) < i' ∨ ((i : Int) = i' ∧ (-1 : Int) < j')
  · rw [if_pos h, if_pos (by omega)]
  · rw [if_neg h, if_neg (by omega)]
theorem stageS_done (a b : List UInt8) (k : Int) (i' j' : Nat) : stageS a b (-1) k i' j' = scsT a b i' j' := by
  unfold stageS; rw [if_pos (by omega)]
theorem stageS_in {a b : List UInt8} {i j : Int} {i' j' : Nat} (h : i < i' ∨ (i = i' ∧ j < j')) : stageS a b i j i' j' = scsT a b i' j' := by
  unfold stageS; rw [if_pos h]
theorem stageS_zero {a b : List UInt8} {i j : Int} {i' j' : Nat} (h : ¬ (i < i' ∨ (i = i' ∧ j < j'))) : stageS a b i j i' j' = 0 := by
  unfold stageS; rw [if_neg h]

set_option maxRecDepth 100000 in
set_option maxHeartbeats 4000000 in
theorem i_mixes (a b : ByteArray) (w : World) (ha : a.size ≤ 40) (hb : b.size ≤ 40) :
    Calls Try.prog 65 #[.string a, .string b] w (RetTab (scsT a.data.toList b.data.toList) (a.size + 1) (b.size + 1) w) := by
  obtain ⟨n, hn⟩ : ∃ n, n = a.size + 1 := ⟨_, rfl⟩
  have hn1 : a.size < n := by omega
  have hn2 : n ≤ a.size + 1 := by omega
  have HN := Lib.hid hn; clear hn
  go_enter Try.func65, Try.ntmps65
  go_wp2_with (at_make; refine wpList_make_rows _ rfl _ _ rfl n _ _ rfl rfl (by omega) (by omega) (by omega) (by omega) ?_; intro w1 htabs hb1)
  have htab0 := htabs (b.size + 1) (stageS a.data.toList b.data.toList a.size b.size); clear htabs
  have hgt : w.heap.size < w1.heap.size := by obtain ⟨⟨v, hv⟩, _⟩ := htab0.2.2.2.1 0 (by omega); exact cell_lt hv
  go_loopw [6, 7] (fun i _ wr => ∃ (ii : Int) (gs : List Nat), -1 ≤ ii ∧ ii ≤ a.size ∧ i = .int .i64 ii ∧ TabP wr w.heap.size w.heap.size n (ii + 1).toNat gs (b.size + 1) (stageS a.data.toList b.data.toList ii b.size) ∧ Below w.heap.size w wr) (fun i _ _ => ((intOf i) + 1).toNat)
  case atStart => exact ⟨a.size, [], by omega, by omega, rfl, by rw [show ((a.size : Int) + 1).toNat = n by omega]; exact htab0, hb1⟩
  case round =>
    obtain ⟨ii, gs, hii0, hii1, rfl, htab, hbw⟩ := hrel
    clear htab0
    by_cases h0 : 0 ≤ ii
    · obtain ⟨i, rfl⟩ := Int.eq_ofNat_of_zero_le h0
      have hin : i < n := by omega
      have e12 : (i : Int) < n := by omega
      rw [show ((i : Int) + 1).toNat = i + 1 by omega] at htab
      go_wp2_with (at_make; refine wpList_make_ints _ rfl _ _ rfl (b.size + 1) _ _ rfl rfl (by omega) (by omega) (by omega) ?_; intro w2 hz2 hg2; have hb2 : Below wr.heap.size wr w2 := (Below.refl _ _).grown hg2 (Nat.le_refl _) (fun k e => by cases e); have hk2 := htab.kept hb2; obtain ⟨⟨v, hv⟩, hvf⟩ := hk2.2.2.2.1 i hin)
      have htab3 := TabP.newRow (i0 := i) htab hb2 hbw.size hz2 hin (by omega) (fun j hj => stageS_zero (by omega))
      have hbw3 : Below w.heap.size w (w2.setCell ⟨w.heap.size, i, none⟩ (.slice (some ⟨wr.heap.size, 0, none⟩) (b.size + 1) (b.size + 1))) := (hbw.trans (hb2.mono hbw.size)).setCell (p := ⟨w.heap.size, i, none⟩) (Nat.le_refl _) _
      clear htab hbw hk2 hv hvf hz2 hg2 hb2 hb1
      obtain ⟨g, hgw⟩ : ∃ g, g = wr.heap.size := ⟨_, rfl⟩
      rw [← hgw] at htab3 hbw3
      have HGW := Lib.hid hgw; clear hgw
      have HG := Lib.hid (show (g :: gs)[0]? = some g from rfl)
      go_loopw [7] (fun k wr => ∃ jj : Int, -1 ≤ jj ∧ jj ≤ (b.size : Int) ∧ k = .int .i64 jj ∧ TabP wr w.heap.size w.heap.size n i (g :: gs) (b.size + 1) (stageS a.data.toList b.data.toList i jj) ∧ Below w.heap.size w wr) (fun k _ => ((intOf k) + 1).toNat)
      case atStart => exact ⟨b.size, by omega, by omega, rfl, by rw [HGW.out] at htab3 ⊢; exact htab3, by rw [HGW.out] at hbw3; exact hbw3⟩
      case round =>
        obtain ⟨jj, hjj0, hjj1, rfl, htab4, hbw4⟩ := hrel
        clear htab3 hbw3
        by_cases hj0 : 0 ≤ jj
        · obtain ⟨j, rfl⟩ := Int.eq_ofNat_of_zero_le hj0
          have e10 : (j : Int) < b.size + 1 := by omega
          have c0 := (htab4.2.2.2.2 0 g HG.out).1.2.2
          have c2 := ((htab4.2.2.2.2 0 g HG.out).2 j (by omega)).1
          have c2f := ((htab4.2.2.2.2 0 g HG.out).2 j (by omega)).2
          simp only [Nat.add_zero] at c0 c2
          have hgl := (htab4.2.2.2.2 0 g HG.out).1.1
          by_cases hia : i < a.size
          · by_cases hjb : j < b.size
            · have n1 : ((i : Int) == a.size) = false := beq_eq_false_iff_ne.2 (by omega)
              have n2 : ((j : Int) == b.size) = false := beq_eq_false_iff_ne.2 (by omega)
              clear c0 c2 c2f
              obtain ⟨g1, hg1⟩ : ∃ g1, (g :: gs)[1]? = some g1 := ⟨_, List.getElem?_eq_getElem (by have := htab4.2.2.1; simp only [List.length_cons] at this ⊢; omega)⟩
              have HG1 := Lib.hid hg1; clear hg1
              go_wp2
              go_quiet (fail)
              go_wp2
              · have e1 : IntKind.i64.wrap ((i : Int) + 1) = i + 1 := IntWalk.i64_in _ (by omega)
                have e3 : ((i : Int) + 1).toNat = i + 1 := by omega
                have e4 : (0 : Int) ≤ (i : Int) + 1 := by omega
                have e5 : IntKind.i64.wrap ((j : Int) + 1) = j + 1 := IntWalk.i64_in _ (by omega)
                have e7 : ((j : Int) + 1).toNat = j + 1 := by omega
                have e8 : (0 : Int) ≤ (j : Int) + 1 := by omega
                have e11 : i + 1 < n := by omega
                have e13 : (i : Int) + 1 < n := by omega
                refine still_tail_abs 16 (by kernel_rfl) (by kernel_rfl) ?_
                intro w5 hst5
                have htab5 := htab4.kept (((Still.refl wr).drewN nq).trans hst5).1
                have c0 := (htab5.2.2.2.2 0 g HG.out).1.2.2
                have c1 := (htab5.2.2.2.2 1 g1 HG1.out).1.2.2
                have c2 := ((htab5.2.2.2.2 0 g HG.out).2 j (by omega)).1
                have c2f := ((htab5.2.2.2.2 0 g HG.out).2 j (by omega)).2
                have c3 := ((htab5.2.2.2.2 1 g1 HG1.out).2 (j + 1) (by omega)).1
                simp only [Nat.add_zero] at c0 c2
                rw [stageS_in (by omega)] at c3
                obtain ⟨hx0, hx1⟩ := scsT_le a.data.toList b.data.toList (i + 1) (j + 1)
                rw [list_len, list_len] at hx1
                have HE := Lib.hid (scsT_eq hia hjb (byte_eq ‹_›))
                obtain ⟨x, hx⟩ : ∃ x, x = scsT a.data.toList b.data.toList (i + 1) (j + 1) := ⟨_, rfl⟩
                rw [← hx] at c3 hx0 hx1
                have HX := Lib.hid hx; clear hx
                simp only [List.take_succ_cons, List.take_zero, List.drop_succ_cons, List.drop_zero]
                repeat still_step
                refine wpStill_nil ?_
                go_wp2
                go_roundw
                case rel => exact ⟨(j : Int) - 1, by omega, by omega, rfl, (htab5.store HG.out (by omega) _).congr fun i' j' _ => stageS_step (by rw [HE.out, HX.out]) i' j', (((below_drewN hbw4 nq).trans (hst5.below _))).setCell (p := ⟨g, j, none⟩) hgl _⟩
                case measure => simp [intOf]
              · have e1 : IntKind.i64.wrap ((i : Int) + 1) = i + 1 := IntWalk.i64_in _ (by omega)
                have e3 : ((i : Int) + 1).toNat = i + 1 := by omega
                have e4 : (0 : Int) ≤ (i : Int) + 1 := by omega
                have e5 : IntKind.i64.wrap ((j : Int) + 1) = j + 1 := IntWalk.i64_in _ (by omega)
                have e7 : ((j : Int) + 1).toNat = j + 1 := by omega
                have e8 : (0 : Int) ≤ (j : Int) + 1 := by omega
                have e11 : i + 1 < n := by omega
                have e13 : (i : Int) + 1 < n := by omega
                refine still_tail_abs 24 (by kernel_rfl) (by kernel_rfl) ?_
                intro w5 hst5
                have htab5 := htab4.kept (((Still.refl wr).drewN nq).trans hst5).1
                have c0 := (htab5.2.2.2.2 0 g HG.out).1.2.2
                have c1 := (htab5.2.2.2.2 1 g1 HG1.out).1.2.2
                have c2 := ((htab5.2.2.2.2 0 g HG.out).2 j (by omega)).1
                have c2f := ((htab5.2.2.2.2 0 g HG.out).2 j (by omega)).2
                have c3 := ((htab5.2.2.2.2 1 g1 HG1.out).2 j (by omega)).1
                have c4 := ((htab5.2.2.2.2 0 g HG.out).2 (j + 1) (by omega)).1
                simp only [Nat.add_zero] at c0 c2 c4
                rw [stageS_in (by omega)] at c3 c4
                obtain ⟨hx0, hx1⟩ := scsT_le a.data.toList b.data.toList (i + 1) j
                obtain ⟨hy0, hy1⟩ := scsT_le a.data.toList b.data.toList i (j + 1)
                rw [list_len, list_len] at hx1 hy1
                have HE := Lib.hid (scsT_ne hia hjb (byte_ne ‹_›))
                obtain ⟨x, hx⟩ : ∃ x, x = scsT a.data.toList b.data.toList (i + 1) j := ⟨_, rfl⟩
                obtain ⟨y, hy⟩ : ∃ y, y = scsT a.data.toList b.data.toList i (j + 1) := ⟨_, rfl⟩
                rw [← hx] at c3 hx0 hx1
                rw [← hy] at c4 hy0 hy1
                have HX := Lib.hid hx; have HY := Lib.hid hy; clear hx hy
                by_cases hxy : y < x
                all_goals
                  simp only [List.take_succ_cons, List.take_zero, List.drop_succ_cons, List.drop_zero]
                  repeat still_step
                  refine wpStill_nil ?_
                  go_wp2
                  go_roundw
                  case rel => exact ⟨(j : Int) - 1, by omega, by omega, rfl, (htab5.store HG.out (by omega) _).congr fun i' j' _ => stageS_step (by rw [HE.out, ← HX.out, ← HY.out]; omega) i' j', (((below_drewN hbw4 nq).trans (hst5.below _))).setCell (p := ⟨g, j, none⟩) hgl _⟩
                  case measure => simp [intOf]
            · obtain rfl : j = b.size := by omega
              have n1 : ((i : Int) == a.size) = false := beq_eq_false_iff_ne.2 (by omega)
              have n2 : ((b.size : Int) == b.size) = true := beq_self_eq_true _
              go_wp2
              go_roundw
              case rel => exact ⟨(b.size : Int) - 1, by omega, by omega, rfl, (htab4.store HG.out (by omega) _).congr fun i' j' _ => stageS_step (by rw [scsT_col (Nat.le_refl _)]; omega) i' j', hbw4.setCell (p := ⟨g, b.size, none⟩) hgl _⟩
              case measure => simp [intOf]
          · obtain rfl : i = a.size := by omega
            have n1 : ((a.size : Int) == a.size) = true := beq_self_eq_true _
            go_wp2
            go_roundw
            case rel => exact ⟨(j : Int) - 1, by omega, by omega, rfl, (htab4.store HG.out (by omega) _).congr fun i' j' _ => stageS_step (by rw [scsT_row (Nat.le_refl _)]; omega) i' j', hbw4.setCell (p := ⟨g, j, none⟩) hgl _⟩
            case measure => simp [intOf]
        · obtain rfl : jj = -1 := by omega
          go_wp2
          go_roundw
          case rel => exact ⟨(i : Int) - 1, g :: gs, by omega, by omega, rfl, by rw [show ((i : Int) - 1 + 1).toNat = i by omega]; exact htab4.congr fun i' j' hj => stageS_row i' j' hj, hbw4⟩
          case measure => simp [intOf]
    · obtain rfl : ii = -1 := by omega
      go_wp2
      go_ret
      obtain ⟨h1, h2⟩ := (htab.congr (T' := scsT a.data.toList b.data.toList) fun i' j' _ => stageS_done _ _ _ i' j').toTab
      rw [← HN.out]
      exact ⟨w.heap.size, n, gs, rfl, Lib.hid h1, h2, hbw⟩
end Go.Proofs.Ytokpcdclaifkpaa
