/- The walk of the function that draws pairs; what UnpairText yields is a valid text. -/
import Derived.Test.YtkgdifngijeenaaWPairsOf
namespace Go.Proofs.Ytkgdifngijeenaa
open Go.RowKit
set_option linter.unusedVariables false

theorem RowF.grown {W W' : World} {lo hi N : Nat} {pa : Option Addr} {f : Nat → Value} (h : RowF W lo hi pa N f) {row : Option Nat} (hg : W.grownBy W' row) (hr : ∀ k, row = some k → k < lo ∨ hi ≤ k) : RowF W' lo hi pa N f := fun i hi0 => by
  obtain ⟨g, e, h1, h2, h3, h4⟩ := h i hi0
  have hl := cell_lt h3
  have hb := hg.block g hl (fun e => by rcases hr g e.symm with h | h <;> omega)
  exact ⟨g, e, h1, h2, (World.cell?_of_block (a := ⟨g, i, none⟩) hb).trans h3, (World.frozen?_of_block (a := ⟨g, i, none⟩) hb).trans h4⟩
theorem set_at {ps : List PrP} {k j : Nat} (p : PrP) : (ps.set k p)[j]?.getD prNo = if j = k ∧ k < ps.length then p else ps[j]?.getD prNo := by
  by_cases h : j = k
  · subst h
    by_cases hl : j < ps.length
    · rw [if_pos ⟨rfl, hl⟩, List.getElem?_set_self hl]; rfl
    · rw [if_neg (fun h => hl h.2), List.getElem?_eq_none (by rw [List.length_set]; omega), List.getElem?_eq_none (by omega)]
  · rw [if_neg (fun e => h e.1), List.getElem?_set_ne (fun e => h e.symm)]
theorem prF_set {ps : List PrP} {k : Nat} (hk : k < ps.length) (j : Nat) (hj : j < 2) (p : PrP) (hp : ∀ i, i < 2 → i ≠ j → prFld i p = prFld i (ps[k]?.getD prNo)) (i : Nat) :
    updF (prF ps) (k * 2 + j) (prFld j p) i = prF (ps.set k p) i := by
  show (if i = k * 2 + j then prFld j p else prFld (i % 2) (ps[i / 2]?.getD prNo)) = prFld (i % 2) ((ps.set k p)[i / 2]?.getD prNo)
  rw [set_at]
  by_cases h : i / 2 = k
  · have hc : i / 2 = k ∧ k < ps.length := ⟨h, hk⟩
    rw [if_pos hc]
    by_cases e : i = k * 2 + j
    · rw [if_pos e, e, (div_at hj k).2]
    · rw [if_neg e, h, hp (i % 2) (by omega) (by omega)]
  · have hc : ¬ (i / 2 = k ∧ k < ps.length) := fun e => h e.1
    rw [if_neg hc, if_neg (by omega)]
theorem prF_take {ps : List PrP} {k i : Nat} (h : i < k * 2) : prF ps i = prF (ps.take k) i := by
  unfold prF stF
  rw [List.getElem?_take_of_lt (by omega)]
/-- What a draw of pairs hands back. -/
def PrDraw (W : World) (e : Ending) (W' : World) : Prop :=
  ∃ pa n ca ps, e = .returned (.slice pa n ca) ∧ Hid (List.length ps = n) ∧ n ≤ 1048576 ∧ Hid (∀ p ∈ ps, (p : PrP).2.size ≤ 1048576) ∧ RowF W' W.heap.size W'.heap.size pa (n * 2) (prF ps) ∧ Below W.heap.size W W'
theorem sizes_set {ps : List PrP} (h : ∀ p ∈ ps, p.2.size ≤ 1048576) (k : Nat) {q : PrP} (hq : q.2.size ≤ 1048576) : ∀ p ∈ ps.set k q, p.2.size ≤ 1048576 := fun p hp => by
  rcases List.mem_or_eq_of_mem_set hp with hp | rfl
  · exact h p hp
  · exact hq
theorem sizes_take {ps : List PrP} (h : ∀ p ∈ ps, p.2.size ≤ 1048576) (k : Nat) : ∀ p ∈ ps.take k, p.2.size ≤ 1048576 := fun p hp => h p (List.mem_of_mem_take hp)
theorem size_at {ps : List PrP} (h : ∀ p ∈ ps, p.2.size ≤ 1048576) (k : Nat) : (ps[k]?.getD prNo).2.size ≤ 1048576 := by
  by_cases hk : k < ps.length
  · rw [List.getElem?_eq_getElem hk]; exact h _ (List.getElem_mem hk)
  · rw [List.getElem?_eq_none (by omega)]; exact Nat.zero_le _
theorem prI_len (s : ByteArray) : (prI s).length ≤ s.size := by
  cases hv : vt s.data.toList with
  | false => rw [prI_no hv]; exact Nat.zero_le _
  | true => rw [prI_yes hv, List.length_map, ← list_len]; exact pairsL_len _
theorem up_vt {n : Nat} {ps : List (Int × List UInt8)} {i : Nat} : ∀ {rows : List (List UInt8)} {text : List UInt8}, upTo n ps i = some (rows, text) → (∀ r ∈ rows, r.all okc = true) ∧ text.all okc = true := by
  induction i with
  | zero => intro rows text h; cases h; exact ⟨by simp, rfl⟩
  | succ i ih =>
    intro rows text h
    unfold upTo at h
    cases h1 : upTo n ps i with
    | none => rw [h1] at h; cases h
    | some st =>
      obtain ⟨r, t⟩ := st
      cases h2 : ps[i]? with
      | none => rw [h1, h2] at h; cases h
      | some p =>
        rw [h1, h2] at h
        simp only at h
        split at h
        · rename_i hok
          split at h
          · cases h
            obtain ⟨a, b⟩ := ih h1
            have hl : p.2.all okc = true := by
              unfold upOk at hok
              rw [Bool.and_eq_true, Bool.or_eq_true] at hok
              rcases hok.2 with h | h
              · rw [Bool.and_eq_true] at h
                have h3 := h.2
                unfold vt at h3
                rw [Bool.and_eq_true] at h3; exact h3.1
              · rw [Bool.and_eq_true, Bool.and_eq_true, decide_eq_true_eq] at h
                rw [h.1.1]; rfl
            have hr : (rowAt r p.1.toNat).all okc = true := by
              unfold rowAt
              cases e : r[p.1.toNat]? with
              | none => rfl
              | some q => exact a q (List.mem_of_getElem? e)
            have hn : (rowAt r p.1.toNat ++ p.2).all okc = true := by rw [List.all_append, hr, hl]; rfl
            refine ⟨fun q hq => ?_, by rw [List.all_append, b, hn]; rfl⟩
            rcases List.mem_append.1 hq with hq | hq
            · exact a q hq
            · rw [List.mem_singleton.1 hq]; exact hn
          · cases h
        · cases h
theorem upA_vt {ps : List PrP} {t : List UInt8} (h : upA ps = some t) : vt t = true := by
  unfold upA unpair at h
  split at h
  · cases e : upTo (upL ps).length (upL ps) (upL ps).length with
    | none => rw [e] at h; cases h
    | some st =>
      obtain ⟨r, t'⟩ := st
      rw [e] at h
      cases h
      unfold vt
      rw [(up_vt e).2, decide_eq_true (up_inv e).2.2]; rfl
  · cases h
set_option maxHeartbeats 4000000 in
theorem d_DrawUnpairText (W : World) (pa : Option Addr) (n cap : Nat) (h : CodeAt W pa n cap) : Calls Try.prog 45 #[.slice pa n cap] W (PrDraw W) := by
  have HC := Lib.hid h; clear h
  go_enter Try.func45, Try.ntmps45
  go_wp2_with fail
  refine (d_newReader W pa n cap HC.out.1 HC.out.2.1 HC.out.2.2).mono ?_; rintro e w1 ⟨B, rfl, hrd, hb1⟩
  have hBlo := hrd.1
  have hs1 := hb1.size
  go_wp2_with fail
  refine (d_someText w1 W.heap.size B 0 30 (by omega) (by omega) (by omega) (by omega) hrd).mono ?_; rintro e w2 ⟨s, q, rfl, hs, hq0, hq1, hrd2, hg⟩
  have hb2 := below_of_grown hb1 hg hBlo
  have hs2 := hb2.size
  have hB2 := hrd2.lt
  clear hrd hb1 hg
  have hsm : s.size ≤ maxLen := by unfold maxLen; omega
  go_wp2_with fail
  refine (s_PairsOfC s _ hsm).mono ?_; rintro e w3 ⟨⟨pb, m, c, rfl, hmc, hcm⟩, pb', m', c', e', HN, hm, hr, hb3⟩
  cases e'
  unfold maxLen at hcm
  have hm40 : m ≤ 31 := by have := prI_len s; rw [HN.out] at this; omega
  have HS := Lib.hid (prI_sizes (s := s) (by omega))
  have hrd3 := hrd2.kept hb3
  have hB3 := below_then hb2 hb3
  have hs3 := hb3.size
  obtain ⟨ps, hps⟩ : ∃ ps, ps = prI s := ⟨_, rfl⟩
  rw [← hps] at HN HS hr
  clear hps hrd2 hb3 hb2 hm
  by_cases h0 : m = 0
  · subst h0
    go_wp2
    go_ret
    exact ⟨pb, 0, c, ps, rfl, HN, by omega, HS, hr.mono hs2 (Nat.le_refl _), hB3⟩
  · have e0 : (0 : Int) < m := by omega
    go_wp2_with fail
    refine (d_pick w3 W.heap.size B q 3 (by omega) (by omega) (by omega) (by omega) hrd3).mono ?_; rintro e w4 ⟨r, rfl, hr0, hr1, _, hrd4, hg4⟩
    have hr4 := hr.grown hg4 (fun k e => by cases e; exact .inl hB2)
    have hB4 := below_of_grown hB3 hg4 hBlo
    have hs4 := hg4.size
    clear hr hrd3 hB3 hg4 hr1
    by_cases hz : r = 0
    · subst hz
      go_wp2_with fail
      refine (d_pick w4 W.heap.size B (q + 1) m (by omega) (by omega) (by omega) (by omega) hrd4).mono ?_; rintro e w5 ⟨r, rfl, hr0', hr1, _, hrd5, hg5⟩
      obtain ⟨k, rfl⟩ := Int.eq_ofNat_of_zero_le hr0'
      have hk : k < m := by have := hr1 (by omega); omega
      have hr5 := hr4.grown hg5 (fun k e => by cases e; exact .inl hB2)
      have hB5 := below_of_grown hB4 hg5 hBlo
      have hs5 := hg5.size
      clear hr4 hrd4 hB4 hg5 hr1 hr0'
      go_wp2_with fail
      refine (d_pick w5 W.heap.size B (q + 1 + 1) 4 (by omega) (by omega) (by omega) (by omega) hrd5).mono ?_; rintro e w6 ⟨c4, rfl, hc0, _, _, hrd6, hg6⟩
      have hr6 := hr5.grown hg6 (fun k e => by cases e; exact .inl hB2)
      have hB6 := below_of_grown hB5 hg6 hBlo
      have hs6 := hg6.size
      have hB66 := hrd6.lt
      clear hr5 hrd5 hB5 hg6
      have e1 : (k : Int) < m := by omega
      have e2 : (k : Int) ≤ c := by omega
      by_cases hc : c4 = 0
      · subst hc
        go_wp2_with fail
        have hb7 : Below w6.heap.size w6 (w6.alloc (.cells #[.int .i64 0, .int .i64 1, .int .i64 (-1), .int .i64 50] 3)) := (Below.refl _ _).alloc (Nat.le_refl _) _
        have hrd7 := hrd6.kept hb7
        have hr7 := hr6.kept hb7
        have hB7 := below_then hB6 hb7
        have hs7 := hb7.size
        refine (d_one _ W.heap.size B (q + 1 + 1 + 1) _ 4 4 w6.heap.size (w6.heap.size + 1) [0, 1, -1, 50] (by omega) (by omega) hrd7 (Row.new w6 (ints [0, 1, -1, 50]) 3) rfl (by omega) (by omega) hB66).mono ?_; rintro e w8 ⟨x, rfl, hxm, hrd8, hg8⟩
        have hr8 := hr7.grown hg8 (fun k e => by cases e; exact .inl hB2)
        have hB8 := below_of_grown hB7 hg8 hBlo
        have hs8 := hg8.size
        obtain ⟨g, rfl, l1, l2, c0, f0⟩ := hr8 (k * 2) (by omega)
        have hkl : k < ps.length := by rw [HN.out]; exact hk
        have hr9 := ((hr8.set (j := k * 2) (by omega) (.int .i64 x)).congr fun i _ => prF_set hkl 0 (by decide) (x, (ps[k]?.getD prNo).2) (fun i h1 h2 => by rw [show i = 1 by omega]; rfl) i).mono (lo' := W.heap.size) (hi' := w8.heap.size) hs2 (by omega)
        have hsx : (x, (ps[k]?.getD prNo).2).2.size ≤ 1048576 := size_at HS.out k
        have HR9 := Lib.hid hr9; have HX := Lib.hid hsx
        clear hr6 hr7 hr8 hr9 hrd6 hrd7 hrd8 hB6 hB7 hg8 hb7 hxm hsx
        go_wp2
        go_ret
        exact ⟨_, m, c, ps.set k (x, (ps[k]?.getD prNo).2), rfl, Lib.hid (by rw [List.length_set, HN.out]), by omega, Lib.hid (sizes_set HS.out k HX.out), HR9.out.mono (Nat.le_refl _) (by rw [World.size_setCell]; exact Nat.le_refl _), hB8.setCell (p := ⟨g, k * 2, none⟩) (by show _ ≤ g; omega) _⟩
      · have hcb : (c4 == 0) = false := beq_eq_false_iff_ne.2 hc
        by_cases hd : c4 = 1
        · subst hd
          go_wp2_with fail
          have hb7 : Below w6.heap.size w6 (w6.alloc (.cells #[.string ⟨#[]⟩, .string ⟨#[97]⟩, .string ⟨#[101]⟩, .string ⟨#[97, 98]⟩] 9)) := (Below.refl _ _).alloc (Nat.le_refl _) _
          have hrd7 := hrd6.kept hb7
          have hr7 := hr6.kept hb7
          have hB7 := below_then hB6 hb7
          have hs7 := hb7.size
          refine (d_of _ W.heap.size B (q + 1 + 1 + 1) _ 4 4 w6.heap.size (w6.heap.size + 1) [⟨#[]⟩, ⟨#[97]⟩, ⟨#[101]⟩, ⟨#[97, 98]⟩] (by omega) (by omega) hrd7 (Row.new w6 (strs [⟨#[]⟩, ⟨#[97]⟩, ⟨#[101]⟩, ⟨#[97, 98]⟩]) 9) rfl (by omega) (by omega) hB66).mono ?_; rintro e w8 ⟨x, rfl, hxm, hrd8, hg8⟩
          have hr8 := hr7.grown hg8 (fun k e => by cases e; exact .inl hB2)
          have hB8 := below_of_grown hB7 hg8 hBlo
          have hs8 := hg8.size
          obtain ⟨g, rfl, l1, l2, c0, f0⟩ := hr8 (k * 2 + 1) (by omega)
          have hkl : k < ps.length := by rw [HN.out]; exact hk
          have hr9 := ((hr8.set (j := k * 2 + 1) (by omega) (.string x)).congr fun i _ => prF_set hkl 1 (by decide) ((ps[k]?.getD prNo).1, x) (fun i h1 h2 => by rw [show i = 0 by omega]; rfl) i).mono (lo' := W.heap.size) (hi' := w8.heap.size) hs2 (by omega)
          have hsx : ((ps[k]?.getD prNo).1, x).2.size ≤ 1048576 := by simp only [List.mem_cons, List.not_mem_nil, or_false] at hxm; rcases hxm with rfl | rfl | rfl | rfl <;> (simp only; decide)
          have HR9 := Lib.hid hr9; have HX := Lib.hid hsx
          clear hr6 hr7 hr8 hr9 hrd6 hrd7 hrd8 hB6 hB7 hg8 hb7 hxm hsx
          go_wp2
          go_ret
          exact ⟨_, m, c, ps.set k ((ps[k]?.getD prNo).1, x), rfl, Lib.hid (by rw [List.length_set, HN.out]), by omega, Lib.hid (sizes_set HS.out k HX.out), HR9.out.mono (Nat.le_refl _) (by rw [World.size_setCell]; exact Nat.le_refl _), hB8.setCell (p := ⟨g, k * 2 + 1, none⟩) (by show _ ≤ g; omega) _⟩
        · have hdb : (c4 == 1) = false := beq_eq_false_iff_ne.2 hd
          go_wp2
          go_ret
          exact ⟨pb, k, c, ps.take k, rfl, Lib.hid (by rw [List.length_take, HN.out]; omega), by omega, Lib.hid (sizes_take HS.out k), ((hr6.less (by omega)).congr fun i hi => prF_take hi).mono hs2 (by omega), hB6⟩
    · have hzb : (r == 0) = false := beq_eq_false_iff_ne.2 hz
      go_wp2
      go_ret
      exact ⟨pb, m, c, ps, rfl, HN, by omega, HS, hr4.mono hs2 (by omega), hB4⟩
end Go.Proofs.Ytkgdifngijeenaa
