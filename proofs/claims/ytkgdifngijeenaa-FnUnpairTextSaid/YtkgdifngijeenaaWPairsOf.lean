/- Walk of the law FnPairsOf over drawn texts: pairs are read back, and no two of them are the same but the last one. -/
import Derived.Test.YtkgdifngijeenaaUq
import Derived.Test.YtkgdifngijeenaaDr
import Derived.BigQuiet
namespace Go.Proofs.Ytkgdifngijeenaa
open Go.RowKit
set_option linter.unusedVariables false

theorem upA_pairs {s : ByteArray} (hv : vt s.data.toList = true) : upA ((pairsL s.data.toList).map prB) = some s.data.toList := by
  have h := unpair_pairs hv
  unfold upA
  rw [show upL ((pairsL s.data.toList).map prB) = intP (pairsL s.data.toList) from ?_]
  · exact h
  · unfold upL intP
    rw [List.map_map]
    exact List.map_congr_left fun p _ => by simp [prB, ofL_data]
theorem prB_at {ps : List (Nat × List UInt8)} {k : Nat} (h : k < ps.length) : (ps.map prB)[k]?.getD prNo = prB (ps[k]) := by
  rw [List.getElem?_map, List.getElem?_eq_getElem h]; rfl
theorem prB_inj {p q : Nat × List UInt8} (h : prB p = prB q) : p = q := by
  unfold prB at h
  have h1 : (p.1 : Int) = q.1 := congrArg Prod.fst h
  have h2 := congrArg (fun x : PrP => x.2.data.toList) h
  simp only [ofL_data] at h2
  exact Prod.ext (by omega) h2
theorem pr_bound {ps : List PrP} (h : ∀ p ∈ ps, p.2.size ≤ 1048576) : True := trivial
theorem prI_sizes {s : ByteArray} (hs : s.size ≤ 1048576) : ∀ p ∈ prI s, p.2.size ≤ 1048576 := by
  intro p hp
  cases hv : vt s.data.toList with
  | false => rw [prI_no hv] at hp; cases hp
  | true =>
    rw [prI_yes hv] at hp
    obtain ⟨q, hq, rfl⟩ := List.mem_map.1 hp
    obtain ⟨i, hi, e⟩ := List.getElem_of_mem hq
    have hok := prOk s.data.toList s.data.toList.length
    obtain ⟨_, h2, _⟩ := hok.back i q (by rw [← e]; exact List.getElem?_eq_getElem hi)
    show (ofL q.2).size ≤ _
    rw [ofL_size]; omega
theorem str_neq {a b : ByteArray} (h : a ≠ b) : (a.toList == b.toList) = false := by
  rw [beq_eq_false_iff_ne, Lib.toList_data, Lib.toList_data]
  intro e
  exact h (ByteArray.ext (by simpa using e))
set_option maxHeartbeats 1000000 in
theorem l_equalPairs (pa pb : Option Addr) (n ca cb : Nat) (ps : List PrP) (la ha lb hi2 : Nat) (w : World) (hle : n ≤ 1048576) (ra : RowF w la ha pa (n * 2) (prF ps)) (rb : RowF w lb hi2 pb (n * 2) (prF ps)) :
    Calls Try.prog 43 #[.slice pa n ca, .slice pb n cb] w fun e w' => e = .returned (.bool true) ∧ Below w.heap.size w w' := by
  go_enter Try.func43, Try.ntmps43
  go_wp2
  go_loopw [5] (fun i wr => ∃ k : Nat, k ≤ n ∧ i = .int .i64 k ∧ Below w.heap.size w wr) (fun i _ => n - (intOf i).toNat)
  case atStart => exact ⟨0, Nat.zero_le _, rfl, Below.refl _ _⟩
  case round =>
    obtain ⟨k, hk, rfl, hb⟩ := hrel
    by_cases hlt : k < n
    · obtain ⟨ga, rfl, _, _, a1, a2⟩ := pr_cells (ra.kept hb) hlt
      obtain ⟨gb, rfl, _, _, b1, b2⟩ := pr_cells (rb.kept hb) hlt
      obtain ⟨x, hx⟩ : ∃ x, x = (ps[k]?.getD prNo).1 := ⟨_, rfl⟩
      obtain ⟨z, hz⟩ : ∃ z, z = (ps[k]?.getD prNo).2 := ⟨_, rfl⟩
      rw [← hx] at a1 b1; rw [← hz] at a2 b2
      clear hx hz
      have e1 : (k : Int) < n := by omega
      go_wp2
      go_quiet (fail)
      go_wp2
      go_roundw
      case rel => exact ⟨k + 1, by omega, by go_num, below_drewN hb _⟩
      case measure => simp [intOf]; omega
    · go_wp2
      go_ret
      exact ⟨rfl, hb⟩
set_option maxHeartbeats 4000000 in
theorem walk_FnPairsOf (pa : Option Addr) (n cap : Nat) (w : World) (hx : CodeAt w pa n cap) :
    Calls Try.prog 12 #[.slice pa n cap] w fun e w' => e = .returned (.bool true) ∧ Below w.heap.size w w' := by
  have hcap := hx.2.1; have hnc := hx.1
  unfold maxLen at hcap
  have HC := Lib.hid hx; clear hx
  by_cases hn : n ≤ 1048576
  · go_enter Try.func12, Try.ntmps12
    go_wp2_with fail
    refine (d_DrawPairsOf _ _ _ _ HC.out).mono ?_; rintro e w1 ⟨s, rfl, hs, hb1⟩
    have hsm : s.size ≤ maxLen := by unfold maxLen; omega
    go_wp2_with fail
    refine (i_PairsOf s _ hsm).mono ?_; rintro e w2 ⟨p1, m, c1, rfl, HN, hm, hr1, hb2⟩
    have hB2 := below_then hb1 hb2
    clear hb1 hb2
    go_wp2_with fail
    refine (s_PairsOf s _ hsm).mono ?_; rintro e w3 ⟨p2, m2, c2, rfl, HN2, hm2, hr2, hb3⟩
    obtain rfl : m = m2 := HN.out.symm.trans HN2.out
    have hr13 := hr1.kept hb3
    have hB3 := below_then hB2 hb3
    clear hr1 hb3 hB2
    go_wp2_with fail
    refine (l_equalPairs p1 p2 m c1 c2 (prI s) _ _ _ _ _ hm hr13 hr2).mono ?_; rintro e w4 ⟨rfl, hb4⟩
    have hr14 := hr13.kept hb4
    have hB4 := below_then hB3 hb4
    clear hr13 hb4 hB3 hr2
    go_wp2_with fail
    refine (i_ValidText s _ hsm).mono ?_; rintro e w5 ⟨rfl, hb5⟩
    have hr15 := hr14.kept hb5
    have hB5 := below_then hB4 hb5
    clear hr14 hb5 hB4
    cases hv : vt s.data.toList with
    | false =>
      go_wp2_with fail
      refine (s_PairsOf s _ hsm).mono ?_; rintro e w6 ⟨p3, m3, c3, rfl, HN3, hm3, hr3, hb6⟩
      obtain rfl : m = m3 := HN.out.symm.trans HN3.out
      have hr16 := hr15.kept hb6
      have hB6 := below_then hB5 hb6
      go_wp2_with fail
      refine (l_equalPairs p1 p3 m c1 c3 (prI s) _ _ _ _ _ hm hr16 hr3).mono ?_; rintro e w7 ⟨rfl, hb7⟩
      go_wp2
      go_ret
      exact ⟨rfl, below_then hB6 hb7⟩
    | true =>
      have hU := upA_pairs hv
      have hps : prI s = (pairsL s.data.toList).map prB := prI_yes hv
      have HS := Lib.hid (prI_sizes (s := s) (by omega))
      have HPS := Lib.hid hps
      rw [← hps] at hU
      have HU := Lib.hid hU
      clear hU hps
      go_wp2_with fail
      refine (i_UnpairText p1 m c1 (prI s) _ _ _ HN.out hm HS.out hr15).mono ?_; rintro e w6 ⟨rfl, hb6⟩
      rw [HU.out]
      have hr16 := hr15.kept hb6
      have hB6 := below_then hB5 hb6
      clear hr15 hb6 hB5
      have hof : ofL s.data.toList = s := (ofL_of rfl).symm
      simp only [Option.getD_some, Option.isSome_some, hof]
      clear hof
      go_wp2
      go_loopw [7, 8] (fun i _ wr => ∃ a : Nat, a ≤ m ∧ i = .int .i64 a ∧ Still w6 wr) (fun i _ _ => m - (intOf i).toNat)
      case atStart => exact ⟨0, Nat.zero_le _, rfl, Still.refl _⟩
      case round =>
        obtain ⟨a, ha, rfl, hst⟩ := hrel
        by_cases hlt : a + 1 < m
        · have e1 : (a : Int) + 1 < m := by omega
          obtain ⟨wo, rfl⟩ : ∃ wo : World, wo = wr := ⟨_, rfl⟩
          go_wp2
          go_loopw [8] (fun c wr => ∃ b : Nat, b ≤ a ∧ c = .int .i64 b ∧ Still w6 wr) (fun c _ => a - (intOf c).toNat)
          case atStart => exact ⟨0, Nat.zero_le _, rfl, hst⟩
          case round =>
            obtain ⟨b, hb, rfl, hst2⟩ := hrel
            by_cases hlb : b < a
            · obtain ⟨g, rfl, _, _, a1, a2⟩ := pr_cells (hr16.kept hst2.1) (k := a) (by omega)
              obtain ⟨_, e0, _, _, b1, b2⟩ := pr_cells (hr16.kept hst2.1) (k := b) (by omega)
              cases e0
              have hne : (prI s)[a]?.getD prNo ≠ (prI s)[b]?.getD prNo := by
                have hl := HN.out
                rw [HPS.out] at hl ⊢
                rw [List.length_map] at hl
                rw [prB_at (by omega), prB_at (by omega)]
                intro e
                refine pairs_diff s.data.toList hlb (by omega) ?_
                rw [List.getElem?_eq_getElem (by omega), List.getElem?_eq_getElem (by omega), prB_inj e]
              obtain ⟨p, hp⟩ : ∃ p, p = (prI s)[a]?.getD prNo := ⟨_, rfl⟩
              obtain ⟨q, hq⟩ : ∃ q, q = (prI s)[b]?.getD prNo := ⟨_, rfl⟩
              rw [← hp] at a1 a2 hne; rw [← hq] at b1 b2 hne
              clear hp hq
              obtain ⟨x, z⟩ := p
              obtain ⟨y, v⟩ := q
              dsimp only at a1 a2 b1 b2
              have e2 : (b : Int) < a := by omega
              by_cases hxy : x = y
              · subst hxy
                have hzv : (z.toList == v.toList) = false := str_neq (fun e => hne (by rw [e]))
                clear hne
                go_wp2
                go_quiet (fail)
                go_wp2
                go_roundw
                case rel => exact ⟨b + 1, by omega, by go_num, hst2.drewN _⟩
                case measure => simp [intOf]; omega
              · have hxb : (x == y) = false := by rw [beq_eq_false_iff_ne]; exact hxy
                clear hne
                go_wp2
                go_quiet (fail)
                go_wp2
                go_roundw
                case rel => exact ⟨b + 1, by omega, by go_num, hst2.drewN _⟩
                case measure => simp [intOf]; omega
            · obtain rfl : b = a := by omega
              go_wp2
              go_roundw
              case rel => exact ⟨b + 1, by omega, by go_num, hst2⟩
              case measure => simp [intOf]; omega
        · go_wp2
          go_ret
          exact ⟨rfl, hB6.trans (hst.below _)⟩
  · go_enter Try.func12, Try.ntmps12
    go_wp2_with fail
    all_goals first | (go_ret; exact ⟨rfl, Below.refl _ _⟩) | (exfalso; apply hn; omega)
end Go.Proofs.Ytkgdifngijeenaa
