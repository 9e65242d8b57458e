/- The walk of the law FnOverlapTable. -/
import Derived.Test.YtpabgagfkicobaaTy
import Derived.Test.YtpabgagfkicobaaTz
import Derived.Test.YtpabgagfkicobaaOpB
import Derived.Deep.RegionHeld3
namespace Go.Proofs.Ytpabgagfkicobaa
open Go.RowKit
set_option linter.unusedVariables false
theorem d_DrawOverlapTable (W : World) (pa : Option Addr) (n cap : Nat) (h : CodeAt W pa n cap) : Calls Try.prog 22 #[.slice pa n cap] W (DrawW W W.heap.size) := by
  have HC := Lib.hid h; clear h
  go_enter Try.func22, Try.ntmps22
  go_wp2_with fail
  refine (d_newReader W pa n cap HC.out.1 HC.out.2.1 HC.out.2.2).mono ?_; rintro e w1 ⟨B, rfl, hrd, hb1⟩
  go_wp2_with fail
  refine (d_someWords w1 W.heap.size B 0 (by omega) (by omega) hrd hb1.size).mono ?_; rintro e w2 ⟨pb, m, ca, xs, rfl, HN, hn, HX, hr, hb2⟩
  go_wp2
  go_ret
  exact ⟨pb, m, ca, xs, rfl, HN, hn, HX, hr, hb1.trans hb2⟩
set_option maxHeartbeats 1000000 in
theorem l_equalIntF (ga gb n ca cb la ha lb hi2 : Nat) (T : Nat → Int) (w : World) (hle : n ≤ 1048576) (ra : RowF w la ha (some ⟨ga, 0, none⟩) n (intF T)) (rb : RowF w lb hi2 (some ⟨gb, 0, none⟩) n (intF T)) :
    Calls Try.prog 46 #[.slice (some ⟨ga, 0, none⟩) n ca, .slice (some ⟨gb, 0, none⟩) n cb] w fun e w' => e = .returned (.bool true) ∧ ∃ q, w' = w.drewN q := by
  go_enter Try.func46, Try.ntmps46
  go_wp2
  go_loopw [5] (fun i wr => ∃ k q : Nat, k ≤ n ∧ i = .int .i64 k ∧ wr = w.drewN q) (fun i _ => n - (intOf i).toNat)
  case atStart => exact ⟨0, 0, Nat.zero_le _, rfl, rfl⟩
  case round =>
    obtain ⟨k, q, hk, rfl, rfl⟩ := hrel
    by_cases hlt : k < n
    · have a1 := ra.get hlt
      have b1 := rb.get hlt
      obtain ⟨a1, _⟩ := a1
      obtain ⟨b1, _⟩ := b1
      unfold intF at a1 b1
      have e1 : (k : Int) < n := by omega
      go_wp2
      go_quiet (fail)
      go_wp2
      go_roundw
      case rel => exact ⟨k + 1, q + nq, by omega, by go_num, rfl⟩
      case measure => simp [intOf]; omega
    · go_wp2
      go_ret
      exact ⟨rfl, q, rfl⟩
set_option maxHeartbeats 1000000 in
theorem l_equalLists (pa pb : Option Addr) (n m ca cb la ha lb hi2 : Nat) (T : Nat → Nat → Int) (ps qs : List (Nat × Nat)) (w : World) (hle : n ≤ 1048576) (hlm : m ≤ 1048576) (ra : TabR w la ha pa ps n m T) (rb : TabR w lb hi2 pb qs n m T) :
    Calls Try.prog 23 #[.slice pa n ca, .slice pb n cb] w fun e w' => e = .returned (.bool true) ∧ Below w.heap.size w w' := by
  go_enter Try.func23, Try.ntmps23
  go_wp2
  go_loopw [5] (fun i wr => ∃ k : Nat, k ≤ n ∧ i = .int .i64 k ∧ Below w.heap.size w wr) (fun i _ => n - (intOf i).toNat)
  case atStart => exact ⟨0, Nat.zero_le _, rfl, Below.refl _ _⟩
  case round =>
    obtain ⟨k, hk, rfl, hb⟩ := hrel
    by_cases hlt : k < n
    · have ra2 := ra.kept hb
      have rb2 := rb.kept hb
      obtain ⟨p, hp⟩ : ∃ p, ps[k]? = some p := ⟨_, List.getElem?_eq_getElem (by rw [ra.1]; exact hlt)⟩
      obtain ⟨q, hq⟩ : ∃ q, qs[k]? = some q := ⟨_, List.getElem?_eq_getElem (by rw [rb.1]; exact hlt)⟩
      obtain ⟨⟨g1, rfl, _, _, _, a4⟩, _, _, hra⟩ := ra2.2.2 k p hp
      obtain ⟨⟨g2, rfl, _, _, _, b4⟩, _, _, hrb⟩ := rb2.2.2 k q hq
      unfold rowV at a4 b4
      have HA := Lib.hid hra; have HB := Lib.hid hrb
      have e1 : (k : Int) < n := by omega
      clear ra rb ra2 rb2 hra hrb hp hq
      go_wp2
      go_quiet ((go_at_call 46; exact Calls.quiet_of (l_equalIntF p.1 q.1 m p.2 q.2 _ _ _ _ (T k) _ hlm (HA.out.kept (below_drewN (Below.refl _ _) _)) (HB.out.kept (below_drewN (Below.refl _ _) _)))))
      go_wp2
      go_roundw
      case rel => exact ⟨k + 1, by omega, by go_num, below_drewN hb _⟩
      case measure => simp [intOf]; omega
    · go_wp2
      go_ret
      exact ⟨rfl, hb⟩
theorem ov_of_ok {xs : List ByteArray} (h : wsOk xs = true) {i k : Nat} (hi : i < xs.length) (hk : k < xs.length) : overlapI (wAt xs i) (wAt xs k) = ovT xs i k := by
  have hv : ∀ j, j < xs.length → vt (wAt xs j).data.toList = true := fun j hj => by
    unfold wsOk at h
    rw [Bool.and_eq_true, List.all_eq_true] at h
    have := h.1 _ (List.getElem_mem hj)
    unfold wOk at this
    rw [Bool.and_eq_true] at this
    unfold wAt; rw [List.getElem?_eq_getElem hj]; exact this.1
  rw [overlapI_yes (hv i hi) (hv k hk)]; rfl
theorem cells4 {w w' : World} {a1 a2 a3 a4 : Addr} {v1 v2 v3 v4 : Value} (hb : Below w.heap.size w w') (hl : a1.block < w.heap.size ∧ a2.block < w.heap.size ∧ a3.block < w.heap.size ∧ a4.block < w.heap.size)
    (h : w.cell? a1 = some v1 ∧ w.cell? a2 = some v2 ∧ w.cell? a3 = some v3 ∧ w.cell? a4 = some v4) : w'.cell? a1 = some v1 ∧ w'.cell? a2 = some v2 ∧ w'.cell? a3 = some v3 ∧ w'.cell? a4 = some v4 :=
  ⟨(hb.cell hl.1).trans h.1, (hb.cell hl.2.1).trans h.2.1, (hb.cell hl.2.2.1).trans h.2.2.1, (hb.cell hl.2.2.2).trans h.2.2.2⟩
set_option maxHeartbeats 4000000 in
theorem walk_FnOverlapTable (pa : Option Addr) (n cap : Nat) (w : World) (hx : CodeAt w pa n cap) :
    Calls Try.prog 6 #[.slice pa n cap] w fun e w' => e = .returned (.bool true) ∧ Below w.heap.size w w' := by
  have HC := Lib.hid hx
  obtain ⟨hnc, hcm, _⟩ := hx
  unfold maxLen at hcm
  by_cases hbig : n ≤ 1048576
  · go_enter Try.func6, Try.ntmps6
    go_wp2_with fail
    refine (d_DrawOverlapTable _ pa n cap HC.out).mono ?_; rintro e w1 ⟨pb, m, ca, xs, rfl, HN, hm, HX, hr1, hb1⟩
    have HS : Hid (∀ i : Nat, (wAt xs i).size ≤ 1048576) := Lib.hid (fun i => by
      unfold wAt
      by_cases hi : i < xs.length
      · rw [List.getElem?_eq_getElem hi]; have := HX.out _ (List.getElem_mem hi); show ByteArray.size xs[i] ≤ _; omega
      · rw [List.getElem?_eq_none (by omega)]; exact Nat.zero_le _)
    have HSX : Hid (∀ x ∈ xs, x.size ≤ maxLen) := Lib.hid (fun x hx => by have := HX.out x hx; unfold maxLen; omega)
    have hN6 := tbN_le xs
    obtain ⟨N, hN⟩ : ∃ N, N = tbN xs := ⟨_, rfl⟩
    rw [← hN] at hN6
    have HO := Lib.hid hN; clear hN
    obtain ⟨T, hT⟩ : ∃ T, T = ovT xs := ⟨_, rfl⟩
    have HT := Lib.hid hT; clear hT
    have s1 := hb1.size
    go_wp2_with fail
    refine (i_OverlapTable pb m ca xs _ _ _ HN.out (by omega) HS.out HSX.out (Nat.le_refl _) hr1).mono ?_
    rw [← HO.out, ← HT.out]
    rintro e w2 ⟨p2, c2, q2, rfl, ht2, hb2⟩
    have hr2 := hr1.kept hb2
    have hB2 := below_then hb1 hb2
    have s2 := hb2.size
    clear hb1 hb2 hr1
    go_wp2_with fail
    refine (s_OverlapTable pb m ca xs _ _ _ HN.out (by omega) HS.out HSX.out s2 hr2).mono ?_
    rw [← HO.out, ← HT.out]
    rintro e w3 ⟨p3, c3, q3, rfl, ht3, hb3⟩
    have hr3 := hr2.kept hb3
    have ht23 := ht2.kept hb3
    have hB3 := below_then hB2 hb3
    have s3 := hb3.size
    clear hB2 hb3 hr2 ht2
    go_wp2_with fail
    refine (l_equalLists p2 p3 N N c2 c3 _ _ _ _ T _ _ _ (by omega) (by omega) ht23 ht3).mono ?_; rintro e w4 ⟨rfl, hb4⟩
    have hr4 := hr3.kept hb4
    have ht24 := ht23.kept hb4
    have hB4 := below_then hB3 hb4
    have s4 := hb4.size
    clear hB3 hb4 hr3 ht23 ht3
    by_cases h0 : N = 0
    · subst h0
      go_wp2_with fail
      refine (s_OverlapTable pb m ca xs _ _ _ HN.out (by omega) HS.out HSX.out (by omega) hr4).mono ?_
      rw [← HO.out, ← HT.out]
      rintro e w5 ⟨p5, c5, q5, rfl, ht5, hb5⟩
      have ht25 := ht24.kept hb5
      have hB5 := below_then hB4 hb5
      clear hB4 hb5 ht24
      go_wp2_with fail
      refine (l_equalLists p2 p5 0 0 c2 c5 _ _ _ _ T _ _ _ (by omega) (by omega) ht25 ht5).mono ?_; rintro e w6 ⟨rfl, hb6⟩
      go_wp2
      go_ret
      exact ⟨rfl, below_then hB5 hb6⟩
    · have hok : wsOk xs = true := by
        cases e : wsOk xs with
        | true => rfl
        | false => exact absurd (by rw [HO.out]; unfold tbN; rw [e]; rfl) h0
      have HOK := Lib.hid hok
      have hNm : N = m := by have := HO.out; unfold tbN at this; rw [hok, if_pos rfl, HN.out] at this; exact this
      clear hok
      subst hNm
      have hne : ((N : Int) == 0) = false := by rw [beq_eq_false_iff_ne]; omega
      have HT2 := Lib.hid ht24
      have hlen := ht24.1
      have HQL := Lib.hid hlen
      clear hlen ht24
      go_wp2
      go_loopw [5] (fun i wr => ∃ i' : Nat, i' ≤ N ∧ i = .int .i64 i' ∧ Below w4.heap.size w4 wr) (fun i _ => N - (intOf i).toNat)
      case atStart => exact ⟨0, Nat.zero_le _, rfl, Below.refl _ _⟩
      case round =>
        obtain ⟨i, hi, rfl, hb5⟩ := hrel
        by_cases hlt : i < N
        · have e1 : (i : Int) < N := by omega
          obtain ⟨wo, rfl⟩ : ∃ wo : World, wo = wr := ⟨_, rfl⟩
          go_wp2
          go_loopw [6] (fun j wr => ∃ k : Nat, k ≤ N ∧ j = .int .i64 k ∧ Below w4.heap.size w4 wr) (fun j _ => N - (intOf j).toNat)
          case atStart => exact ⟨0, Nat.zero_le _, rfl, hb5⟩
          case round =>
            obtain ⟨k, hk, rfl, hb6⟩ := hrel
            clear hb5
            by_cases hkt : k < N
            · have e2 : (k : Int) < N := by omega
              obtain ⟨p, hp⟩ : ∃ p, q2[i]? = some p := ⟨_, List.getElem?_eq_getElem (by rw [HQL.out]; exact hlt)⟩
              have ht6 := HT2.out.kept hb6
              obtain ⟨⟨g1, rfl, _, _, _, a4⟩, _, _, hra⟩ := ht6.2.2 i p hp
              obtain ⟨r4, _, _, _⟩ := hra.get hkt
              unfold rowV at a4; unfold intF at r4
              have hr6 := hr4.kept hb6
              obtain ⟨b, rfl, _, _, d0, _⟩ := hr6 i hlt
              obtain ⟨_, e3, _, _, c0, _⟩ := hr6 k hkt
              cases e3
              unfold strF at c0 d0
              have zk := HS.out k; have zm := HS.out i
              have hov := ov_of_ok HOK.out (i := i) (k := k) (by rw [HN.out]; exact hlt) (by rw [HN.out]; exact hkt)
              rw [← show T i k = ovT xs i k by rw [HT.out]] at hov
              unfold wAt at zk zm hov
              obtain ⟨x, hx⟩ : ∃ z, z = xs[k]?.getD ⟨#[]⟩ := ⟨_, rfl⟩
              obtain ⟨y, hy⟩ : ∃ z, z = xs[i]?.getD ⟨#[]⟩ := ⟨_, rfl⟩
              rw [← hx] at c0 zk hov; rw [← hy] at d0 zm hov
              obtain ⟨z, hz⟩ : ∃ z, z = T i k := ⟨_, rfl⟩
              rw [← hz] at r4 hov
              have HZ := Lib.hid hov
              have zkm : x.size ≤ maxLen := by unfold maxLen; omega
              have zmm : y.size ≤ maxLen := by unfold maxLen; omega
              have l1 := cell_lt a4; have l2 := cell_lt r4; have l3 := cell_lt d0; have l4 := cell_lt c0
              clear hx hy hz hov hp ht6 hra hr6 hr4
              go_wp2
              go_region_held3 (fun w' => w'.cell? ⟨g1, i, none⟩ = some (.slice (some ⟨p.1, 0, none⟩) N p.2) ∧ w'.cell? ⟨p.1, k, none⟩ = some (.int .i64 z) ∧ w'.cell? ⟨b, i, none⟩ = some (.string y) ∧ w'.cell? ⟨b, k, none⟩ = some (.string x))
                (first | exact ⟨a4, r4, d0, c0⟩ | exact cells4 (w := wr.drew) (by assumption) ⟨l1, l2, l3, l4⟩ ⟨a4, r4, d0, c0⟩)
                ((go_at_call 24; refine (i_OverlapOf y x _ zmm zkm).mono ?_; rintro e w' ⟨rfl, hbn⟩; rw [HZ.out]))
              go_wp2
              go_roundw
              case rel => exact ⟨k + 1, by omega, by go_num, below_then (a := wr.drew) (hb6.drew) hbn⟩
              case measure => simp [intOf]; omega
            · go_wp2
              go_roundw
              case rel => exact ⟨i + 1, by omega, by go_num, hb6⟩
              case measure => simp [intOf]; omega
        · go_wp2
          go_ret
          exact ⟨rfl, below_then hB4 hb5⟩
  · go_enter Try.func6, Try.ntmps6
    go_wp2_with fail
    all_goals first | (go_ret; exact ⟨rfl, Below.refl _ _⟩) | (exfalso; apply hbig; omega)
end Go.Proofs.Ytpabgagfkicobaa
