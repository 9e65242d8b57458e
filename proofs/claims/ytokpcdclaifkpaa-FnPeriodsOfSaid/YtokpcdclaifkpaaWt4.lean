/- Walk of the law FnPeriodsOf over drawn texts: two short periods have a common one. -/
import Derived.Test.YtokpcdclaifkpaaWt2
import Derived.Test.YtokpcdclaifkpaaPFw
namespace Go.Proofs.Ytokpcdclaifkpaa
open Go.RowKit
set_option linter.unusedVariables false

theorem perB_iff {s : List UInt8} {p : Nat} : perB s p = true ↔ Per (fun i => s[i]?.getD 0) s.length p ∨ s.length < p := by
  unfold perB
  rw [decide_eq_true_eq]
  by_cases hp : s.length < p
  · constructor
    · intro _; exact .inr hp
    · intro _; rw [List.drop_of_length_le (by omega), show s.length - p = 0 by omega, List.take_zero]
  · constructor
    · intro h
      refine .inl fun i hi => ?_
      have e : (s.drop p)[i]? = (s.take (s.length - p))[i]? := by rw [h]
      rw [List.getElem?_drop, List.getElem?_take_of_lt (by omega)] at e
      show s[i]?.getD 0 = s[i + p]?.getD 0
      rw [← e, Nat.add_comm]
    · rintro (h | h)
      · apply List.ext_getElem
        · simp
        · intro i h1 h2
          have hi : i < s.length - p := by simpa using h1
          have e := h i (by omega)
          simp only at e
          rw [List.getElem?_eq_getElem (by omega), List.getElem?_eq_getElem (by omega)] at e
          simp only [Option.getD_some] at e
          simp only [List.getElem_drop, List.getElem_take, Nat.add_comm p i]
          exact e.symm
      · omega
/-- Fine and Wilf over the list of periods. -/
theorem per_gcd {s : List UInt8} {p q : Nat} (hp : ((p : Nat) : Int) ∈ sel (perB s) 1 s.length) (hq : ((q : Nat) : Int) ∈ sel (perB s) 1 s.length) (hn : p + q ≤ s.length + Nat.gcd p q) :
    inB (sel (perB s) 1 s.length) (Nat.gcd p q : Nat) = true := by
  have bp := sel_mem hp
  have bq := sel_mem hq
  obtain ⟨i, rfl⟩ : ∃ i, p = 1 + i := ⟨p - 1, by omega⟩
  obtain ⟨j, rfl⟩ : ∃ j, q = 1 + j := ⟨q - 1, by omega⟩
  obtain ⟨h1, h2⟩ := mem_sel.1 hp
  obtain ⟨h3, h4⟩ := mem_sel.1 hq
  have P1 : Per (fun i => s[i]?.getD 0) s.length (1 + i) := (perB_iff.1 h2).resolve_right (by omega)
  have P2 : Per (fun i => s[i]?.getD 0) s.length (1 + j) := (perB_iff.1 h4).resolve_right (by omega)
  have := fineWilf _ _ (1 + i) (1 + j) s.length (Nat.le_refl _) (by omega) (by omega) P1 P2 hn
  have hg0 : 0 < Nat.gcd (1 + i) (1 + j) := Nat.gcd_pos_of_pos_left _ (by omega)
  have hgl : Nat.gcd (1 + i) (1 + j) ≤ 1 + i := Nat.gcd_le_left _ (by omega)
  obtain ⟨g, hg⟩ : ∃ g, Nat.gcd (1 + i) (1 + j) = 1 + g := ⟨Nat.gcd (1 + i) (1 + j) - 1, by omega⟩
  rw [hg] at this ⊢
  rw [inB_mem, mem_sel]
  exact ⟨by omega, perB_iff.2 (.inl this)⟩
theorem per_last {s : ByteArray} (h0 : 0 < s.size) : inB (sel (perB s.data.toList) 1 s.data.toList.length) (s.size : Nat) = true := by
  obtain ⟨m, hm⟩ : ∃ m, s.size = 1 + m := ⟨s.size - 1, by omega⟩
  rw [list_len, inB_mem, hm, mem_sel]
  refine ⟨by omega, ?_⟩
  unfold perB
  rw [← hm, List.drop_of_length_le (by rw [list_len]; exact Nat.le_refl _), list_len, Nat.sub_self, List.take_zero]; rfl

set_option maxHeartbeats 8000000 in
theorem walk_FnPeriodsOf (pa : Option Addr) (n cap : Nat) (w : World) (hx : CodeAt w pa n cap) :
    Calls Try.prog 7 #[.slice pa n cap] w fun e w' => e = .returned (.bool true) ∧ Below w.heap.size w w' := by
  have hcap := hx.2.1; have hnc := hx.1
  unfold maxLen at hcap
  have HC := Lib.hid hx; clear hx
  by_cases hn : n ≤ 1048576
  · go_enter Try.func7, Try.ntmps7
    go_wp2_with fail
    refine (d_DrawPeriodsOf _ _ _ _ HC.out).mono ?_; rintro e w1 ⟨s, rfl, hs, hb1⟩
    go_wp2_with fail
    refine (i_PeriodsOf s _ (size41 hs)).mono ?_; rintro e w2 ⟨pb, m, cb, rfl, HN, hle, hr2, hb2⟩
    have hB2 := Below.then hb1 hb2; clear hb1 hb2
    go_wp2_with fail
    refine (s_PeriodsOf s _ (size41 hs)).mono ?_; rintro e w3 ⟨pc, m3, cc, rfl, HN3, _, hr3, hb3⟩
    obtain rfl : m = m3 := HN.out.symm.trans HN3.out
    have hB3 := Below.then hB2 hb3
    have hr2 := hr2.kept hb3
    clear hB2 hb3
    go_wp2_with fail
    refine (l_equalInts pb pc m cb cc _ _ _ _ _ _ HN.out hle hr2 hr3).mono ?_; rintro e w4 ⟨rfl, hb4⟩
    have hB4 := Below.then hB3 hb4
    have hr2 := hr2.kept hb4
    clear hB3 hb4 hr3
    go_wp2_with fail
    refine (i_ValidText s _ (size41 hs)).mono ?_; rintro e w5 ⟨rfl, hb5⟩
    have hB5 := Below.then hB4 hb5
    have hr2 := hr2.kept hb5
    clear hB4 hb5
    cases h1 : vt s.data.toList
    · go_wp2_with fail
      refine (s_PeriodsOf s _ (size41 hs)).mono ?_; rintro e w6 ⟨pd, m6, cd, rfl, HN6, _, hr6, hb6⟩
      obtain rfl : m = m6 := HN.out.symm.trans HN6.out
      have hB6 := Below.then hB5 hb6
      have hr2 := hr2.kept hb6
      go_wp2_with fail
      refine (l_equalInts pb pd m cb cd _ _ _ _ _ _ HN.out hle hr2 hr6).mono ?_; rintro e w7 ⟨rfl, hb7⟩
      go_wp2
      go_ret
      exact ⟨rfl, Below.then hB6 hb7⟩
    · have hsz := vt_size h1
      have hlb := HN.out
      rw [periods_yes h1] at hr2 hlb
      have HL := Lib.hid hlb; clear hlb
      go_wp2
      clear h1
      go_loopw [5, 6, 7] (fun i _ _ wr => ∃ k : Nat, k ≤ m ∧ i = .int .i64 k ∧ Below w.heap.size w wr ∧ Row wr w1.heap.size w2.heap.size pb (ints (sel (perB s.data.toList) 1 s.data.toList.length))) (fun i _ _ _ => m - (intOf i).toNat)
      case atStart => exact ⟨0, by omega, rfl, hB5, hr2⟩
      case round =>
        obtain ⟨k, hk, rfl, hB, hr⟩ := hrel
        clear hB5 hr2
        obtain ⟨wo, rfl⟩ : ∃ wo : World, wo = wr := ⟨_, rfl⟩
        by_cases hlt : k < m
        · go_wp2
          go_loopw [6, 7] (fun i _ wr => ∃ l : Nat, l ≤ k ∧ i = .int .i64 l ∧ Below w.heap.size w wr ∧ Row wr w1.heap.size w2.heap.size pb (ints (sel (perB s.data.toList) 1 s.data.toList.length))) (fun i _ _ => k - (intOf i).toNat)
          case atStart => exact ⟨0, by omega, rfl, hB, hr⟩
          case round =>
            obtain ⟨l, hl, rfl, hB2, hr2⟩ := hrel
            clear hB hr
            by_cases hll : l < k
            · have hkl : k < (sel (perB s.data.toList) 1 s.data.toList.length).length := by rw [HL.out]; exact hlt
              have hlm : l < (sel (perB s.data.toList) 1 s.data.toList.length).length := by rw [HL.out]; omega
              obtain ⟨g, rfl, _, _, c1, _⟩ := hr2.getInt hkl
              obtain ⟨g', e2, _, _, c2, _⟩ := hr2.getInt hlm
              cases e2
              have m1 : (sel (perB s.data.toList) 1 s.data.toList.length)[k]?.getD 0 ∈ sel (perB s.data.toList) 1 s.data.toList.length := by rw [List.getElem?_eq_getElem hkl]; exact List.getElem_mem _
              have m2 : (sel (perB s.data.toList) 1 s.data.toList.length)[l]?.getD 0 ∈ sel (perB s.data.toList) 1 s.data.toList.length := by rw [List.getElem?_eq_getElem hlm]; exact List.getElem_mem _
              have b1 := sel_mem m1
              have b2 := sel_mem m2
              obtain ⟨p, hp⟩ : ∃ p : Nat, (sel (perB s.data.toList) 1 s.data.toList.length)[k]?.getD 0 = p := Int.eq_ofNat_of_zero_le (by omega)
              obtain ⟨q, hq⟩ : ∃ q : Nat, (sel (perB s.data.toList) 1 s.data.toList.length)[l]?.getD 0 = q := Int.eq_ofNat_of_zero_le (by omega)
              rw [hp] at c1 m1 b1
              rw [hq] at c2 m2 b2
              clear hp hq
              rw [list_len] at b1 b2
              have hpg : Nat.gcd p q ≤ p := Nat.gcd_le_left _ (by omega)
              have HG := Lib.hid (per_gcd m1 m2)
              clear m1 m2
              obtain ⟨gg, hgg⟩ : ∃ gg, gg = Nat.gcd p q := ⟨_, rfl⟩
              have HGG := Lib.hid hgg
              rw [← hgg] at hpg; clear hgg
              have hkk : (k : Int) < m := by omega
              have hll2 : (l : Int) < m := by omega
              have hll3 : l < m := by omega
              go_wp2
              go_quiet ((go_at_call 33; exact Calls.quiet_of_same ((l_divisor p q _ (by omega) (by omega)).mono fun _ _ ⟨h1, h2⟩ => ⟨h1, h2.symm⟩)))
              rw [← HGG.out]
              go_wp2
              have hB5 := below_drewN hB2 nq
              have hr5 := hr2.kept (below_drewN (Below.refl wr.heap.size wr) nq)
              have c15 : (wr.drewN nq).cell? ⟨g, k, none⟩ = some (.int .i64 p) := c1
              have c25 : (wr.drewN nq).cell? ⟨g, l, none⟩ = some (.int .i64 q) := c2
              generalize wr.drewN nq = w5 at *
              clear hB2 hr2 c1 c2
              have e1 : IntKind.i64.wrap ((p : Int) + q) = p + q := IntWalk.i64_in _ (by omega)
              have e2 : IntKind.i64.wrap ((p : Int) + q - gg) = p + q - gg := IntWalk.i64_in _ (by omega)
              by_cases hfw : (p : Int) + q - gg ≤ s.size
              · have hd : decide ((p : Int) + q - gg ≤ s.size) = true := decide_eq_true hfw
                have HI := Lib.hid (show inB (sel (perB s.data.toList) 1 s.data.toList.length) gg = true by rw [HGG.out]; exact HG.out (by rw [list_len, ← HGG.out]; omega))
                go_quiet ((go_at_call 34; exact Calls.quiet_of_same (l_isInB _ _ _ _ _ _ _ _ HI.out HL.out hle (hr5.kept (below_drewN (Below.refl _ _) _)))))
                clear e1 e2
                go_wp2
                go_roundw
                case rel => exact ⟨l + 1, by omega, by go_num, below_drewN hB5 _, hr5.kept (below_drewN (Below.refl _ _) _)⟩
                case measure => simp [intOf]; omega
              · have hd : decide ((p : Int) + q - gg ≤ s.size) = false := decide_eq_false hfw
                go_quiet (fail)
                clear e1 e2
                go_wp2
                go_roundw
                case rel => exact ⟨l + 1, by omega, by go_num, below_drewN hB5 _, hr5.kept (below_drewN (Below.refl _ _) _)⟩
                case measure => simp [intOf]; omega
            · go_wp2
              go_roundw
              case rel => exact ⟨k + 1, by omega, by go_num, hB2, hr2⟩
              case measure => simp [intOf]; omega
        · go_wp2_with fail
          refine (l_ascends pb m cb _ _ _ _ HL.out hle hr (sel_asc _ _ _)).mono ?_; rintro e w8 ⟨rfl, hb8⟩
          have hr8 := hr.kept hb8
          by_cases h0 : 0 < s.size
          · have he := emp_no h0
            go_wp2_with fail
            refine (l_isInB pb m cb _ _ _ _ _ (per_last h0) HL.out hle hr8).mono ?_; rintro e w9 ⟨rfl, rfl⟩
            go_wp2
            go_ret
            exact ⟨rfl, Below.then hB hb8⟩
          · have he := emp_yes h0
            go_wp2
            go_ret
            exact ⟨rfl, Below.then hB hb8⟩
  · go_enter Try.func7, Try.ntmps7
    go_wp2
    go_ret
    exact ⟨rfl, Below.refl _ _⟩
end Go.Proofs.Ytokpcdclaifkpaa
