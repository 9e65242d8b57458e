/- The walk of the reference's UnpairText. -/
import Derived.Test.YtkgdifngijeenaaUi
namespace Go.Proofs.Ytkgdifngijeenaa
open Go.RowKit
set_option linter.unusedVariables false
set_option maxRecDepth 100000 in
set_option maxHeartbeats 8000000 in
theorem s_UnpairText (pa : Option Addr) (n ca : Nat) (ps : List PrP) (lo hi : Nat) (w : World) (hl : ps.length = n) (hn : n ≤ 1048576) (hsz : ∀ p ∈ ps, p.2.size ≤ 1048576)
    (hr : RowF w lo hi pa (n * 2) (prF ps)) : Calls Try.prog 34 #[.slice pa n ca] w (RetUp (upA ps) w) := by
  by_cases h40 : n ≤ 40
  · have HL := Lib.hid hl; have HS := Lib.hid hsz; clear hl hsz
    go_enter Try.func34, Try.ntmps34
    go_wp2
    go_loopw [4, 5, 6, 7] (fun rv tx i _ wr => ∃ (k : Nat) (rows : List (List UInt8)) (text : List UInt8) (vv : Value) (t : ByteArray), vv = rv ∧ Value.string t = tx ∧ k ≤ n ∧ i = .int .i64 k ∧ Hid (upTo n (upL ps) k = some (rows, text)) ∧ Hid (t = ofL text) ∧ t.size ≤ 40 ∧ wr.ownsRow w.heap.size 9 1 vv (k + 1) (strs (rows.map ofL)) ∧ Below w.heap.size w wr) (fun _ _ i _ _ => n - (intOf i).toNat)
    case atStart => exact ⟨0, _, _, _, _, rfl, rfl, Nat.zero_le _, rfl, Lib.hid rfl, Lib.hid rfl, Nat.zero_le _, rows_made1 w _ (Nat.le_refl _), (Below.refl _ _).alloc (Nat.le_refl _) _⟩
    case round =>
      obtain ⟨k, rows, text, vv, t, rfl, rfl, hk, rfl, HU, HT, ht, hown, hb⟩ := hrel
      have hwr := hb.size
      by_cases hlt : k < n
      · obtain ⟨g, rfl, _, _, c0, c1⟩ := pr_cells (hr.kept hb) hlt
        have hzs : (ps[k]?.getD prNo).2.size ≤ 1048576 := by
          have hk2 : k < ps.length := by rw [HL.out]; exact hlt
          rw [List.getElem?_eq_getElem hk2]; exact HS.out _ (List.getElem_mem hk2)
        obtain ⟨x, hx⟩ : ∃ x, x = (ps[k]?.getD prNo).1 := ⟨_, rfl⟩
        obtain ⟨z, hz⟩ : ∃ z, z = (ps[k]?.getD prNo).2 := ⟨_, rfl⟩
        rw [← hx] at c0; rw [← hz] at c1 hzs
        obtain rfl := HL.out
        have hkp := hlt
        have e1 : (k : Int) < (ps.length : Int) := by omega
        by_cases hin : 0 ≤ x ∧ x ≤ k
        · obtain ⟨b, rfl⟩ : ∃ b : Nat, x = b := ⟨x.toNat, by omega⟩
          have hrng : rngB (b : Int) 0 k = true := by unfold rngB; rw [decide_eq_true (by omega), decide_eq_true (by omega)]; rfl
          have hbk : b ≤ k := by omega
          obtain ⟨hrl, hfl, htl⟩ := up_inv HU.out
          have hrbl : (ofL (rowAt rows b)).size ≤ 40 := by rw [ofL_size]; have := rowAt_len (rows := rows) b; rw [hfl] at this; omega
          obtain ⟨rb, hrb⟩ : ∃ rb, rb = ofL (rowAt rows b) := ⟨_, rfl⟩
          rw [← hrb] at hrbl
          clear hfl htl hin
          have hup := upOk_eq ps.length k b z hbk
          rw [hx, hz] at hup
          cases hvt : vt z.data.toList with
          | false =>
            have hlb : letB (ps[k]?.getD prNo).2 = false := by rw [← hz]; unfold letB; rw [hvt, Bool.and_false]
            have h0 : ¬ z.size = 0 := by
              intro h0
              have : z.data.toList = [] := List.eq_nil_of_length_eq_zero (by rw [list_len]; exact h0)
              rw [this] at hvt; exact absurd hvt (by decide)
            rw [hlb, Bool.false_or] at hup
            rw [← hz, decide_eq_false h0, Bool.false_and, Bool.false_and, hz] at hup
            have hem : z.toList.isEmpty = false := list_ne (by omega)
            have HN := Lib.hid (up_bad hkp HU.out hup)
            clear hup hx hz hrb hrl
            have hzm : z.size ≤ maxLen := by unfold maxLen; omega
            go_wp2_with (first | (go_at_call 61; refine (s_inRange _ _ _ _).mono ?_; rintro e w' ⟨rfl, rfl⟩) | (go_at_call 52; refine (s_validText z _ hzm).mono ?_; rintro e w' ⟨rfl, rfl⟩))
            go_ret2
            exact ⟨by rw [HN.out]; rfl, hb.alloc hwr (.cells #[.int .i64 (b : Int), .string z] 48)⟩
          | true =>
            by_cases h2 : 1 < z.size
            · have hlb : letB (ps[k]?.getD prNo).2 = false := by rw [← hz]; unfold letB; rw [decide_eq_false (by omega), Bool.false_and]
              rw [hlb, Bool.false_or] at hup
              rw [← hz, decide_eq_false (p := z.size = 0) (by omega), Bool.false_and, Bool.false_and, hz] at hup
              have hem : z.toList.isEmpty = false := list_ne (by omega)
              have HN := Lib.hid (up_bad hkp HU.out hup)
              clear hup hx hz hrb hrl
              have hzm : z.size ≤ maxLen := by unfold maxLen; omega
              go_wp2_with (first | (go_at_call 61; refine (s_inRange _ _ _ _).mono ?_; rintro e w' ⟨rfl, rfl⟩) | (go_at_call 52; refine (s_validText z _ hzm).mono ?_; rintro e w' ⟨rfl, rfl⟩))
              go_ret2
              exact ⟨by rw [HN.out]; rfl, hb.alloc hwr (.cells #[.int .i64 (b : Int), .string z] 48)⟩
            · by_cases h1 : z.size = 1
              · have hlb : letB (ps[k]?.getD prNo).2 = true := by rw [← hz]; unfold letB; rw [hvt, decide_eq_true h1]; rfl
                rw [hlb, Bool.true_or] at hup
                have hem : z.toList.isEmpty = false := list_ne (by omega)
                clear h2
                have hgo := up_go hkp HU.out hup
                have hbig := up_big hkp HU.out
                rw [← hx, ← hz, Int.toNat_natCast] at hgo hbig
                have HAP : Hid (∀ (v' : Value) (w4 : World), w4.ownsRow w.heap.size 9 1 v' (k + 1 + 1) (strs (rows.map ofL ++ [rb ++ z])) → w4.ownsRow w.heap.size 9 1 v' (k + 1 + 1) (strs ((rows ++ [rowAt rows b ++ z.data.toList]).map ofL))) := Lib.hid (fun v' w4 h => by rw [List.map_append]; show w4.ownsRow _ _ _ _ _ (strs (rows.map ofL ++ [ofL (rowAt rows b ++ z.data.toList)])); rw [← ofL_app, ← hrb, ← ofL_of (b := z) rfl]; exact h)
                have HLR : Hid (ofL (rowAt (rows ++ [rowAt rows b ++ z.data.toList]) (k + 1)) = rb ++ z) := Lib.hid (by rw [show k + 1 = rows.length from hrl.symm, rowAt_last, ← ofL_app, ← hrb, ← ofL_of (b := z) rfl])
                have HTT : Hid (t ++ (rb ++ z) = ofL (text ++ (rowAt rows b ++ z.data.toList))) := Lib.hid (by rw [hrb, HT.out, ← ofL_app, ← ofL_app, ← ofL_of (b := z) rfl])
                have hlenT : (text ++ (rowAt rows b ++ z.data.toList)).length = t.size + (rb.size + z.size) := by rw [List.length_append, List.length_append, list_len, hrb, HT.out, ofL_size, ofL_size]
                rw [hlenT] at hgo hbig
                have HRB := Lib.hid hrb
                have hzm : z.size ≤ maxLen := by unfold maxLen; omega
                clear hrb hlenT hup hx hz hrl
                obtain ⟨q0, q1⟩ := pair_new wr (.int .i64 (b : Int)) (.string z)
                obtain ⟨g2, cap2, rfl, cb0⟩ := str_at hown (i := b) (by omega)
                clear cb0
                by_cases hle : t.size + (rb.size + z.size) ≤ 40
                · have HGO := Lib.hid (hgo hle)
                  have hsum : (t ++ (rb ++ z)).size = t.size + (rb.size + z.size) := by rw [ByteArray.size_append, ByteArray.size_append]
                  clear hgo hbig
                  go_wp2_with (first | (go_at_call 61; refine (s_inRange _ _ _ _).mono ?_; rintro e w' ⟨rfl, rfl⟩) | (go_at_call 52; refine (s_validText z _ hzm).mono ?_; rintro e w' ⟨rfl, rfl⟩))
                  have hown2 := hown.alloc (.cells #[.int .i64 (b : Int), .string z] 48)
                  have p0 := q0
                  have p1 := q1
                  have hB2 := hb.alloc hwr (.cells #[.int .i64 (b : Int), .string z] 48)
                  have hsz2 := hB2.size
                  have hBl : wr.heap.size < (wr.alloc (.cells #[.int .i64 (b : Int), .string z] 48)).heap.size := by simp
                  refine held_tail_norm (S := fun w' => w'.cell? ⟨wr.heap.size, 0, none⟩ = some (.int .i64 (b : Int)) ∧ w'.cell? ⟨wr.heap.size, 1, none⟩ = some (.string z) ∧ w'.cell? ⟨g2, b, none⟩ = some (.string rb)) 9 (by kernel_rfl) (by kernel_rfl) ?_
                  intro W5 hst
                  have hown5 := hst.owns hown2
                  have r0 := (hst.1.cell (p := ⟨wr.heap.size, 0, none⟩) hBl).trans p0
                  have r1 := (hst.1.cell (p := ⟨wr.heap.size, 1, none⟩) hBl).trans p1
                  have hB5 := hB2.trans (hst.below w.heap.size)
                  have hsz5 := hB5.size
                  have hBl5 : wr.heap.size < W5.heap.size := Nat.lt_of_lt_of_le hBl hst.1.size
                  obtain ⟨_, _, e6, r2⟩ := str_at hown5 (i := b) (by omega)
                  cases e6
                  rw [← HRB.out] at r2
                  have hBg5 := cell_lt r2
                  clear hst hown2 p0 p1 q0 q1 hB2
                  refine ⟨⟨r0, r1, r2⟩, ?_⟩
                  have i1 : (b : Int) < (k : Int) + 1 := by omega
                  have i2 : b < k + 1 := by omega
                  have i3 : rb.size + z.size ≤ maxLen := by unfold maxLen; omega
                  simp only [List.take_succ_cons, List.take_zero, List.drop_succ_cons, List.drop_zero]
                  repeat
                    refine wpHeld_cons (v := ?_) (Or.inl ⟨by rfl, ?_⟩) ?_
                    rotate_left
                    · intro W2 hSw
                      obtain ⟨y1, y2, y3⟩ := hSw
                      go_simp
                      try rfl
                    simp only [Act.put, List.setIfInBounds_toArray, List.set_cons_zero, List.set_cons_succ]
                  refine wpHeld_cons (v := .string (rb ++ z)) (Or.inl ⟨by rfl, ?_⟩) ?_
                  · intro W2 hSw
                    go_simp
                    try omega
                  simp only [Act.put, List.setIfInBounds_toArray, List.set_cons_zero, List.set_cons_succ]
                  refine wpHeld_nil ?_
                  unfold wpOne
                  intro K hK
                  have HK2 := Lib.hid hK; clear hK
                  go_simp
                  refine HK2.out _ _ ⟨(World.cell?_alloc_lt _ _ ⟨wr.heap.size, 0, none⟩ hBl5).trans r0, (World.cell?_alloc_lt _ _ ⟨wr.heap.size, 1, none⟩ hBl5).trans r1, (World.cell?_alloc_lt _ _ ⟨g2, b, none⟩ hBg5).trans r2⟩ ?_
                  clear HK2 K
                  go_wp2_with (at_builtin; refine wpList_append_str rfl _ _ rfl w.heap.size _ (k + 1) (rows.map ofL) (rb ++ z) hown5 rfl rfl (by omega) (by exact hsz5) ?_; intro v' w4 hown4 hgrow4 hb4; have hown6 := HAP.out _ _ hown4; obtain ⟨g4, cap4, rfl, c4⟩ := str_at hown6 (i := k + 1) (by omega); rw [HLR.out] at c4; have hB4 := hB5.trans hb4)
                  simp only [QN]
                  go_wp2
                  go_roundw
                  case rel => exact ⟨k + 1, _, _, _, t ++ (rb ++ z), rfl, rfl, by omega, by go_num, HGO, HTT, by rw [hsum]; exact hle, hown6, hB4⟩
                  case measure => simp [intOf]; omega
                · have HN := Lib.hid (hbig hle)
                  clear hgo hbig
                  go_wp2_with (first | (go_at_call 61; refine (s_inRange _ _ _ _).mono ?_; rintro e w' ⟨rfl, rfl⟩) | (go_at_call 52; refine (s_validText z _ hzm).mono ?_; rintro e w' ⟨rfl, rfl⟩))
                  have hown2 := hown.alloc (.cells #[.int .i64 (b : Int), .string z] 48)
                  have p0 := q0
                  have p1 := q1
                  have hB2 := hb.alloc hwr (.cells #[.int .i64 (b : Int), .string z] 48)
                  have hsz2 := hB2.size
                  have hBl : wr.heap.size < (wr.alloc (.cells #[.int .i64 (b : Int), .string z] 48)).heap.size := by simp
                  refine held_tail_norm (S := fun w' => w'.cell? ⟨wr.heap.size, 0, none⟩ = some (.int .i64 (b : Int)) ∧ w'.cell? ⟨wr.heap.size, 1, none⟩ = some (.string z) ∧ w'.cell? ⟨g2, b, none⟩ = some (.string rb)) 9 (by kernel_rfl) (by kernel_rfl) ?_
                  intro W5 hst
                  have hown5 := hst.owns hown2
                  have r0 := (hst.1.cell (p := ⟨wr.heap.size, 0, none⟩) hBl).trans p0
                  have r1 := (hst.1.cell (p := ⟨wr.heap.size, 1, none⟩) hBl).trans p1
                  have hB5 := hB2.trans (hst.below w.heap.size)
                  have hsz5 := hB5.size
                  have hBl5 : wr.heap.size < W5.heap.size := Nat.lt_of_lt_of_le hBl hst.1.size
                  obtain ⟨_, _, e6, r2⟩ := str_at hown5 (i := b) (by omega)
                  cases e6
                  rw [← HRB.out] at r2
                  have hBg5 := cell_lt r2
                  clear hst hown2 p0 p1 q0 q1 hB2
                  refine ⟨⟨r0, r1, r2⟩, ?_⟩
                  have i1 : (b : Int) < (k : Int) + 1 := by omega
                  have i2 : b < k + 1 := by omega
                  have i3 : rb.size + z.size ≤ maxLen := by unfold maxLen; omega
                  simp only [List.take_succ_cons, List.take_zero, List.drop_succ_cons, List.drop_zero]
                  repeat
                    refine wpHeld_cons (v := ?_) (Or.inl ⟨by rfl, ?_⟩) ?_
                    rotate_left
                    · intro W2 hSw
                      obtain ⟨y1, y2, y3⟩ := hSw
                      go_simp
                      try rfl
                    simp only [Act.put, List.setIfInBounds_toArray, List.set_cons_zero, List.set_cons_succ]
                  refine wpHeld_cons (v := .string (rb ++ z)) (Or.inl ⟨by rfl, ?_⟩) ?_
                  · intro W2 hSw
                    go_simp
                    try omega
                  simp only [Act.put, List.setIfInBounds_toArray, List.set_cons_zero, List.set_cons_succ]
                  refine wpHeld_nil ?_
                  unfold wpOne
                  intro K hK
                  have HK2 := Lib.hid hK; clear hK
                  go_simp
                  refine HK2.out _ _ ⟨(World.cell?_alloc_lt _ _ ⟨wr.heap.size, 0, none⟩ hBl5).trans r0, (World.cell?_alloc_lt _ _ ⟨wr.heap.size, 1, none⟩ hBl5).trans r1, (World.cell?_alloc_lt _ _ ⟨g2, b, none⟩ hBg5).trans r2⟩ ?_
                  clear HK2 K
                  go_wp2_with (at_builtin; refine wpList_append_str rfl _ _ rfl w.heap.size _ (k + 1) (rows.map ofL) (rb ++ z) hown5 rfl rfl (by omega) (by exact hsz5) ?_; intro v' w4 hown4 hgrow4 hb4; have hown6 := HAP.out _ _ hown4; obtain ⟨g4, cap4, rfl, c4⟩ := str_at hown6 (i := k + 1) (by omega); rw [HLR.out] at c4; have hB4 := hB5.trans hb4)
                  simp only [QN]
                  go_wp2
                  go_ret2
                  exact ⟨by rw [HN.out]; rfl, hB4⟩
              · have h0 : z.size = 0 := by omega
                have hem : z.toList.isEmpty = true := list_em h0
                have hlb : letB (ps[k]?.getD prNo).2 = false := by rw [← hz]; unfold letB; rw [decide_eq_false h1, Bool.false_and]
                rw [hlb, Bool.false_or, ← hz, decide_eq_true h0, Bool.true_and] at hup
                clear h1 h2
                by_cases hlast : k + 1 = ps.length
                · have e3 : ¬ (k : Int) + 1 < ps.length := by omega
                  by_cases hb1 : 1 ≤ b
                  · rw [decide_eq_true hlast, decide_eq_true hb1, Bool.and_self, hz] at hup
                    have hbq : ((b : Int) == 0) = false := by rw [beq_eq_false_iff_ne]; omega
                    have hbe : ¬ (b : Int) = 0 := by omega
                    have HLAST := Lib.hid hlast; clear hlast
                    have hgo := up_go hkp HU.out hup
                    have hbig := up_big hkp HU.out
                    rw [← hx, ← hz, Int.toNat_natCast] at hgo hbig
                    have HAP : Hid (∀ (v' : Value) (w4 : World), w4.ownsRow w.heap.size 9 1 v' (k + 1 + 1) (strs (rows.map ofL ++ [rb ++ z])) → w4.ownsRow w.heap.size 9 1 v' (k + 1 + 1) (strs ((rows ++ [rowAt rows b ++ z.data.toList]).map ofL))) := Lib.hid (fun v' w4 h => by rw [List.map_append]; show w4.ownsRow _ _ _ _ _ (strs (rows.map ofL ++ [ofL (rowAt rows b ++ z.data.toList)])); rw [← ofL_app, ← hrb, ← ofL_of (b := z) rfl]; exact h)
                    have HLR : Hid (ofL (rowAt (rows ++ [rowAt rows b ++ z.data.toList]) (k + 1)) = rb ++ z) := Lib.hid (by rw [show k + 1 = rows.length from hrl.symm, rowAt_last, ← ofL_app, ← hrb, ← ofL_of (b := z) rfl])
                    have HTT : Hid (t ++ (rb ++ z) = ofL (text ++ (rowAt rows b ++ z.data.toList))) := Lib.hid (by rw [hrb, HT.out, ← ofL_app, ← ofL_app, ← ofL_of (b := z) rfl])
                    have hlenT : (text ++ (rowAt rows b ++ z.data.toList)).length = t.size + (rb.size + z.size) := by rw [List.length_append, List.length_append, list_len, hrb, HT.out, ofL_size, ofL_size]
                    rw [hlenT] at hgo hbig
                    have HRB := Lib.hid hrb
                    have hzm : z.size ≤ maxLen := by unfold maxLen; omega
                    clear hrb hlenT hup hx hz hrl
                    obtain ⟨q0, q1⟩ := pair_new wr (.int .i64 (b : Int)) (.string z)
                    obtain ⟨g2, cap2, rfl, cb0⟩ := str_at hown (i := b) (by omega)
                    clear cb0
                    by_cases hle : t.size + (rb.size + z.size) ≤ 40
                    · have HGO := Lib.hid (hgo hle)
                      have hsum : (t ++ (rb ++ z)).size = t.size + (rb.size + z.size) := by rw [ByteArray.size_append, ByteArray.size_append]
                      clear hgo hbig
                      go_wp2_with (first | (go_at_call 61; refine (s_inRange _ _ _ _).mono ?_; rintro e w' ⟨rfl, rfl⟩) | (go_at_call 52; refine (s_validText z _ hzm).mono ?_; rintro e w' ⟨rfl, rfl⟩))
                      have hown2 := hown.alloc (.cells #[.int .i64 (b : Int), .string z] 48)
                      have p0 := q0
                      have p1 := q1
                      have hB2 := hb.alloc hwr (.cells #[.int .i64 (b : Int), .string z] 48)
                      have hsz2 := hB2.size
                      have hBl : wr.heap.size < (wr.alloc (.cells #[.int .i64 (b : Int), .string z] 48)).heap.size := by simp
                      refine held_tail_norm (S := fun w' => w'.cell? ⟨wr.heap.size, 0, none⟩ = some (.int .i64 (b : Int)) ∧ w'.cell? ⟨wr.heap.size, 1, none⟩ = some (.string z) ∧ w'.cell? ⟨g2, b, none⟩ = some (.string rb)) 9 (by kernel_rfl) (by kernel_rfl) ?_
                      intro W5 hst
                      have hown5 := hst.owns hown2
                      have r0 := (hst.1.cell (p := ⟨wr.heap.size, 0, none⟩) hBl).trans p0
                      have r1 := (hst.1.cell (p := ⟨wr.heap.size, 1, none⟩) hBl).trans p1
                      have hB5 := hB2.trans (hst.below w.heap.size)
                      have hsz5 := hB5.size
                      have hBl5 : wr.heap.size < W5.heap.size := Nat.lt_of_lt_of_le hBl hst.1.size
                      obtain ⟨_, _, e6, r2⟩ := str_at hown5 (i := b) (by omega)
                      cases e6
                      rw [← HRB.out] at r2
                      have hBg5 := cell_lt r2
                      clear hst hown2 p0 p1 q0 q1 hB2
                      refine ⟨⟨r0, r1, r2⟩, ?_⟩
                      have i1 : (b : Int) < (k : Int) + 1 := by omega
                      have i2 : b < k + 1 := by omega
                      have i3 : rb.size + z.size ≤ maxLen := by unfold maxLen; omega
                      simp only [List.take_succ_cons, List.take_zero, List.drop_succ_cons, List.drop_zero]
                      repeat
                        refine wpHeld_cons (v := ?_) (Or.inl ⟨by rfl, ?_⟩) ?_
                        rotate_left
                        · intro W2 hSw
                          obtain ⟨y1, y2, y3⟩ := hSw
                          go_simp
                          try rfl
                        simp only [Act.put, List.setIfInBounds_toArray, List.set_cons_zero, List.set_cons_succ]
                      refine wpHeld_cons (v := .string (rb ++ z)) (Or.inl ⟨by rfl, ?_⟩) ?_
                      · intro W2 hSw
                        go_simp
                        try omega
                      simp only [Act.put, List.setIfInBounds_toArray, List.set_cons_zero, List.set_cons_succ]
                      refine wpHeld_nil ?_
                      unfold wpOne
                      intro K hK
                      have HK2 := Lib.hid hK; clear hK
                      go_simp
                      refine HK2.out _ _ ⟨(World.cell?_alloc_lt _ _ ⟨wr.heap.size, 0, none⟩ hBl5).trans r0, (World.cell?_alloc_lt _ _ ⟨wr.heap.size, 1, none⟩ hBl5).trans r1, (World.cell?_alloc_lt _ _ ⟨g2, b, none⟩ hBg5).trans r2⟩ ?_
                      clear HK2 K
                      go_wp2_with (at_builtin; refine wpList_append_str rfl _ _ rfl w.heap.size _ (k + 1) (rows.map ofL) (rb ++ z) hown5 rfl rfl (by omega) (by exact hsz5) ?_; intro v' w4 hown4 hgrow4 hb4; have hown6 := HAP.out _ _ hown4; obtain ⟨g4, cap4, rfl, c4⟩ := str_at hown6 (i := k + 1) (by omega); rw [HLR.out] at c4; have hB4 := hB5.trans hb4)
                      simp only [QN]
                      go_wp2
                      go_roundw
                      case rel => exact ⟨k + 1, _, _, _, t ++ (rb ++ z), rfl, rfl, by omega, by go_num, HGO, HTT, by rw [hsum]; exact hle, hown6, hB4⟩
                      case measure => simp [intOf]; omega
                    · have HN := Lib.hid (hbig hle)
                      clear hgo hbig
                      go_wp2_with (first | (go_at_call 61; refine (s_inRange _ _ _ _).mono ?_; rintro e w' ⟨rfl, rfl⟩) | (go_at_call 52; refine (s_validText z _ hzm).mono ?_; rintro e w' ⟨rfl, rfl⟩))
                      have hown2 := hown.alloc (.cells #[.int .i64 (b : Int), .string z] 48)
                      have p0 := q0
                      have p1 := q1
                      have hB2 := hb.alloc hwr (.cells #[.int .i64 (b : Int), .string z] 48)
                      have hsz2 := hB2.size
                      have hBl : wr.heap.size < (wr.alloc (.cells #[.int .i64 (b : Int), .string z] 48)).heap.size := by simp
                      refine held_tail_norm (S := fun w' => w'.cell? ⟨wr.heap.size, 0, none⟩ = some (.int .i64 (b : Int)) ∧ w'.cell? ⟨wr.heap.size, 1, none⟩ = some (.string z) ∧ w'.cell? ⟨g2, b, none⟩ = some (.string rb)) 9 (by kernel_rfl) (by kernel_rfl) ?_
                      intro W5 hst
                      have hown5 := hst.owns hown2
                      have r0 := (hst.1.cell (p := ⟨wr.heap.size, 0, none⟩) hBl).trans p0
                      have r1 := (hst.1.cell (p := ⟨wr.heap.size, 1, none⟩) hBl).trans p1
                      have hB5 := hB2.trans (hst.below w.heap.size)
                      have hsz5 := hB5.size
                      have hBl5 : wr.heap.size < W5.heap.size := Nat.lt_of_lt_of_le hBl hst.1.size
                      obtain ⟨_, _, e6, r2⟩ := str_at hown5 (i := b) (by omega)
                      cases e6
                      rw [← HRB.out] at r2
                      have hBg5 := cell_lt r2
                      clear hst hown2 p0 p1 q0 q1 hB2
                      refine ⟨⟨r0, r1, r2⟩, ?_⟩
                      have i1 : (b : Int) < (k : Int) + 1 := by omega
                      have i2 : b < k + 1 := by omega
                      have i3 : rb.size + z.size ≤ maxLen := by unfold maxLen; omega
                      simp only [List.take_succ_cons, List.take_zero, List.drop_succ_cons, List.drop_zero]
                      repeat
                        refine wpHeld_cons (v := ?_) (Or.inl ⟨by rfl, ?_⟩) ?_
                        rotate_left
                        · intro W2 hSw
                          obtain ⟨y1, y2, y3⟩ := hSw
                          go_simp
                          try rfl
                        simp only [Act.put, List.setIfInBounds_toArray, List.set_cons_zero, List.set_cons_succ]
                      refine wpHeld_cons (v := .string (rb ++ z)) (Or.inl ⟨by rfl, ?_⟩) ?_
                      · intro W2 hSw
                        go_simp
                        try omega
                      simp only [Act.put, List.setIfInBounds_toArray, List.set_cons_zero, List.set_cons_succ]
                      refine wpHeld_nil ?_
                      unfold wpOne
                      intro K hK
                      have HK2 := Lib.hid hK; clear hK
                      go_simp
                      refine HK2.out _ _ ⟨(World.cell?_alloc_lt _ _ ⟨wr.heap.size, 0, none⟩ hBl5).trans r0, (World.cell?_alloc_lt _ _ ⟨wr.heap.size, 1, none⟩ hBl5).trans r1, (World.cell?_alloc_lt _ _ ⟨g2, b, none⟩ hBg5).trans r2⟩ ?_
                      clear HK2 K
                      go_wp2_with (at_builtin; refine wpList_append_str rfl _ _ rfl w.heap.size _ (k + 1) (rows.map ofL) (rb ++ z) hown5 rfl rfl (by omega) (by exact hsz5) ?_; intro v' w4 hown4 hgrow4 hb4; have hown6 := HAP.out _ _ hown4; obtain ⟨g4, cap4, rfl, c4⟩ := str_at hown6 (i := k + 1) (by omega); rw [HLR.out] at c4; have hB4 := hB5.trans hb4)
                      simp only [QN]
                      go_wp2
                      go_ret2
                      exact ⟨by rw [HN.out]; rfl, hB4⟩
                  · rw [decide_eq_false hb1, Bool.and_false, hz] at hup
                    have hbq : ((b : Int) == 0) = true := by rw [beq_iff_eq]; omega
                    have hbe : ((b : Int) = 0) = True := eq_true (by omega)
                    have HLAST := Lib.hid hlast; clear hlast
                    have HN := Lib.hid (up_bad hkp HU.out hup)
                    clear hup hx hz hrb hrl
                    have hzm : z.size ≤ maxLen := by unfold maxLen; omega
                    go_wp2_with (first | (go_at_call 61; refine (s_inRange _ _ _ _).mono ?_; rintro e w' ⟨rfl, rfl⟩) | (go_at_call 52; refine (s_validText z _ hzm).mono ?_; rintro e w' ⟨rfl, rfl⟩))
                    go_ret2
                    exact ⟨by rw [HN.out]; rfl, hb.alloc hwr (.cells #[.int .i64 (b : Int), .string z] 48)⟩
                · have e3 : (k : Int) + 1 < ps.length := by omega
                  rw [decide_eq_false hlast, Bool.false_and, hz] at hup
                  have HN := Lib.hid (up_bad hkp HU.out hup)
                  clear hup hx hz hrb hrl
                  have hzm : z.size ≤ maxLen := by unfold maxLen; omega
                  go_wp2_with (first | (go_at_call 61; refine (s_inRange _ _ _ _).mono ?_; rintro e w' ⟨rfl, rfl⟩) | (go_at_call 52; refine (s_validText z _ hzm).mono ?_; rintro e w' ⟨rfl, rfl⟩))
                  go_ret2
                  exact ⟨by rw [HN.out]; rfl, hb.alloc hwr (.cells #[.int .i64 (b : Int), .string z] 48)⟩
        · have hup : upOk ps.length k (ps[k]?.getD prNo).1 (ps[k]?.getD prNo).2.data.toList = false := by
            rw [← hx]; unfold upOk
            by_cases hx0 : 0 ≤ x
            · rw [decide_eq_false (p := x ≤ (k : Int)) (by omega), Bool.and_false, Bool.false_and]
            · rw [decide_eq_false hx0, Bool.false_and, Bool.false_and]
          have hrng : rngB x 0 k = false := by
            unfold rngB
            by_cases hx0 : 0 ≤ x
            · rw [decide_eq_false (p := x ≤ (k : Int)) (by omega), Bool.and_false]
            · rw [decide_eq_false hx0, Bool.false_and]
          have HN := Lib.hid (up_bad hkp HU.out hup)
          clear hup hx hz
          go_wp2_with (go_at_call 61; refine (s_inRange _ _ _ _).mono ?_; rintro e w' ⟨rfl, rfl⟩)
          all_goals (go_ret2; exact ⟨by rw [HN.out]; rfl, hb.alloc hwr (.cells #[.int .i64 x, .string z] 48)⟩)
      · obtain rfl : k = n := by omega
        obtain rfl := HL.out
        have HD := Lib.hid (up_done h40 HU.out)
        go_wp2
        go_ret2
        exact ⟨by rw [HD.out, HT.out]; rfl, hb⟩
  · have hd : decide ((40 : Int) < n) = true := decide_eq_true (by omega)
    have HN := Lib.hid (up_long (ps := ps) (by omega))
    go_enter Try.func34, Try.ntmps34
    go_wp2
    go_ret2
    exact ⟨by rw [HN.out]; rfl, Below.refl _ _⟩
end Go.Proofs.Ytkgdifngijeenaa
