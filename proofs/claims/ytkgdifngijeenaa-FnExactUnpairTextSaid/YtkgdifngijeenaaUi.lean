/- The walk of the program's UnpairText. -/
import Derived.Test.YtkgdifngijeenaaUp
import Derived.Test.YtkgdifngijeenaaBk
namespace Go.Proofs.Ytkgdifngijeenaa
open Go.RowKit
set_option linter.unusedVariables false
def QN (K : Act → World → Prop) : Exit → Act → World → Prop
  | .normal, a, w => K a w
  | _, _, _ => False
/-- A region that reads, makes a block and then goes on in one forced order, under whatever stands behind it. -/
theorem held_tail_norm {P : Program} {id : Nat} {Q : Exit → Act → World → Prop} {S : World → Prop} {a : Act} {w : World} {l : List Oper} (m : Nat) (hm : P.follows .mixedOrders = true) (hB : heldTailB l m = true)
    (h : ∀ w1, Still w w1 → S w1 ∧ wpHeld P l.toArray S (fun a' => wpOne P l.toArray (QN (Q .normal)) S (l.drop m) a' w1) (l.take m) a) : (Code.region id l.toArray true).wp P Q a w :=
  Code.wp_mono (fun e _ _ h => by cases e <;> first | exact h | exact False.elim h) (held_tail_abs m hm hB (fun _ _ _ _ _ h => h) h)
theorem upOk_eq (n k b : Nat) (z : ByteArray) (hb : b ≤ k) : upOk n k (b : Int) z.data.toList = (letB z || (decide (z.size = 0) && decide (k + 1 = n) && decide (1 ≤ b))) := by
  unfold upOk letB
  have h1 : decide ((b : Int) ≤ k) = true := decide_eq_true (by omega)
  have h0 : decide ((0 : Int) ≤ b) = true := decide_eq_true (by omega)
  have h2 : decide ((1 : Int) ≤ b) = decide (1 ≤ b) := by rw [Bool.eq_iff_iff, decide_eq_true_eq, decide_eq_true_eq]; omega
  have h3 : decide (z.data.toList = []) = decide (z.size = 0) := by rw [Bool.eq_iff_iff, decide_eq_true_eq, decide_eq_true_eq, ← list_len, List.length_eq_zero_iff]
  rw [h0, h1, h2, h3, list_len]; rfl
set_option maxRecDepth 100000 in
set_option maxHeartbeats 8000000 in
theorem i_UnpairText (pa : Option Addr) (n ca : Nat) (ps : List PrP) (lo hi : Nat) (w : World) (hl : ps.length = n) (hn : n ≤ 1048576) (hsz : ∀ p ∈ ps, p.2.size ≤ 1048576)
    (hr : RowF w lo hi pa (n * 2) (prF ps)) : Calls Try.prog 36 #[.slice pa n ca] w (RetUp (upA ps) w) := by
  by_cases h40 : n ≤ 40
  · have HL := Lib.hid hl; have HS := Lib.hid hsz; clear hl hsz
    go_enter Try.func36, Try.ntmps36
    go_wp2
    go_loopw [4, 5, 6, 7, 8, 15] (fun rv tx _ _ _ i wr => ∃ (k : Nat) (rows : List (List UInt8)) (text : List UInt8) (vv : Value) (t : ByteArray), vv = rv ∧ Value.string t = tx ∧ k ≤ n ∧ i = .int .i64 k ∧ Hid (upTo n (upL ps) k = some (rows, text)) ∧ Hid (t = ofL text) ∧ t.size ≤ 40 ∧ wr.ownsRow w.heap.size 9 1 vv (k + 1) (strs (rows.map ofL)) ∧ Below w.heap.size w wr) (fun _ _ _ _ _ i _ => n - (intOf i).toNat)
    case atStart => exact ⟨0, _, _, _, _, rfl, rfl, Nat.zero_le _, rfl, Lib.hid rfl, Lib.hid rfl, Nat.zero_le _, rows_made1 w _ (Nat.le_refl _), (Below.refl _ _).alloc (Nat.le_refl _) _⟩
    case round =>
      obtain ⟨k, rows, text, vv, t, rfl, rfl, hk, rfl, HU, HT, ht, hown, hb⟩ := hrel
      have hwr := hb.size
      by_cases hlt : k < n
      · obtain ⟨g, rfl, _, _, c0, c1⟩ := pr_cells (hr.kept hb) hlt
        have hzs : (ps[k]?.getD prNo).2.size ≤ 1048576 := by
          have hk2 : k < ps.length := by rw [HL.out]; exact hlt
          rw [List.getElem?_eq_getElem hk2]; exact HS.out _ (List.getElem_mem hk2)
        obtain ⟨x, hx⟩ : ∃ x, x = (ps[k]?.getD prNo).1 := ⟨_, rfl⟩
        obtain ⟨z, hz⟩ : ∃ z, z = (ps[k]?.getD prNo).2 := ⟨_, rfl⟩
        rw [← hx] at c0; rw [← hz] at c1 hzs
        obtain rfl := HL.out
        have hkp := hlt
        have e1 : (k : Int) < (ps.length : Int) := by omega
        by_cases hin : 0 ≤ x ∧ x ≤ k
        · obtain ⟨b, rfl⟩ : ∃ b : Nat, x = b := ⟨x.toNat, by omega⟩
          have hrng : rngB (b : Int) 0 k = true := by unfold rngB; rw [decide_eq_true (by omega), decide_eq_true (by omega)]; rfl
          have hbk : b ≤ k := by omega
          obtain ⟨hrl, hfl, htl⟩ := up_inv HU.out
          have hrbl : (ofL (rowAt rows b)).size ≤ 40 := by rw [ofL_size]; have := rowAt_len (rows := rows) b; rw [hfl] at this; omega
          obtain ⟨rb, hrb⟩ : ∃ rb, rb = ofL (rowAt rows b) := ⟨_, rfl⟩
          rw [← hrb] at hrbl
          clear hfl htl hin
          have hup := upOk_eq ps.length k b z hbk
          rw [hx, hz] at hup
          by_cases hlast : ps.length = k + 1
          · have hkq : ((k : Int) == (ps.length : Int) - 1) = true := by rw [hlast]; simp
            have hke : ((k : Int) = (ps.length : Int) - 1) = True := by rw [hlast]; simp
            have HLAST := Lib.hid hlast; clear hlast
            cases hlb : letB (ps[k]?.getD prNo).2 with
            | true =>
              rw [hlb, Bool.true_or] at hup
              rw [← hz] at hlb
              have h1 : z.size = 1 := by unfold letB at hlb; rw [Bool.and_eq_true, decide_eq_true_eq] at hlb; exact hlb.1
              have hem : z.toList.isEmpty = false := list_ne (by omega)
              have hgo := up_go hkp HU.out hup
              have hbig := up_big hkp HU.out
              rw [← hx, ← hz, Int.toNat_natCast] at hgo hbig
              have HAP : Hid (∀ (v' : Value) (w4 : World), w4.ownsRow w.heap.size 9 1 v' (k + 1 + 1) (strs (rows.map ofL ++ [rb ++ z])) → w4.ownsRow w.heap.size 9 1 v' (k + 1 + 1) (strs ((rows ++ [rowAt rows b ++ z.data.toList]).map ofL))) := Lib.hid (fun v' w4 h => by rw [List.map_append]; show w4.ownsRow _ _ _ _ _ (strs (rows.map ofL ++ [ofL (rowAt rows b ++ z.data.toList)])); rw [← ofL_app, ← hrb, ← ofL_of (b := z) rfl]; exact h)
              have HLR : Hid (ofL (rowAt (rows ++ [rowAt rows b ++ z.data.toList]) (k + 1)) = rb ++ z) := Lib.hid (by rw [show k + 1 = rows.length from hrl.symm, rowAt_last, ← ofL_app, ← hrb, ← ofL_of (b := z) rfl])
              have HTT : Hid (t ++ (rb ++ z) = ofL (text ++ (rowAt rows b ++ z.data.toList))) := Lib.hid (by rw [hrb, HT.out, ← ofL_app, ← ofL_app, ← ofL_of (b := z) rfl])
              have hlenT : (text ++ (rowAt rows b ++ z.data.toList)).length = t.size + (rb.size + z.size) := by rw [List.length_append, List.length_append, list_len, hrb, HT.out, ofL_size, ofL_size]
              rw [hlenT] at hgo hbig
              have HRB := Lib.hid hrb
              have hzm : z.size ≤ maxLen := by unfold maxLen; omega
              clear hrb hlenT hup hx hz hrl
              obtain ⟨q0, q1⟩ := pair_new wr (.int .i64 (b : Int)) (.string z)
              obtain ⟨g2, cap2, rfl, cb0⟩ := str_at hown (i := b) (by omega)
              clear cb0
              by_cases hle : t.size + (rb.size + z.size) ≤ 40
              · have HGO := Lib.hid (hgo hle)
                have hsum : (t ++ (rb ++ z)).size = t.size + (rb.size + z.size) := by rw [ByteArray.size_append, ByteArray.size_append]
                clear hgo hbig
                go_wp2_with (first | (go_at_call 47; refine (i_within _ _ _ _).mono ?_; rintro e w' ⟨rfl, rfl⟩) | (go_at_call 63; refine (i_letterOk z _ hzm).mono ?_; rintro e w2 ⟨rfl, hb2⟩; have hown2 := own_below (hown.alloc (.cells #[.int .i64 (b : Int), .string z] 48)) hb2; have p0 := (hb2.cell (by simp)).trans q0; have p1 := (hb2.cell (by simp)).trans q1; have hB2 := (hb.alloc hwr (.cells #[.int .i64 (b : Int), .string z] 48)).trans (hb2.mono (by simp; omega)); have hsz2 := hB2.size; have hBl : wr.heap.size < w2.heap.size := Nat.lt_of_lt_of_le (by simp) hb2.size))
                refine held_tail_norm (S := fun w' => w'.cell? ⟨wr.heap.size, 0, none⟩ = some (.int .i64 (b : Int)) ∧ w'.cell? ⟨wr.heap.size, 1, none⟩ = some (.string z) ∧ w'.cell? ⟨g2, b, none⟩ = some (.string rb)) 9 (by kernel_rfl) (by kernel_rfl) ?_
                intro W5 hst
                have hown5 := hst.owns hown2
                have r0 := (hst.1.cell (p := ⟨wr.heap.size, 0, none⟩) hBl).trans p0
                have r1 := (hst.1.cell (p := ⟨wr.heap.size, 1, none⟩) hBl).trans p1
                have hB5 := hB2.trans (hst.below w.heap.size)
                have hsz5 := hB5.size
                have hBl5 : wr.heap.size < W5.heap.size := Nat.lt_of_lt_of_le hBl hst.1.size
                obtain ⟨_, _, e6, r2⟩ := str_at hown5 (i := b) (by omega)
                cases e6
                rw [← HRB.out] at r2
                have hBg5 := cell_lt r2
                clear hst hown2 p0 p1 q0 q1 hB2
                refine ⟨⟨r0, r1, r2⟩, ?_⟩
                have i1 : (b : Int) < (k : Int) + 1 := by omega
                have i2 : b < k + 1 := by omega
                have i3 : rb.size + z.size ≤ maxLen := by unfold maxLen; omega
                simp only [List.take_succ_cons, List.take_zero, List.drop_succ_cons, List.drop_zero]
                repeat
                  refine wpHeld_cons (v := ?_) (Or.inl ⟨by rfl, ?_⟩) ?_
                  rotate_left
                  · intro W2 hSw
                    obtain ⟨y1, y2, y3⟩ := hSw
                    go_simp
                    try rfl
                  simp only [Act.put, List.setIfInBounds_toArray, List.set_cons_zero, List.set_cons_succ]
                refine wpHeld_cons (v := .string (rb ++ z)) (Or.inl ⟨by rfl, ?_⟩) ?_
                · intro W2 hSw
                  go_simp
                  try omega
                simp only [Act.put, List.setIfInBounds_toArray, List.set_cons_zero, List.set_cons_succ]
                refine wpHeld_nil ?_
                unfold wpOne
                intro K hK
                have HK2 := Lib.hid hK; clear hK
                go_simp
                refine HK2.out _ _ ⟨(World.cell?_alloc_lt _ _ ⟨wr.heap.size, 0, none⟩ hBl5).trans r0, (World.cell?_alloc_lt _ _ ⟨wr.heap.size, 1, none⟩ hBl5).trans r1, (World.cell?_alloc_lt _ _ ⟨g2, b, none⟩ hBg5).trans r2⟩ ?_
                clear HK2 K
                go_wp2_with (at_builtin; refine wpList_append_str rfl _ _ rfl w.heap.size _ (k + 1) (rows.map ofL) (rb ++ z) hown5 rfl rfl (by omega) (by exact hsz5) ?_; intro v' w4 hown4 hgrow4 hb4; have hown6 := HAP.out _ _ hown4; obtain ⟨g4, cap4, rfl, c4⟩ := str_at hown6 (i := k + 1) (by omega); rw [HLR.out] at c4; have hB4 := hB5.trans hb4)
                simp only [QN]
                go_wp2
                go_roundw
                case rel => exact ⟨k + 1, _, _, _, t ++ (rb ++ z), rfl, rfl, by omega, by go_num, HGO, HTT, by rw [hsum]; exact hle, hown6, hB4⟩
                case measure => simp [intOf]; omega
              · have HN := Lib.hid (hbig hle)
                clear hgo hbig
                go_wp2_with (first | (go_at_call 47; refine (i_within _ _ _ _).mono ?_; rintro e w' ⟨rfl, rfl⟩) | (go_at_call 63; refine (i_letterOk z _ hzm).mono ?_; rintro e w2 ⟨rfl, hb2⟩; have hown2 := own_below (hown.alloc (.cells #[.int .i64 (b : Int), .string z] 48)) hb2; have p0 := (hb2.cell (by simp)).trans q0; have p1 := (hb2.cell (by simp)).trans q1; have hB2 := (hb.alloc hwr (.cells #[.int .i64 (b : Int), .string z] 48)).trans (hb2.mono (by simp; omega)); have hsz2 := hB2.size; have hBl : wr.heap.size < w2.heap.size := Nat.lt_of_lt_of_le (by simp) hb2.size))
                refine held_tail_norm (S := fun w' => w'.cell? ⟨wr.heap.size, 0, none⟩ = some (.int .i64 (b : Int)) ∧ w'.cell? ⟨wr.heap.size, 1, none⟩ = some (.string z) ∧ w'.cell? ⟨g2, b, none⟩ = some (.string rb)) 9 (by kernel_rfl) (by kernel_rfl) ?_
                intro W5 hst
                have hown5 := hst.owns hown2
                have r0 := (hst.1.cell (p := ⟨wr.heap.size, 0, none⟩) hBl).trans p0
                have r1 := (hst.1.cell (p := ⟨wr.heap.size, 1, none⟩) hBl).trans p1
                have hB5 := hB2.trans (hst.below w.heap.size)
                have hsz5 := hB5.size
                have hBl5 : wr.heap.size < W5.heap.size := Nat.lt_of_lt_of_le hBl hst.1.size
                obtain ⟨_, _, e6, r2⟩ := str_at hown5 (i := b) (by omega)
                cases e6
                rw [← HRB.out] at r2
                have hBg5 := cell_lt r2
                clear hst hown2 p0 p1 q0 q1 hB2
                refine ⟨⟨r0, r1, r2⟩, ?_⟩
                have i1 : (b : Int) < (k : Int) + 1 := by omega
                have i2 : b < k + 1 := by omega
                have i3 : rb.size + z.size ≤ maxLen := by unfold maxLen; omega
                simp only [List.take_succ_cons, List.take_zero, List.drop_succ_cons, List.drop_zero]
                repeat
                  refine wpHeld_cons (v := ?_) (Or.inl ⟨by rfl, ?_⟩) ?_
                  rotate_left
                  · intro W2 hSw
                    obtain ⟨y1, y2, y3⟩ := hSw
                    go_simp
                    try rfl
                  simp only [Act.put, List.setIfInBounds_toArray, List.set_cons_zero, List.set_cons_succ]
                refine wpHeld_cons (v := .string (rb ++ z)) (Or.inl ⟨by rfl, ?_⟩) ?_
                · intro W2 hSw
                  go_simp
                  try omega
                simp only [Act.put, List.setIfInBounds_toArray, List.set_cons_zero, List.set_cons_succ]
                refine wpHeld_nil ?_
                unfold wpOne
                intro K hK
                have HK2 := Lib.hid hK; clear hK
                go_simp
                refine HK2.out _ _ ⟨(World.cell?_alloc_lt _ _ ⟨wr.heap.size, 0, none⟩ hBl5).trans r0, (World.cell?_alloc_lt _ _ ⟨wr.heap.size, 1, none⟩ hBl5).trans r1, (World.cell?_alloc_lt _ _ ⟨g2, b, none⟩ hBg5).trans r2⟩ ?_
                clear HK2 K
                go_wp2_with (at_builtin; refine wpList_append_str rfl _ _ rfl w.heap.size _ (k + 1) (rows.map ofL) (rb ++ z) hown5 rfl rfl (by omega) (by exact hsz5) ?_; intro v' w4 hown4 hgrow4 hb4; have hown6 := HAP.out _ _ hown4; obtain ⟨g4, cap4, rfl, c4⟩ := str_at hown6 (i := k + 1) (by omega); rw [HLR.out] at c4; have hB4 := hB5.trans hb4)
                simp only [QN]
                go_wp2
                go_ret2
                exact ⟨by rw [HN.out]; rfl, hB4⟩
            | false =>
              rw [hlb, Bool.false_or] at hup
              rw [← hz] at hlb hup
              by_cases h0 : z.size = 0
              · have hem : z.toList.isEmpty = true := list_em h0
                by_cases hb1 : 1 ≤ b
                · have d1 : decide ((1 : Int) ≤ b) = true := decide_eq_true (by omega)
                  rw [decide_eq_true h0, decide_eq_true HLAST.out.symm, decide_eq_true hb1, Bool.and_self, Bool.and_self, hz] at hup
                  have hgo := up_go hkp HU.out hup
                  have hbig := up_big hkp HU.out
                  rw [← hx, ← hz, Int.toNat_natCast] at hgo hbig
                  have HAP : Hid (∀ (v' : Value) (w4 : World), w4.ownsRow w.heap.size 9 1 v' (k + 1 + 1) (strs (rows.map ofL ++ [rb ++ z])) → w4.ownsRow w.heap.size 9 1 v' (k + 1 + 1) (strs ((rows ++ [rowAt rows b ++ z.data.toList]).map ofL))) := Lib.hid (fun v' w4 h => by rw [List.map_append]; show w4.ownsRow _ _ _ _ _ (strs (rows.map ofL ++ [ofL (rowAt rows b ++ z.data.toList)])); rw [← ofL_app, ← hrb, ← ofL_of (b := z) rfl]; exact h)
                  have HLR : Hid (ofL (rowAt (rows ++ [rowAt rows b ++ z.data.toList]) (k + 1)) = rb ++ z) := Lib.hid (by rw [show k + 1 = rows.length from hrl.symm, rowAt_last, ← ofL_app, ← hrb, ← ofL_of (b := z) rfl])
                  have HTT : Hid (t ++ (rb ++ z) = ofL (text ++ (rowAt rows b ++ z.data.toList))) := Lib.hid (by rw [hrb, HT.out, ← ofL_app, ← ofL_app, ← ofL_of (b := z) rfl])
                  have hlenT : (text ++ (rowAt rows b ++ z.data.toList)).length = t.size + (rb.size + z.size) := by rw [List.length_append, List.length_append, list_len, hrb, HT.out, ofL_size, ofL_size]
                  rw [hlenT] at hgo hbig
                  have HRB := Lib.hid hrb
                  have hzm : z.size ≤ maxLen := by unfold maxLen; omega
                  clear hrb hlenT hup hx hz hrl
                  obtain ⟨q0, q1⟩ := pair_new wr (.int .i64 (b : Int)) (.string z)
                  obtain ⟨g2, cap2, rfl, cb0⟩ := str_at hown (i := b) (by omega)
                  clear cb0
                  by_cases hle : t.size + (rb.size + z.size) ≤ 40
                  · have HGO := Lib.hid (hgo hle)
                    have hsum : (t ++ (rb ++ z)).size = t.size + (rb.size + z.size) := by rw [ByteArray.size_append, ByteArray.size_append]
                    clear hgo hbig
                    go_wp2_with (first | (go_at_call 47; refine (i_within _ _ _ _).mono ?_; rintro e w' ⟨rfl, rfl⟩) | (go_at_call 63; refine (i_letterOk z _ hzm).mono ?_; rintro e w2 ⟨rfl, hb2⟩; have hown2 := own_below (hown.alloc (.cells #[.int .i64 (b : Int), .string z] 48)) hb2; have p0 := (hb2.cell (by simp)).trans q0; have p1 := (hb2.cell (by simp)).trans q1; have hB2 := (hb.alloc hwr (.cells #[.int .i64 (b : Int), .string z] 48)).trans (hb2.mono (by simp; omega)); have hsz2 := hB2.size; have hBl : wr.heap.size < w2.heap.size := Nat.lt_of_lt_of_le (by simp) hb2.size))
                    refine held_tail_norm (S := fun w' => w'.cell? ⟨wr.heap.size, 0, none⟩ = some (.int .i64 (b : Int)) ∧ w'.cell? ⟨wr.heap.size, 1, none⟩ = some (.string z) ∧ w'.cell? ⟨g2, b, none⟩ = some (.string rb)) 9 (by kernel_rfl) (by kernel_rfl) ?_
                    intro W5 hst
                    have hown5 := hst.owns hown2
                    have r0 := (hst.1.cell (p := ⟨wr.heap.size, 0, none⟩) hBl).trans p0
                    have r1 := (hst.1.cell (p := ⟨wr.heap.size, 1, none⟩) hBl).trans p1
                    have hB5 := hB2.trans (hst.below w.heap.size)
                    have hsz5 := hB5.size
                    have hBl5 : wr.heap.size < W5.heap.size := Nat.lt_of_lt_of_le hBl hst.1.size
                    obtain ⟨_, _, e6, r2⟩ := str_at hown5 (i := b) (by omega)
                    cases e6
                    rw [← HRB.out] at r2
                    have hBg5 := cell_lt r2
                    clear hst hown2 p0 p1 q0 q1 hB2
                    refine ⟨⟨r0, r1, r2⟩, ?_⟩
                    have i1 : (b : Int) < (k : Int) + 1 := by omega
                    have i2 : b < k + 1 := by omega
                    have i3 : rb.size + z.size ≤ maxLen := by unfold maxLen; omega
                    simp only [List.take_succ_cons, List.take_zero, List.drop_succ_cons, List.drop_zero]
                    repeat
                      refine wpHeld_cons (v := ?_) (Or.inl ⟨by rfl, ?_⟩) ?_
                      rotate_left
                      · intro W2 hSw
                        obtain ⟨y1, y2, y3⟩ := hSw
                        go_simp
                        try rfl
                      simp only [Act.put, List.setIfInBounds_toArray, List.set_cons_zero, List.set_cons_succ]
                    refine wpHeld_cons (v := .string (rb ++ z)) (Or.inl ⟨by rfl, ?_⟩) ?_
                    · intro W2 hSw
                      go_simp
                      try omega
                    simp only [Act.put, List.setIfInBounds_toArray, List.set_cons_zero, List.set_cons_succ]
                    refine wpHeld_nil ?_
                    unfold wpOne
                    intro K hK
                    have HK2 := Lib.hid hK; clear hK
                    go_simp
                    refine HK2.out _ _ ⟨(World.cell?_alloc_lt _ _ ⟨wr.heap.size, 0, none⟩ hBl5).trans r0, (World.cell?_alloc_lt _ _ ⟨wr.heap.size, 1, none⟩ hBl5).trans r1, (World.cell?_alloc_lt _ _ ⟨g2, b, none⟩ hBg5).trans r2⟩ ?_
                    clear HK2 K
                    go_wp2_with (at_builtin; refine wpList_append_str rfl _ _ rfl w.heap.size _ (k + 1) (rows.map ofL) (rb ++ z) hown5 rfl rfl (by omega) (by exact hsz5) ?_; intro v' w4 hown4 hgrow4 hb4; have hown6 := HAP.out _ _ hown4; obtain ⟨g4, cap4, rfl, c4⟩ := str_at hown6 (i := k + 1) (by omega); rw [HLR.out] at c4; have hB4 := hB5.trans hb4)
                    simp only [QN]
                    go_wp2
                    go_roundw
                    case rel => exact ⟨k + 1, _, _, _, t ++ (rb ++ z), rfl, rfl, by omega, by go_num, HGO, HTT, by rw [hsum]; exact hle, hown6, hB4⟩
                    case measure => simp [intOf]; omega
                  · have HN := Lib.hid (hbig hle)
                    clear hgo hbig
                    go_wp2_with (first | (go_at_call 47; refine (i_within _ _ _ _).mono ?_; rintro e w' ⟨rfl, rfl⟩) | (go_at_call 63; refine (i_letterOk z _ hzm).mono ?_; rintro e w2 ⟨rfl, hb2⟩; have hown2 := own_below (hown.alloc (.cells #[.int .i64 (b : Int), .string z] 48)) hb2; have p0 := (hb2.cell (by simp)).trans q0; have p1 := (hb2.cell (by simp)).trans q1; have hB2 := (hb.alloc hwr (.cells #[.int .i64 (b : Int), .string z] 48)).trans (hb2.mono (by simp; omega)); have hsz2 := hB2.size; have hBl : wr.heap.size < w2.heap.size := Nat.lt_of_lt_of_le (by simp) hb2.size))
                    refine held_tail_norm (S := fun w' => w'.cell? ⟨wr.heap.size, 0, none⟩ = some (.int .i64 (b : Int)) ∧ w'.cell? ⟨wr.heap.size, 1, none⟩ = some (.string z) ∧ w'.cell? ⟨g2, b, none⟩ = some (.string rb)) 9 (by kernel_rfl) (by kernel_rfl) ?_
                    intro W5 hst
                    have hown5 := hst.owns hown2
                    have r0 := (hst.1.cell (p := ⟨wr.heap.size, 0, none⟩) hBl).trans p0
                    have r1 := (hst.1.cell (p := ⟨wr.heap.size, 1, none⟩) hBl).trans p1
                    have hB5 := hB2.trans (hst.below w.heap.size)
                    have hsz5 := hB5.size
                    have hBl5 : wr.heap.size < W5.heap.size := Nat.lt_of_lt_of_le hBl hst.1.size
                    obtain ⟨_, _, e6, r2⟩ := str_at hown5 (i := b) (by omega)
                    cases e6
                    rw [← HRB.out] at r2
                    have hBg5 := cell_lt r2
                    clear hst hown2 p0 p1 q0 q1 hB2
                    refine ⟨⟨r0, r1, r2⟩, ?_⟩
                    have i1 : (b : Int) < (k : Int) + 1 := by omega
                    have i2 : b < k + 1 := by omega
                    have i3 : rb.size + z.size ≤ maxLen := by unfold maxLen; omega
                    simp only [List.take_succ_cons, List.take_zero, List.drop_succ_cons, List.drop_zero]
                    repeat
                      refine wpHeld_cons (v := ?_) (Or.inl ⟨by rfl, ?_⟩) ?_
                      rotate_left
                      · intro W2 hSw
                        obtain ⟨y1, y2, y3⟩ := hSw
                        go_simp
                        try rfl
                      simp only [Act.put, List.setIfInBounds_toArray, List.set_cons_zero, List.set_cons_succ]
                    refine wpHeld_cons (v := .string (rb ++ z)) (Or.inl ⟨by rfl, ?_⟩) ?_
                    · intro W2 hSw
                      go_simp
                      try omega
                    simp only [Act.put, List.setIfInBounds_toArray, List.set_cons_zero, List.set_cons_succ]
                    refine wpHeld_nil ?_
                    unfold wpOne
                    intro K hK
                    have HK2 := Lib.hid hK; clear hK
                    go_simp
                    refine HK2.out _ _ ⟨(World.cell?_alloc_lt _ _ ⟨wr.heap.size, 0, none⟩ hBl5).trans r0, (World.cell?_alloc_lt _ _ ⟨wr.heap.size, 1, none⟩ hBl5).trans r1, (World.cell?_alloc_lt _ _ ⟨g2, b, none⟩ hBg5).trans r2⟩ ?_
                    clear HK2 K
                    go_wp2_with (at_builtin; refine wpList_append_str rfl _ _ rfl w.heap.size _ (k + 1) (rows.map ofL) (rb ++ z) hown5 rfl rfl (by omega) (by exact hsz5) ?_; intro v' w4 hown4 hgrow4 hb4; have hown6 := HAP.out _ _ hown4; obtain ⟨g4, cap4, rfl, c4⟩ := str_at hown6 (i := k + 1) (by omega); rw [HLR.out] at c4; have hB4 := hB5.trans hb4)
                    simp only [QN]
                    go_wp2
                    go_ret2
                    exact ⟨by rw [HN.out]; rfl, hB4⟩
                · have d1 : decide ((1 : Int) ≤ b) = false := decide_eq_false (by omega)
                  rw [decide_eq_false hb1, Bool.and_false, hz] at hup
                  have HN := Lib.hid (up_bad hkp HU.out hup)
                  clear hup hx hz hrb hrl
                  have hzm : z.size ≤ maxLen := by unfold maxLen; omega
                  go_wp2_with (first | (go_at_call 47; refine (i_within _ _ _ _).mono ?_; rintro e w' ⟨rfl, rfl⟩) | (go_at_call 63; refine (i_letterOk z _ hzm).mono ?_; rintro e w2 ⟨rfl, hb2⟩))
                  go_ret2
                  exact ⟨by rw [HN.out]; rfl, (hb.alloc hwr (.cells #[.int .i64 (b : Int), .string z] 48)).trans (hb2.mono (by simp; omega))⟩
              · have hem : z.toList.isEmpty = false := list_ne (by omega)
                rw [decide_eq_false h0, Bool.false_and, Bool.false_and, hz] at hup
                have HN := Lib.hid (up_bad hkp HU.out hup)
                clear hup hx hz hrb hrl
                have hzm : z.size ≤ maxLen := by unfold maxLen; omega
                go_wp2_with (first | (go_at_call 47; refine (i_within _ _ _ _).mono ?_; rintro e w' ⟨rfl, rfl⟩) | (go_at_call 63; refine (i_letterOk z _ hzm).mono ?_; rintro e w2 ⟨rfl, hb2⟩))
                go_ret2
                exact ⟨by rw [HN.out]; rfl, (hb.alloc hwr (.cells #[.int .i64 (b : Int), .string z] 48)).trans (hb2.mono (by simp; omega))⟩
          · have hkq : ((k : Int) == (ps.length : Int) - 1) = false := by rw [beq_eq_false_iff_ne]; omega
            have hke : ¬ (k : Int) = (ps.length : Int) - 1 := by omega
            cases hlb : letB (ps[k]?.getD prNo).2 with
            | true =>
              rw [hlb, Bool.true_or] at hup
              rw [← hz] at hlb
              have h1 : z.size = 1 := by unfold letB at hlb; rw [Bool.and_eq_true, decide_eq_true_eq] at hlb; exact hlb.1
              have hgo := up_go hkp HU.out hup
              have hbig := up_big hkp HU.out
              rw [← hx, ← hz, Int.toNat_natCast] at hgo hbig
              have HAP : Hid (∀ (v' : Value) (w4 : World), w4.ownsRow w.heap.size 9 1 v' (k + 1 + 1) (strs (rows.map ofL ++ [rb ++ z])) → w4.ownsRow w.heap.size 9 1 v' (k + 1 + 1) (strs ((rows ++ [rowAt rows b ++ z.data.toList]).map ofL))) := Lib.hid (fun v' w4 h => by rw [List.map_append]; show w4.ownsRow _ _ _ _ _ (strs (rows.map ofL ++ [ofL (rowAt rows b ++ z.data.toList)])); rw [← ofL_app, ← hrb, ← ofL_of (b := z) rfl]; exact h)
              have HLR : Hid (ofL (rowAt (rows ++ [rowAt rows b ++ z.data.toList]) (k + 1)) = rb ++ z) := Lib.hid (by rw [show k + 1 = rows.length from hrl.symm, rowAt_last, ← ofL_app, ← hrb, ← ofL_of (b := z) rfl])
              have HTT : Hid (t ++ (rb ++ z) = ofL (text ++ (rowAt rows b ++ z.data.toList))) := Lib.hid (by rw [hrb, HT.out, ← ofL_app, ← ofL_app, ← ofL_of (b := z) rfl])
              have hlenT : (text ++ (rowAt rows b ++ z.data.toList)).length = t.size + (rb.size + z.size) := by rw [List.length_append, List.length_append, list_len, hrb, HT.out, ofL_size, ofL_size]
              rw [hlenT] at hgo hbig
              have HRB := Lib.hid hrb
              have hzm : z.size ≤ maxLen := by unfold maxLen; omega
              clear hrb hlenT hup hx hz hrl
              obtain ⟨q0, q1⟩ := pair_new wr (.int .i64 (b : Int)) (.string z)
              obtain ⟨g2, cap2, rfl, cb0⟩ := str_at hown (i := b) (by omega)
              clear cb0
              by_cases hle : t.size + (rb.size + z.size) ≤ 40
              · have HGO := Lib.hid (hgo hle)
                have hsum : (t ++ (rb ++ z)).size = t.size + (rb.size + z.size) := by rw [ByteArray.size_append, ByteArray.size_append]
                clear hgo hbig
                go_wp2_with (first | (go_at_call 47; refine (i_within _ _ _ _).mono ?_; rintro e w' ⟨rfl, rfl⟩) | (go_at_call 63; refine (i_letterOk z _ hzm).mono ?_; rintro e w2 ⟨rfl, hb2⟩; have hown2 := own_below (hown.alloc (.cells #[.int .i64 (b : Int), .string z] 48)) hb2; have p0 := (hb2.cell (by simp)).trans q0; have p1 := (hb2.cell (by simp)).trans q1; have hB2 := (hb.alloc hwr (.cells #[.int .i64 (b : Int), .string z] 48)).trans (hb2.mono (by simp; omega)); have hsz2 := hB2.size; have hBl : wr.heap.size < w2.heap.size := Nat.lt_of_lt_of_le (by simp) hb2.size))
                refine held_tail_norm (S := fun w' => w'.cell? ⟨wr.heap.size, 0, none⟩ = some (.int .i64 (b : Int)) ∧ w'.cell? ⟨wr.heap.size, 1, none⟩ = some (.string z) ∧ w'.cell? ⟨g2, b, none⟩ = some (.string rb)) 9 (by kernel_rfl) (by kernel_rfl) ?_
                intro W5 hst
                have hown5 := hst.owns hown2
                have r0 := (hst.1.cell (p := ⟨wr.heap.size, 0, none⟩) hBl).trans p0
                have r1 := (hst.1.cell (p := ⟨wr.heap.size, 1, none⟩) hBl).trans p1
                have hB5 := hB2.trans (hst.below w.heap.size)
                have hsz5 := hB5.size
                have hBl5 : wr.heap.size < W5.heap.size := Nat.lt_of_lt_of_le hBl hst.1.size
                obtain ⟨_, _, e6, r2⟩ := str_at hown5 (i := b) (by omega)
                cases e6
                rw [← HRB.out] at r2
                have hBg5 := cell_lt r2
                clear hst hown2 p0 p1 q0 q1 hB2
                refine ⟨⟨r0, r1, r2⟩, ?_⟩
                have i1 : (b : Int) < (k : Int) + 1 := by omega
                have i2 : b < k + 1 := by omega
                have i3 : rb.size + z.size ≤ maxLen := by unfold maxLen; omega
                simp only [List.take_succ_cons, List.take_zero, List.drop_succ_cons, List.drop_zero]
                repeat
                  refine wpHeld_cons (v := ?_) (Or.inl ⟨by rfl, ?_⟩) ?_
                  rotate_left
                  · intro W2 hSw
                    obtain ⟨y1, y2, y3⟩ := hSw
                    go_simp
                    try rfl
                  simp only [Act.put, List.setIfInBounds_toArray, List.set_cons_zero, List.set_cons_succ]
                refine wpHeld_cons (v := .string (rb ++ z)) (Or.inl ⟨by rfl, ?_⟩) ?_
                · intro W2 hSw
                  go_simp
                  try omega
                simp only [Act.put, List.setIfInBounds_toArray, List.set_cons_zero, List.set_cons_succ]
                refine wpHeld_nil ?_
                unfold wpOne
                intro K hK
                have HK2 := Lib.hid hK; clear hK
                go_simp
                refine HK2.out _ _ ⟨(World.cell?_alloc_lt _ _ ⟨wr.heap.size, 0, none⟩ hBl5).trans r0, (World.cell?_alloc_lt _ _ ⟨wr.heap.size, 1, none⟩ hBl5).trans r1, (World.cell?_alloc_lt _ _ ⟨g2, b, none⟩ hBg5).trans r2⟩ ?_
                clear HK2 K
                go_wp2_with (at_builtin; refine wpList_append_str rfl _ _ rfl w.heap.size _ (k + 1) (rows.map ofL) (rb ++ z) hown5 rfl rfl (by omega) (by exact hsz5) ?_; intro v' w4 hown4 hgrow4 hb4; have hown6 := HAP.out _ _ hown4; obtain ⟨g4, cap4, rfl, c4⟩ := str_at hown6 (i := k + 1) (by omega); rw [HLR.out] at c4; have hB4 := hB5.trans hb4)
                simp only [QN]
                go_wp2
                go_roundw
                case rel => exact ⟨k + 1, _, _, _, t ++ (rb ++ z), rfl, rfl, by omega, by go_num, HGO, HTT, by rw [hsum]; exact hle, hown6, hB4⟩
                case measure => simp [intOf]; omega
              · have HN := Lib.hid (hbig hle)
                clear hgo hbig
                go_wp2_with (first | (go_at_call 47; refine (i_within _ _ _ _).mono ?_; rintro e w' ⟨rfl, rfl⟩) | (go_at_call 63; refine (i_letterOk z _ hzm).mono ?_; rintro e w2 ⟨rfl, hb2⟩; have hown2 := own_below (hown.alloc (.cells #[.int .i64 (b : Int), .string z] 48)) hb2; have p0 := (hb2.cell (by simp)).trans q0; have p1 := (hb2.cell (by simp)).trans q1; have hB2 := (hb.alloc hwr (.cells #[.int .i64 (b : Int), .string z] 48)).trans (hb2.mono (by simp; omega)); have hsz2 := hB2.size; have hBl : wr.heap.size < w2.heap.size := Nat.lt_of_lt_of_le (by simp) hb2.size))
                refine held_tail_norm (S := fun w' => w'.cell? ⟨wr.heap.size, 0, none⟩ = some (.int .i64 (b : Int)) ∧ w'.cell? ⟨wr.heap.size, 1, none⟩ = some (.string z) ∧ w'.cell? ⟨g2, b, none⟩ = some (.string rb)) 9 (by kernel_rfl) (by kernel_rfl) ?_
                intro W5 hst
                have hown5 := hst.owns hown2
                have r0 := (hst.1.cell (p := ⟨wr.heap.size, 0, none⟩) hBl).trans p0
                have r1 := (hst.1.cell (p := ⟨wr.heap.size, 1, none⟩) hBl).trans p1
                have hB5 := hB2.trans (hst.below w.heap.size)
                have hsz5 := hB5.size
                have hBl5 : wr.heap.size < W5.heap.size := Nat.lt_of_lt_of_le hBl hst.1.size
                obtain ⟨_, _, e6, r2⟩ := str_at hown5 (i := b) (by omega)
                cases e6
                rw [← HRB.out] at r2
                have hBg5 := cell_lt r2
                clear hst hown2 p0 p1 q0 q1 hB2
                refine ⟨⟨r0, r1, r2⟩, ?_⟩
                have i1 : (b : Int) < (k : Int) + 1 := by omega
                have i2 : b < k + 1 := by omega
                have i3 : rb.size + z.size ≤ maxLen := by unfold maxLen; omega
                simp only [List.take_succ_cons, List.take_zero, List.drop_succ_cons, List.drop_zero]
                repeat
                  refine wpHeld_cons (v := ?_) (Or.inl ⟨by rfl, ?_⟩) ?_
                  rotate_left
                  · intro W2 hSw
                    obtain ⟨y1, y2, y3⟩ := hSw
                    go_simp
                    try rfl
                  simp only [Act.put, List.setIfInBounds_toArray, List.set_cons_zero, List.set_cons_succ]
                refine wpHeld_cons (v := .string (rb ++ z)) (Or.inl ⟨by rfl, ?_⟩) ?_
                · intro W2 hSw
                  go_simp
                  try omega
                simp only [Act.put, List.setIfInBounds_toArray, List.set_cons_zero, List.set_cons_succ]
                refine wpHeld_nil ?_
                unfold wpOne
                intro K hK
                have HK2 := Lib.hid hK; clear hK
                go_simp
                refine HK2.out _ _ ⟨(World.cell?_alloc_lt _ _ ⟨wr.heap.size, 0, none⟩ hBl5).trans r0, (World.cell?_alloc_lt _ _ ⟨wr.heap.size, 1, none⟩ hBl5).trans r1, (World.cell?_alloc_lt _ _ ⟨g2, b, none⟩ hBg5).trans r2⟩ ?_
                clear HK2 K
                go_wp2_with (at_builtin; refine wpList_append_str rfl _ _ rfl w.heap.size _ (k + 1) (rows.map ofL) (rb ++ z) hown5 rfl rfl (by omega) (by exact hsz5) ?_; intro v' w4 hown4 hgrow4 hb4; have hown6 := HAP.out _ _ hown4; obtain ⟨g4, cap4, rfl, c4⟩ := str_at hown6 (i := k + 1) (by omega); rw [HLR.out] at c4; have hB4 := hB5.trans hb4)
                simp only [QN]
                go_wp2
                go_ret2
                exact ⟨by rw [HN.out]; rfl, hB4⟩
            | false =>
              rw [hlb, Bool.false_or, decide_eq_false (p := k + 1 = ps.length) (fun e => hlast e.symm), Bool.and_false, Bool.false_and] at hup
              rw [← hz] at hlb
              have HN := Lib.hid (up_bad hkp HU.out hup)
              clear hup hx hz hrb hrl
              have hzm : z.size ≤ maxLen := by unfold maxLen; omega
              go_wp2_with (first | (go_at_call 47; refine (i_within _ _ _ _).mono ?_; rintro e w' ⟨rfl, rfl⟩) | (go_at_call 63; refine (i_letterOk z _ hzm).mono ?_; rintro e w2 ⟨rfl, hb2⟩))
              go_ret2
              exact ⟨by rw [HN.out]; rfl, (hb.alloc hwr (.cells #[.int .i64 (b : Int), .string z] 48)).trans (hb2.mono (by simp; omega))⟩
        · have hup : upOk ps.length k (ps[k]?.getD prNo).1 (ps[k]?.getD prNo).2.data.toList = false := by
            rw [← hx]; unfold upOk
            by_cases hx0 : 0 ≤ x
            · rw [decide_eq_false (p := x ≤ (k : Int)) (by omega), Bool.and_false, Bool.false_and]
            · rw [decide_eq_false hx0, Bool.false_and, Bool.false_and]
          have hrng : rngB x 0 k = false := by
            unfold rngB
            by_cases hx0 : 0 ≤ x
            · rw [decide_eq_false (p := x ≤ (k : Int)) (by omega), Bool.and_false]
            · rw [decide_eq_false hx0, Bool.false_and]
          have HN := Lib.hid (up_bad hkp HU.out hup)
          have hem := empty_dec z
          clear hup hx hz
          clear hem
          by_cases hlast : ps.length = k + 1
          · have hkq : ((k : Int) == (ps.length : Int) - 1) = true := by rw [hlast]; simp
            have hke : ((k : Int) = (ps.length : Int) - 1) = True := by rw [hlast]; simp
            clear hlast
            cases hem : z.toList.isEmpty
            all_goals go_wp2_with (go_at_call 47; refine (i_within _ _ _ _).mono ?_; rintro e w' ⟨rfl, rfl⟩)
            all_goals (go_ret2; exact ⟨by rw [HN.out]; rfl, hb.alloc hwr (.cells #[.int .i64 x, .string z] 48)⟩)
          have hkq : ((k : Int) == (ps.length : Int) - 1) = false := by rw [beq_eq_false_iff_ne]; omega
          have hke : ¬ (k : Int) = (ps.length : Int) - 1 := by omega
          go_wp2_with (go_at_call 47; refine (i_within _ _ _ _).mono ?_; rintro e w' ⟨rfl, rfl⟩)
          all_goals (go_ret2; exact ⟨by rw [HN.out]; rfl, hb.alloc hwr (.cells #[.int .i64 x, .string z] 48)⟩)
      · obtain rfl : k = n := by omega
        obtain rfl := HL.out
        have HD := Lib.hid (up_done h40 HU.out)
        go_wp2
        go_ret2
        exact ⟨by rw [HD.out, HT.out]; rfl, hb⟩
  · have hd : decide ((40 : Int) < n) = true := decide_eq_true (by omega)
    have HN := Lib.hid (up_long (ps := ps) (by omega))
    go_enter Try.func36, Try.ntmps36
    go_wp2
    go_ret2
    exact ⟨by rw [HN.out]; rfl, Below.refl _ _⟩
end Go.Proofs.Ytkgdifngijeenaa
