/- Slices of rows of ints that a law is handed: eqIntSS, markIntSS, heldIntSS; the walk of the law FnExactOverlapTable. -/
import Derived.Test.YtpabgagfkicobaaTw
namespace Go.Proofs.Ytpabgagfkicobaa
open Go.RowKit
set_option linter.unusedVariables false
theorem RowF.get {W : World} {lo hi N g : Nat} {f : Nat → Value} (h : RowF W lo hi (some ⟨g, 0, none⟩) N f) {j : Nat} (hj : j < N) : W.cell? ⟨g, j, none⟩ = some (f j) ∧ W.frozen? ⟨g, j, none⟩ = false ∧ lo ≤ g ∧ g < hi := by
  obtain ⟨_, e, h1, h2, h3, h4⟩ := h j hj
  cases e
  exact ⟨h3, h4, h1, h2⟩
set_option maxHeartbeats 1000000 in
theorem l_eqIntF (ga gb n ca cb la ha lb hi2 : Nat) (T : Nat → Int) (w : World) (hle : n ≤ 1048576) (ra : RowF w la ha (some ⟨ga, 0, none⟩) n (intF T)) (rb : RowF w lb hi2 (some ⟨gb, 0, none⟩) n (intF T)) :
    Calls Try.prog 41 #[.slice (some ⟨ga, 0, none⟩) n ca, .slice (some ⟨gb, 0, none⟩) n cb] w fun e w' => e = .returned (.bool true) ∧ ∃ q, w' = w.drewN q := by
  go_enter Try.func41, Try.ntmps41
  go_wp2
  go_loopw [5] (fun i wr => ∃ k q : Nat, k ≤ n ∧ i = .int .i64 k ∧ wr = w.drewN q) (fun i _ => n - (intOf i).toNat)
  case atStart => exact ⟨0, 0, Nat.zero_le _, rfl, rfl⟩
  case round =>
    obtain ⟨k, q, hk, rfl, rfl⟩ := hrel
    by_cases hlt : k < n
    · have a1 := ra.get hlt
      have b1 := rb.get hlt
      obtain ⟨a1, _⟩ := a1
      obtain ⟨b1, _⟩ := b1
      unfold intF at a1 b1
      have e1 : (k : Int) < n := by omega
      go_wp2
      go_quiet (fail)
      go_wp2
      go_roundw
      case rel => exact ⟨k + 1, q + nq, by omega, by go_num, rfl⟩
      case measure => simp [intOf]; omega
    · go_wp2
      go_ret
      exact ⟨rfl, q, rfl⟩
set_option maxHeartbeats 1000000 in
theorem l_eqIntSS (pa pb : Option Addr) (n m ca cb la ha lb hi2 : Nat) (T : Nat → Nat → Int) (ps qs : List (Nat × Nat)) (w : World) (hle : n ≤ 1048576) (hlm : m ≤ 1048576) (ra : TabR w la ha pa ps n m T) (rb : TabR w lb hi2 pb qs n m T) :
    Calls Try.prog 19 #[.slice pa n ca, .slice pb n cb] w fun e w' => e = .returned (.bool true) ∧ Below w.heap.size w w' := by
  go_enter Try.func19, Try.ntmps19
  go_wp2
  go_loopw [5] (fun i wr => ∃ k : Nat, k ≤ n ∧ i = .int .i64 k ∧ Below w.heap.size w wr) (fun i _ => n - (intOf i).toNat)
  case atStart => exact ⟨0, Nat.zero_le _, rfl, Below.refl _ _⟩
  case round =>
    obtain ⟨k, hk, rfl, hb⟩ := hrel
    by_cases hlt : k < n
    · have ra2 := ra.kept hb
      have rb2 := rb.kept hb
      obtain ⟨p, hp⟩ : ∃ p, ps[k]? = some p := ⟨_, List.getElem?_eq_getElem (by rw [ra.1]; exact hlt)⟩
      obtain ⟨q, hq⟩ : ∃ q, qs[k]? = some q := ⟨_, List.getElem?_eq_getElem (by rw [rb.1]; exact hlt)⟩
      obtain ⟨⟨g1, rfl, _, _, _, a4⟩, _, _, hra⟩ := ra2.2.2 k p hp
      obtain ⟨⟨g2, rfl, _, _, _, b4⟩, _, _, hrb⟩ := rb2.2.2 k q hq
      unfold rowV at a4 b4
      have HA := Lib.hid hra; have HB := Lib.hid hrb
      have e1 : (k : Int) < n := by omega
      clear ra rb ra2 rb2 hra hrb hp hq
      go_wp2
      go_quiet ((go_at_call 41; exact Calls.quiet_of (l_eqIntF p.1 q.1 m p.2 q.2 _ _ _ _ (T k) _ hlm (HA.out.kept (below_drewN (Below.refl _ _) _)) (HB.out.kept (below_drewN (Below.refl _ _) _)))))
      go_wp2
      go_roundw
      case rel => exact ⟨k + 1, by omega, by go_num, below_drewN hb _⟩
      case measure => simp [intOf]; omega
    · go_wp2
      go_ret
      exact ⟨rfl, hb⟩
def markF (z : Int) (j : Nat) : Int := z + j
def mixI (k : Nat) (f g : Nat → Value) (t : Nat) : Value := if t < k then f t else g t
theorem mixI_step {k : Nat} {g f : Nat → Value} {v : Value} (h0 : v = f k) (t : Nat) : updF (mixI k f g) k v t = mixI (k + 1) f g t := mixS_step h0 t
set_option maxHeartbeats 1000000 in
theorem l_markIntF (g n ca : Nat) (z : Int) (f : Nat → Value) (w : World) (hle : n ≤ 1048576) (hz0 : 0 ≤ z) (hz1 : z ≤ 1048576) (hint : ∀ j, j < n → ∃ x, f j = .int .i64 x) (ra : RowF w g (g + 1) (some ⟨g, 0, none⟩) n f) :
    Calls Try.prog 42 #[.slice (some ⟨g, 0, none⟩) n ca, .int .i64 z] w fun e w' => e = .returned (.int .i64 (z + n)) ∧ OnlyF g (g + 1) w w' ∧ RowF w' g (g + 1) (some ⟨g, 0, none⟩) n (intF (markF z)) := by
  go_enter Try.func42, Try.ntmps42
  go_wp2
  go_loopw [1, 5] (fun m i wr => ∃ k : Nat, k ≤ n ∧ i = .int .i64 k ∧ m = .int .i64 (z + k) ∧ OnlyF g (g + 1) w wr ∧ RowF wr g (g + 1) (some ⟨g, 0, none⟩) n (mixS k (intF (markF z)) f)) (fun _ i _ => n - (intOf i).toNat)
  case atStart => exact ⟨0, Nat.zero_le _, rfl, by simp, OnlyF.refl _ _ _, ra.congr fun i _ => (mixS_none _ _ _).symm⟩
  case round =>
    obtain ⟨k, hk, rfl, rfl, hb, hr⟩ := hrel
    by_cases hlt : k < n
    · have e1 : (k : Int) < n := by omega
      obtain ⟨c0, f0, _, _⟩ := hr.get hlt
      have r5 := (hr.set (j := k) hlt (.int .i64 (z + k))).congr fun t _ => mixS_step (f := intF (markF z)) (g := f) rfl t
      have b4 := hb.setCell (Nat.le_refl _) (Nat.lt_succ_self g) (i := k) (.int .i64 (z + k))
      have H5 := Lib.hid r5
      clear r5 hb hr hint
      go_wp2
      go_roundw
      case rel => exact ⟨k + 1, by omega, by go_num, by go_num, b4, H5.out⟩
      case measure => simp [intOf]; omega
    · obtain rfl : k = n := by omega
      go_wp2
      go_ret
      exact ⟨rfl, hb, hr.congr fun i hi => mixS_all hi⟩
set_option maxHeartbeats 1000000 in
theorem l_heldIntF (g n ca lo hi : Nat) (z : Int) (w : World) (hle : n ≤ 1048576) (hz0 : 0 ≤ z) (hz1 : z ≤ 1048576) (ra : RowF w lo hi (some ⟨g, 0, none⟩) n (intF (markF z))) :
    Calls Try.prog 43 #[.slice (some ⟨g, 0, none⟩) n ca, .int .i64 z] w fun e w' => e = .returned (.int .i64 (z + n)) ∧ w = w' := by
  go_enter Try.func43, Try.ntmps43
  go_wp2
  go_loop [1, 5] (fun m i => ∃ k : Nat, k ≤ n ∧ i = .int .i64 k ∧ m = .int .i64 (z + k)) (fun _ i => n - (intOf i).toNat)
  case atStart => exact ⟨0, Nat.zero_le _, rfl, by simp⟩
  case round =>
    obtain ⟨k, hk, rfl, rfl⟩ := hrel
    by_cases hlt : k < n
    · obtain ⟨c0, _⟩ := ra.get hlt
      unfold intF markF at c0
      have e1 : (k : Int) < n := by omega
      go_wp2
      go_round
      case rel => exact ⟨k + 1, by omega, by go_num, by go_num⟩
      case measure => simp [intOf]; omega
    · obtain rfl : k = n := by omega
      go_wp2
      go_ret
      exact ⟨rfl, rfl⟩
theorem OnlyF.into {lo hi a b : Nat} {w w1 w2 : World} (h : OnlyF lo hi w w1) (k : OnlyF a b w1 w2) (h1 : lo ≤ a) (h2 : b ≤ hi) : OnlyF lo hi w w2 :=
  ⟨k.1.trans h.1, k.2.1.trans h.2.1, k.2.2.1.trans h.2.2.1, Nat.le_trans h.2.2.2.1 k.2.2.2.1, fun j hj ho => (k.2.2.2.2 j (Nat.lt_of_lt_of_le hj h.2.2.2.1) (by omega)).trans (h.2.2.2.2 j hj ho)⟩
theorem TabR.marked {W W' : World} {lo hi : Nat} {pa : Option Addr} {ps : List (Nat × Nat)} {n m k : Nat} {T : Nat → Nat → Int} {p : Nat × Nat} {f : Nat → Int} (h : TabR W lo hi pa ps n m T) (hp : ps[k]? = some p) (ho : OnlyF p.1 (p.1 + 1) W W')
    (hr : RowF W' p.1 (p.1 + 1) (some ⟨p.1, 0, none⟩) m (intF f)) : TabR W' lo hi pa ps n m (fun i => if i = k then f else T i) :=
  ⟨h.1, h.2.1, fun i q hq => by
    obtain ⟨⟨gT, e, a1, a2, a3, a4⟩, b1, b2, b3⟩ := h.2.2 i q hq
    obtain ⟨⟨gT', e', a1', _⟩, _⟩ := h.2.2 k p hp
    rw [e] at e'; cases e'
    refine ⟨⟨gT, e, a1, a2, a3, ?_⟩, b1, b2, ?_⟩
    · exact (World.cell?_of_block (a := ⟨gT, i, none⟩) (ho.2.2.2.2 gT (cell_lt a4) (by omega))).trans a4
    · by_cases hik : i = k
      · subst hik
        rw [hp] at hq; cases hq
        simp only [if_pos]; exact hr
      · simp only [if_neg hik]
        have hne : q.1 ≠ p.1 := fun e2 => hik (nodup_get h.2.1 (g := q.1) (by rw [List.getElem?_map, hq]; rfl) (by rw [List.getElem?_map, hp, e2]; rfl))
        exact ho.row b3 (by omega)⟩
theorem TabR.congr {W : World} {lo hi : Nat} {pa : Option Addr} {ps : List (Nat × Nat)} {n m : Nat} {T T' : Nat → Nat → Int} (h : TabR W lo hi pa ps n m T) (he : ∀ i j, i < n → T i j = T' i j) : TabR W lo hi pa ps n m T' :=
  ⟨h.1, h.2.1, fun i q hq => by
    obtain ⟨a, b1, b2, b3⟩ := h.2.2 i q hq
    exact ⟨a, b1, b2, b3.congr fun j _ => by unfold intF; rw [he i j (by have := (List.getElem?_eq_some_iff.1 hq).1; rw [h.1] at this; exact this)]⟩⟩
theorem OnlyF.tab {lo hi lo2 hi2 : Nat} {w w' : World} (h : OnlyF lo hi w w') {pa : Option Addr} {ps : List (Nat × Nat)} {n m : Nat} {T : Nat → Nat → Int} (ht : TabR w lo2 hi2 pa ps n m T) (ha : hi2 ≤ lo ∨ hi ≤ lo2) : TabR w' lo2 hi2 pa ps n m T :=
  ⟨ht.1, ht.2.1, fun i q hq => by
    obtain ⟨⟨gT, e, a1, a2, a3, a4⟩, b1, b2, b3⟩ := ht.2.2 i q hq
    exact ⟨⟨gT, e, a1, a2, a3, (World.cell?_of_block (a := ⟨gT, i, none⟩) (h.2.2.2.2 gT (cell_lt a4) (by omega))).trans a4⟩, b1, b2, h.row b3 (by omega)⟩⟩
/-- The marks of rows, row by row. -/
def markT2 (m i j : Nat) : Int := markF ((1 : Int) + (i * m : Nat)) j
def mixT2 (k m : Nat) (T : Nat → Nat → Int) (i : Nat) : Nat → Int := if i < k then markT2 m i else T i
theorem mixT2_step (k m : Nat) (T : Nat → Nat → Int) (i j : Nat) : (if i = k then markF ((1 : Int) + (k * m : Nat)) else mixT2 k m T i) j = mixT2 (k + 1) m T i j := by
  unfold mixT2
  by_cases h : i = k
  · subst h; rw [if_pos rfl, if_pos (by omega)]; rfl
  · rw [if_neg h]
    by_cases h2 : i < k
    · rw [if_pos h2, if_pos (by omega)]
    · rw [if_neg h2, if_neg (by omega)]
set_option maxHeartbeats 1000000 in
theorem l_markIntSS (pa : Option Addr) (n m ca lo hi : Nat) (T : Nat → Nat → Int) (ps : List (Nat × Nat)) (w : World) (hle : n ≤ 1000) (hlm : m ≤ 1000) (hnm : n * m ≤ 1000) (ra : TabR w lo hi pa ps n m T) :
    Calls Try.prog 20 #[.slice pa n ca, .int .i64 1] w fun e w' => e = .returned (.int .i64 ((1 : Int) + (n * m : Nat))) ∧ OnlyF lo hi w w' ∧ TabR w' lo hi pa ps n m (markT2 m) := by
  have HN := Lib.hid hnm; clear hnm
  go_enter Try.func20, Try.ntmps20
  go_wp2
  go_loopw [1, 5] (fun z i wr => ∃ k : Nat, k ≤ n ∧ i = .int .i64 k ∧ z = .int .i64 ((1 : Int) + (k * m : Nat)) ∧ OnlyF lo hi w wr ∧ TabR wr lo hi pa ps n m (mixT2 k m T)) (fun _ i _ => n - (intOf i).toNat)
  case atStart => exact ⟨0, Nat.zero_le _, rfl, by simp, OnlyF.refl _ _ _, ra.congr fun i j _ => by unfold mixT2; rw [if_neg (by omega)]⟩
  case round =>
    obtain ⟨k, hk, rfl, rfl, hb, hr⟩ := hrel
    by_cases hlt : k < n
    · have e1 : (k : Int) < n := by omega
      obtain ⟨p, hp⟩ : ∃ p, ps[k]? = some p := ⟨_, List.getElem?_eq_getElem (by rw [hr.1]; exact hlt)⟩
      obtain ⟨⟨g1, rfl, _, _, _, a4⟩, b1, b2, hra⟩ := hr.2.2 k p hp
      have HR := Lib.hid hr
      have HA := Lib.hid hra
      have HP := Lib.hid hp
      unfold rowV at a4
      obtain ⟨z, hz⟩ : ∃ z : Nat, z = k * m := ⟨_, rfl⟩
      have hz1 : z + m ≤ 1000 := by
        have h1 : (k + 1) * m ≤ n * m := Nat.mul_le_mul_right m hlt
        have h2 := HN.out
        rw [Nat.succ_mul] at h1; omega
      have HZ1 : Hid ((k + 1) * m = z + m) := Lib.hid (by rw [Nat.succ_mul, hz])
      rw [← hz]
      have HZ := Lib.hid hz
      clear ra hr hra hp hz
      go_wp2_with fail
      refine (l_markIntF p.1 m p.2 ((1 : Int) + z) (intF (mixT2 k m T k)) _ (by omega) (by omega) (by omega) (fun j _ => ⟨_, rfl⟩) HA.out).mono ?_; rintro e w5 ⟨rfl, ho5, hr5⟩
      have hr6 := Lib.hid ((HR.out.marked HP.out ho5 hr5).congr (T' := mixT2 (k + 1) m T) fun i j _ => by rw [← mixT2_step, HZ.out])
      have hB6 := hb.into ho5 b1 b2
      clear hb ho5 hr5
      go_wp2
      go_roundw
      case rel => exact ⟨k + 1, by omega, by go_num, by rw [HZ1.out]; go_num, hB6, hr6.out⟩
      case measure => simp [intOf]; omega
    · obtain rfl : k = n := by omega
      have HR := Lib.hid (hr.congr (T' := markT2 m) fun i j hi => by unfold mixT2; rw [if_pos hi])
      clear hr ra
      go_wp2
      go_ret
      exact ⟨rfl, hb, HR.out⟩
set_option maxHeartbeats 1000000 in
theorem l_heldIntSS (pa : Option Addr) (n m ca lo hi : Nat) (ps : List (Nat × Nat)) (w : World) (hle : n ≤ 1000) (hlm : m ≤ 1000) (hnm : n * m ≤ 1000) (ra : TabR w lo hi pa ps n m (markT2 m)) :
    Calls Try.prog 21 #[.slice pa n ca, .int .i64 1] w fun e w' => e = .returned (.int .i64 ((1 : Int) + (n * m : Nat))) ∧ w = w' := by
  have HN := Lib.hid hnm; clear hnm
  have HR := Lib.hid ra
  have hlen := ra.1
  clear ra
  have HLN := Lib.hid hlen; clear hlen
  go_enter Try.func21, Try.ntmps21
  go_wp2
  go_loop [1, 5] (fun z i => ∃ k : Nat, k ≤ n ∧ i = .int .i64 k ∧ z = .int .i64 ((1 : Int) + (k * m : Nat))) (fun _ i => n - (intOf i).toNat)
  case atStart => exact ⟨0, Nat.zero_le _, rfl, by simp⟩
  case round =>
    obtain ⟨k, hk, rfl, rfl⟩ := hrel
    by_cases hlt : k < n
    · have e1 : (k : Int) < n := by omega
      obtain ⟨p, hp⟩ : ∃ p, ps[k]? = some p := ⟨_, List.getElem?_eq_getElem (by rw [HLN.out]; exact hlt)⟩
      obtain ⟨⟨g1, rfl, _, _, _, a4⟩, _, _, hra⟩ := HR.out.2.2 k p hp
      have HA := Lib.hid hra
      unfold rowV at a4
      obtain ⟨z, hz⟩ : ∃ z : Nat, z = k * m := ⟨_, rfl⟩
      have hz1 : z + m ≤ 1000 := by
        have h1 : (k + 1) * m ≤ n * m := Nat.mul_le_mul_right m hlt
        have h2 := HN.out
        rw [Nat.succ_mul] at h1; omega
      have HZ1 : Hid ((k + 1) * m = z + m) := Lib.hid (by rw [Nat.succ_mul, hz])
      have HA2 : Hid (RowF w p.1 (p.1 + 1) (some ⟨p.1, 0, none⟩) m (intF (markF ((1 : Int) + z)))) := Lib.hid (by rw [hz]; exact HA.out)
      rw [← hz]
      have HZ := Lib.hid hz
      clear hra hp hz
      go_wp2_with fail
      refine (l_heldIntF p.1 m p.2 _ _ ((1 : Int) + z) _ (by omega) (by omega) (by omega) HA2.out).mono ?_; rintro e w5 ⟨rfl, rfl⟩
      go_wp2
      go_round
      case rel => exact ⟨k + 1, by omega, by go_num, by rw [HZ1.out]; go_num⟩
      case measure => simp [intOf]; omega
    · obtain rfl : k = n := by omega
      go_wp2
      go_ret
      exact ⟨rfl, rfl⟩
end Go.Proofs.Ytpabgagfkicobaa
