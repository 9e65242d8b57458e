/- The walks of phrases, the reference's and the program's: slices of structs of three fields. -/
import Derived.Test.YtkgdifngijeenaaPs
import Derived.Test.YtkgdifngijeenaaFw
namespace Go.Proofs.Ytkgdifngijeenaa
open Go.RowKit
set_option linter.unusedVariables false

abbrev PhP := Int × Int × ByteArray
def phCells (p : PhP) : List Value := [.int .i64 p.1, .int .i64 p.2.1, .string p.2.2]
def phFld (j : Nat) (p : PhP) : Value := match j with | 0 => .int .i64 p.1 | 1 => .int .i64 p.2.1 | _ => .string p.2.2
def phNo : PhP := (0, 0, ⟨#[]⟩)
def phF (ps : List PhP) : Nat → Value := stF 3 phFld phNo ps
theorem phCells_len (p : PhP) : (phCells p).length = 3 := rfl
theorem phCells_get (p : PhP) (j : Nat) (hj : j < 3) : (phCells p)[j]? = some (phFld j p) := by
  match j, hj with
  | 0, _ => rfl
  | 1, _ => rfl
  | 2, _ => rfl
theorem info_ph : (Try.prog.info? 59).map (fun i => (i.zero, i.size, i.bytes)) = some (some (.agg #[.int .i64 0, .int .i64 0, .string ⟨#[]⟩]), 3, 32) := by kernel_rfl
theorem three_new (w : World) (a b c : Value) (t : TypeId) (j : Nat) (u : Value) (h : [a, b, c][j]? = some u) : (w.alloc (.cells #[a, b, c] t)).cell? ((⟨w.heap.size, 0, none⟩ : Addr).add j) = some u := by
  have hl := heap_alloc_new w (.cells #[a, b, c] t)
  have ha : (⟨w.heap.size, 0, none⟩ : Addr).add j = ⟨w.heap.size, j, none⟩ := by cases j <;> simp [Addr.add]
  rw [ha, World.cell?, hl]
  simp only
  rw [← h]
  match j with
  | 0 => rfl
  | 1 => rfl
  | 2 => rfl
  | j + 3 => simp at h
theorem wpList_append_ph {ops : Array Oper} {rest : List Oper} {o : Oper} {a : Act} {Q : Exit → Act → World → Prop} {w : World} (hgd : o.guard = none) (s x : Operand)
    (ho : o.op = .call { callee := .builtin .append, args := #[s, x], argTypes := #[33, 33] })
    (lo : Nat) (v : Value) (n : Nat) (ps : List PhP) (p : PhP) (hown : w.ownsRow lo 59 3 v n (ps.flatMap phCells)) (hs : a.eval s = v)
    (hx : a.eval x = .slice (some ⟨w.heap.size, 0, none⟩) 1 1) (hn : n ≤ 1048576) (hlo : lo ≤ w.heap.size)
    (h : ∀ v' w', w'.ownsRow lo 59 3 v' (n + 1) ((ps ++ [p]).flatMap phCells) → (w.alloc (.cells #[.int .i64 p.1, .int .i64 p.2.1, .string p.2.2] 59)).grownBy w' v.ownBlock → Below lo w w' → wpList Try.prog ops Q rest (a.put o.dst v') w') :
    wpList Try.prog ops Q (o :: rest) a (w.alloc (.cells #[.int .i64 p.1, .int .i64 p.2.1, .string p.2.2] 59)) := by
  obtain ⟨i0, hi, hz0, hz1, hz2⟩ := info_parts info_ph
  refine wpList_append_own _ hgd s x 33 ho lo 59 i0 _ 3 32 Try.underlying33 hi hz0 hz1 hz2 rfl (by decide) v n _ hs (hown.alloc _) ⟨w.heap.size, 0, none⟩ 1 1 (phCells p) hx rfl (three_new _ _ _ _ _) ?_ (by unfold maxLen; omega) (by omega) (by simp; omega) ?_
  · intro u hu
    simp only [phCells, List.mem_cons, List.not_mem_nil, or_false] at hu
    rcases hu with rfl | rfl | rfl <;> rfl
  · intro v' w' h1 h2 _
    refine h v' w' (by rw [List.flatMap_append, List.flatMap_singleton]; exact h1) h2 (((Below.refl lo w).alloc hlo _).grown h2 (by simp; omega) (fun k e => (hown.lt k e).1))

/-- The phrase at a place; how many letters it has. -/
def phrAt (s : ByteArray) (p : Nat) : PhP := if (best s.data.toList p).2 = 0 then (-1, 1, s.extract p (p + 1)) else ((best s.data.toList p).1, ((best s.data.toList p).2 : Nat), ⟨#[]⟩)
def phLen (s : ByteArray) (p : Nat) : Nat := if (best s.data.toList p).2 = 0 then 1 else (best s.data.toList p).2
def phTo (s : ByteArray) : Nat → Nat × List PhP
  | 0 => (0, [])
  | n + 1 => if (phTo s n).1 < s.size then ((phTo s n).1 + phLen s (phTo s n).1, (phTo s n).2 ++ [phrAt s (phTo s n).1]) else phTo s n
def phrasesL (s : ByteArray) : List PhP := (phTo s s.size).2
theorem phTo_go {s : ByteArray} {n p : Nat} {ps : List PhP} (h : phTo s n = (p, ps)) (hp : p < s.size) : phTo s (n + 1) = (p + phLen s p, ps ++ [phrAt s p]) := by
  rw [phTo, h, if_pos hp]
theorem phTo_stay {s : ByteArray} {n : Nat} (h : ¬ (phTo s n).1 < s.size) (k : Nat) : phTo s (n + k) = phTo s n := by
  induction k with
  | zero => rfl
  | succ k ih => rw [← Nat.add_assoc, phTo, ih, if_neg h]
theorem phLen_pos (s : ByteArray) (p : Nat) : 1 ≤ phLen s p := by unfold phLen; split <;> omega
theorem phLen_le {s : ByteArray} {p : Nat} (hp : p < s.size) : p + phLen s p ≤ s.size := by
  have := bestTo_le s.data.toList p p
  rw [list_len] at this
  unfold phLen; split
  · omega
  · unfold best at *; omega
theorem phTo_facts (s : ByteArray) (n : Nat) : (phTo s n).1 ≤ s.size ∧ (phTo s n).2.length ≤ (phTo s n).1 ∧ (n ≤ (phTo s n).1 ∨ (phTo s n).1 = s.size) := by
  induction n with
  | zero => exact ⟨Nat.zero_le _, Nat.le_refl _, .inl (Nat.le_refl _)⟩
  | succ n ih =>
    by_cases h : (phTo s n).1 < s.size
    · rw [phTo_go rfl h]
      have h1 := phLen_pos s (phTo s n).1
      have h2 := phLen_le h
      refine ⟨h2, ?_, ?_⟩
      · show (_ ++ [_]).length ≤ _; rw [List.length_append, List.length_singleton]; show _ ≤ (phTo s n).1 + _; omega
      · show _ ≤ (phTo s n).1 + _ ∨ (phTo s n).1 + _ = _; omega
    · have e : phTo s (n + 1) = phTo s n := phTo_stay h 1
      rw [e]; exact ⟨ih.1, ih.2.1, .inr (by omega)⟩
theorem phTo_end {s : ByteArray} {n : Nat} (h : ¬ (phTo s n).1 < s.size) : (phTo s n).2 = phrasesL s := by
  have hs := phTo_facts s s.size
  have hd : ¬ (phTo s s.size).1 < s.size := by omega
  unfold phrasesL
  rcases Nat.le_total n s.size with hl | hl
  · have := phTo_stay h (s.size - n); rw [show n + (s.size - n) = s.size by omega] at this; rw [this]
  · have := phTo_stay hd (n - s.size); rw [show s.size + (n - s.size) = n by omega] at this; rw [this]
/-- The call hands back a new slice of phrases. -/
def RetPh (ps : List PhP) (w : World) (e : Ending) (w' : World) : Prop :=
  ∃ pa n ca, e = .returned (.slice pa n ca) ∧ Hid (ps.length = n) ∧ n ≤ 1048576 ∧ RowF w' w.heap.size w'.heap.size pa (n * 3) (phF ps) ∧ Below w.heap.size w w'
theorem RetPh.of_owns {w w' : World} {lo n : Nat} {v : Value} {ps : List PhP} (h : w'.ownsRow lo 59 3 v n (ps.flatMap phCells)) (hl : ps.length = n) (hlo : w.heap.size ≤ lo) (hn : n ≤ 1048576) (hb : Below w.heap.size w w') :
    ∃ pa ca, v = .slice pa n ca ∧ n ≤ ca ∧ ca ≤ maxLen ∧ ∀ ca', RetPh ps w (.returned (.slice pa n ca')) w' := by
  obtain ⟨pa, cap, e, h1, h2, h3⟩ := RowF.of_owns phFld phNo ps h (fun i hi => cells_get phCells phFld phNo (by decide) phCells_len phCells_get ps i (by rw [hl]; exact hi))
  exact ⟨pa, cap, e, h1, h2, fun ca' => ⟨pa, n, ca', rfl, Lib.hid hl, hn, h3.mono hlo (Nat.le_refl _), hb⟩⟩
theorem ph_made (w : World) : (w.alloc (.cells #[] 59)).ownsRow w.heap.size 59 3 (.slice (some ⟨w.heap.size, 0, none⟩) 0 0) 0 (([] : List PhP).flatMap phCells) :=
  World.ownsRow_made (base := w.heap.size) (e := 59) (size := 3) w #[] 0 (Nat.le_refl _) (by decide) rfl

set_option maxHeartbeats 2000000 in
theorem s_phrases (s : ByteArray) (w : World) (hs : s.size ≤ 40) : Calls Try.prog 56 #[.string s] w (RetPh (phrasesL s) w) := by
  go_enter Try.func56, Try.ntmps56
  go_wp2
  go_loopw [3, 4, 5, 6] (fun v a _ _ wr => ∃ (n p : Nat) (ps : List PhP), Hid (phTo s n = (p, ps)) ∧ a = .int .i64 p ∧ p ≤ s.size ∧ ps.length ≤ p ∧ wr.ownsRow w.heap.size 59 3 v ps.length (ps.flatMap phCells) ∧ Below w.heap.size w wr) (fun _ a _ _ _ => s.size - (intOf a).toNat)
  case atStart => exact ⟨0, 0, [], Lib.hid rfl, rfl, Nat.zero_le _, Nat.le_refl _, ph_made w, (Below.refl _ _).alloc (Nat.le_refl _) _⟩
  case round =>
    obtain ⟨n, p, ps, HP, rfl, hp, hl, hown, hb⟩ := hrel
    have hwr := hb.size
    by_cases hlt : p < s.size
    · have hgo := phTo_go HP.out hlt
      have h1 := phLen_pos s p
      have h2 := phLen_le hlt
      unfold phrAt at hgo
      have HGO := Lib.hid hgo; clear hgo
      go_wp2_with fail
      refine (s_longest s p _ hs (by omega)).mono ?_; rintro e w2 ⟨rfl, hst⟩
      have hown2 := hst.owns hown
      have hb2 := hb.trans (hst.below w.heap.size)
      have hwr2 := hb2.size
      clear hst hown hb
      obtain ⟨f, hf⟩ : ∃ f, f = (best s.data.toList p).1 := ⟨_, rfl⟩
      obtain ⟨c, hc⟩ : ∃ c, c = (best s.data.toList p).2 := ⟨_, rfl⟩
      have HGO2 := HGO.out
      rw [← hf, ← hc] at HGO2
      have hlen : phLen s p = if c = 0 then 1 else c := by unfold phLen; rw [← hc]
      rw [← hf, ← hc]
      by_cases h0 : c = 0
      · rw [if_pos h0] at hlen HGO2
        rw [hlen] at h2 HGO2
        have H2 := Lib.hid HGO2
        have hc0 : ((c : Int) == 0) = true := by rw [beq_iff_eq]; omega
        clear HGO2 hlen hf hc h0 h1 HGO
        go_wp2_with (at_builtin; refine wpList_append_ph rfl _ _ rfl w.heap.size _ ps.length ps (-1, 1, s.extract p (p + 1)) hown2 rfl rfl (by omega) (by exact hwr2) ?_; intro v' w3 hown3 hgrow3 hb3)
        go_roundw
        case rel => exact ⟨n + 1, p + 1, _, H2, by go_num, h2, by rw [List.length_append, List.length_singleton]; omega, by rw [List.length_append, List.length_singleton]; exact hown3, hb2.trans hb3⟩
        case measure => simp [intOf]; omega
      · rw [if_neg h0] at hlen HGO2
        rw [hlen] at h2 HGO2 h1
        have H2 := Lib.hid HGO2
        have hc0 : ((c : Int) == 0) = false := by rw [beq_eq_false_iff_ne]; omega
        clear HGO2 hlen hf hc h0 HGO
        go_wp2_with (at_builtin; refine wpList_append_ph rfl _ _ rfl w.heap.size _ ps.length ps (f, (c : Nat), ⟨#[]⟩) hown2 rfl rfl (by omega) (by exact hwr2) ?_; intro v' w3 hown3 hgrow3 hb3)
        go_roundw
        case rel => exact ⟨n + 1, p + c, _, H2, by go_num, h2, by rw [List.length_append, List.length_singleton]; omega, by rw [List.length_append, List.length_singleton]; exact hown3, hb2.trans hb3⟩
        case measure => simp [intOf]; omega
    · have he : ps = phrasesL s := by
        have := phTo_end (s := s) (n := n) (by rw [HP.out]; exact hlt)
        rw [HP.out] at this; exact this
      obtain ⟨pa, ca, rfl, _, _, hret⟩ := RetPh.of_owns hown rfl (Nat.le_refl _) (by omega) hb
      rw [he] at hret
      have hret := hret ca
      rw [← he] at hret
      have HR := Lib.hid hret
      have HE := Lib.hid he
      clear hret he
      go_wp2
      go_ret
      rw [← HE.out]
      exact HR.out
theorem own_setB {W : World} {lo B : Nat} {e : TypeId} {m n : Nat} {v : Value} {xs : List Value} (h : W.ownsRow lo e m v n xs) (hne : ∀ k, v.ownBlock = some k → k ≠ B) (i : Nat) (u : Value) : (W.setCell ⟨B, i, none⟩ u).ownsRow lo e m v n xs := by
  refine h.kept (row := some B) ⟨rfl, rfl, rfl, by rw [World.size_setCell]; exact Nat.le_refl _, fun k _ hk => Below.heap_setCell _ _ _ _ (fun e => hk (by rw [e]))⟩ ?_
  cases hv : v.ownBlock with
  | none => exact .inl rfl
  | some g => exact .inr (fun e => hne g hv (by cases e; rfl))
set_option maxHeartbeats 400000 in
theorem l_ClipPh (pa : Option Addr) (n ca : Nat) (w : World) (h1 : n ≤ ca) (h2 : ca ≤ maxLen) :
    Calls Try.prog 70 #[.slice pa n ca] w fun e w' => e = .returned (.slice pa n n) ∧ w = w' := by
  unfold maxLen at h2
  go_enter Try.func70, Try.ntmps70
  go_wp2
  go_ret
  exact ⟨rfl, rfl⟩
set_option maxHeartbeats 2000000 in
theorem i_phrases (s : ByteArray) (w : World) (hs : s.size ≤ 40) : Calls Try.prog 57 #[.string s] w (RetPh (phrasesL s) w) := by
  go_enter Try.func57, Try.ntmps57
  go_wp2
  go_loopw [3, 4, 5, 6, 7] (fun v a _ _ _ wr => ∃ (n p : Nat) (ps : List PhP) (vv : Value), vv = v ∧ Hid (phTo s n = (p, ps)) ∧ a = .int .i64 p ∧ p ≤ s.size ∧ ps.length ≤ p ∧ wr.ownsRow w.heap.size 59 3 vv ps.length (ps.flatMap phCells) ∧ Below w.heap.size w wr) (fun _ a _ _ _ _ => s.size - (intOf a).toNat)
  case atStart => exact ⟨0, 0, [], _, rfl, Lib.hid rfl, rfl, Nat.zero_le _, Nat.le_refl _, ph_made w, (Below.refl _ _).alloc (Nat.le_refl _) _⟩
  case round =>
    obtain ⟨n, p, ps, vv, rfl, HP, rfl, hp, hl, hown, hb⟩ := hrel
    have hwr := hb.size
    by_cases hlt : p < s.size
    · have hgo := phTo_go HP.out hlt
      have h1 := phLen_pos s p
      have h2 := phLen_le hlt
      unfold phrAt at hgo
      have HGO := Lib.hid hgo; clear hgo
      go_wp2_with fail
      refine (i_longest s p _ hs (by omega)).mono ?_; rintro e w2 ⟨rfl, hst⟩
      have hBk : w2.heap[wr.heap.size]? = some (.cells #[.int .i64 (-1), .int .i64 1, .string (s.extract p (p + 1))] 59) := by rw [hst.2]; exact heap_alloc_new wr _
      have q0 : w2.cell? ⟨wr.heap.size, 0, none⟩ = some (.int .i64 (-1)) := by simp [World.cell?, hBk]
      have q1 : w2.cell? ⟨wr.heap.size, 1, none⟩ = some (.int .i64 1) := by simp [World.cell?, hBk]
      have q2 : w2.cell? ⟨wr.heap.size, 2, none⟩ = some (.string (s.extract p (p + 1))) := by simp [World.cell?, hBk]
      have f0 : w2.frozen? ⟨wr.heap.size, 0, none⟩ = false := by simp [World.frozen?, hBk]
      have f1 : w2.frozen? ⟨wr.heap.size, 1, none⟩ = false := by simp [World.frozen?, hBk]
      have f2 : w2.frozen? ⟨wr.heap.size, 2, none⟩ = false := by simp [World.frozen?, hBk]
      have hown2 := hst.owns (hown.alloc (.cells #[.int .i64 (-1), .int .i64 1, .string (s.extract p (p + 1))] 59))
      have hb2 := (hb.alloc hwr (.cells #[.int .i64 (-1), .int .i64 1, .string (s.extract p (p + 1))] 59)).trans (hst.below w.heap.size)
      have hwr2 := hb2.size
      have hBl : wr.heap.size < w2.heap.size := (Array.getElem?_eq_some_iff.1 hBk).1
      have hnb : ∀ k, vv.ownBlock = some k → k ≠ wr.heap.size := fun k e => by have := (hown.lt k e).2; omega
      have HNB := Lib.hid hnb; clear hnb
      obtain ⟨f, hf⟩ : ∃ f, f = (best s.data.toList p).1 := ⟨_, rfl⟩
      obtain ⟨c, hc⟩ : ∃ c, c = (best s.data.toList p).2 := ⟨_, rfl⟩
      have HGO2 := HGO.out
      rw [← hf, ← hc] at HGO2
      have hlen : phLen s p = if c = 0 then 1 else c := by unfold phLen; rw [← hc]
      rw [← hf, ← hc]
      clear hst hown hb
      by_cases h0 : c = 0
      · rw [if_pos h0] at hlen HGO2
        rw [hlen] at h2 HGO2
        have H2 := Lib.hid HGO2
        have hc0 : decide (0 < (c : Int)) = false := decide_eq_false (by omega)
        clear HGO2 hlen hf hc HGO h1
        subst h0
        go_wp2_with (at_builtin; refine wpList_append_ph rfl _ _ rfl w.heap.size _ ps.length ps (-1, 1, s.extract p (p + 1)) hown2 rfl rfl (by omega) (by exact hwr2) ?_; intro v' w3 hown3 hgrow3 hb3; have q3 := hgrow3.cell (a := ⟨wr.heap.size, 1, none⟩) ((World.cell?_alloc_lt _ _ ⟨wr.heap.size, 1, none⟩ hBl).trans q1) (fun e => HNB.out _ e.symm rfl))
        go_roundw
        case rel => exact ⟨n + 1, p + 1, _, _, rfl, H2, by go_num, h2, by rw [List.length_append, List.length_singleton]; omega, by rw [List.length_append, List.length_singleton]; exact hown3, hb2.trans hb3⟩
        case measure => simp [intOf]; omega
      · rw [if_neg h0] at hlen HGO2
        rw [hlen] at h2 HGO2 h1
        have H2 := Lib.hid HGO2
        have hc0 : decide (0 < (c : Int)) = true := decide_eq_true (by omega)
        clear HGO2 hlen hf hc h0 HGO
        have q1' : (((w2.setCell ⟨wr.heap.size, 0, none⟩ (.int .i64 f)).setCell ⟨wr.heap.size, 1, none⟩ (.int .i64 (c : Nat))).setCell ⟨wr.heap.size, 2, none⟩ (.string ⟨#[]⟩)).cell? ⟨wr.heap.size, 1, none⟩ = some (.int .i64 (c : Nat)) := by
          rw [World.cell?_setCell_other _ _ _ _ (by simp), World.cell?_setCell_same' _ _ _ (by rw [World.cell?_setCell_other _ _ _ _ (by simp), q1]; rfl)]
        have hown5 := own_setB (own_setB (own_setB hown2 HNB.out 0 (.int .i64 f)) HNB.out 1 (.int .i64 (c : Nat))) HNB.out 2 (.string ⟨#[]⟩)
        have hb5 := ((hb2.setCell (p := ⟨wr.heap.size, 0, none⟩) hwr (.int .i64 f)).setCell (p := ⟨wr.heap.size, 1, none⟩) hwr (.int .i64 (c : Nat))).setCell (p := ⟨wr.heap.size, 2, none⟩) hwr (.string ⟨#[]⟩)
        have hsz5 := hb5.size
        have hBl5 : wr.heap.size < (((w2.setCell ⟨wr.heap.size, 0, none⟩ (.int .i64 f)).setCell ⟨wr.heap.size, 1, none⟩ (.int .i64 (c : Nat))).setCell ⟨wr.heap.size, 2, none⟩ (.string ⟨#[]⟩)).heap.size := by rw [World.size_setCell, World.size_setCell, World.size_setCell]; exact hBl
        have Q1 := Lib.hid q1'; clear q1'
        go_wp2_with (at_builtin; refine wpList_append_ph rfl _ _ rfl w.heap.size _ ps.length ps (f, (c : Nat), ⟨#[]⟩) hown5 rfl (by simp [World.size_setCell]; rfl) (by omega) (by exact hsz5) ?_; intro v' w3 hown3 hgrow3 hb3; have q3 := hgrow3.cell (a := ⟨wr.heap.size, 1, none⟩) ((World.cell?_alloc_lt _ _ ⟨wr.heap.size, 1, none⟩ hBl5).trans Q1.out) (fun e => HNB.out _ e.symm rfl))
        go_roundw
        case rel => exact ⟨n + 1, p + c, _, _, rfl, H2, by go_num, h2, by rw [List.length_append, List.length_singleton]; omega, by rw [List.length_append, List.length_singleton]; exact hown3, hb5.trans hb3⟩
        case measure => simp [intOf]; omega
    · have he : ps = phrasesL s := by
        have := phTo_end (s := s) (n := n) (by rw [HP.out]; exact hlt)
        rw [HP.out] at this; exact this
      obtain ⟨pa, ca, rfl, k1, k2, hret⟩ := RetPh.of_owns hown rfl (Nat.le_refl _) (by omega) hb
      have HR : Hid (RetPh (phrasesL s) w (.returned (.slice pa ps.length ps.length)) wr) := Lib.hid (by rw [← he]; exact hret ps.length)
      clear hret he
      go_wp2_with fail
      refine (l_ClipPh _ _ _ _ k1 k2).mono ?_; rintro e w' ⟨rfl, rfl⟩
      go_wp2
      go_ret
      exact HR.out
end Go.Proofs.Ytkgdifngijeenaa
