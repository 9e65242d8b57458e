/- Walk of the law FnOverlapOf over drawn texts. -/
import Derived.Test.YtokpcdclaifkpaaWt2
import Derived.Test.YtokpcdclaifkpaaB
import Derived.Test.YtokpcdclaifkpaaCo
import Derived.Laws.AppendOwnNone
import Derived.Deep.RegionHeld3
namespace Go.Proofs.Ytokpcdclaifkpaa
open Go.RowKit
set_option linter.unusedVariables false

def RetClip (xs : List Int) (w : World) (e : Ending) (w' : World) : Prop :=
  ∃ pa n, e = .returned (.slice pa n n) ∧ Hid (xs.length = n) ∧ n ≤ 1048576 ∧ Row w' w.heap.size w'.heap.size pa (ints xs) ∧ Below w.heap.size w w'
theorem RetClip.clip {w w' : World} {lo n ca : Nat} {pa : Option Addr} {xs : List Int} (h : w'.ownsRow lo 3 1 (.slice pa n ca) n (ints xs)) (hlo : w.heap.size ≤ lo) (hn : n ≤ 1048576) (hb : Below w.heap.size w w') :
    RetClip xs w (.returned (.slice pa n n)) w' := by
  obtain ⟨pa', cap, e, h1, h2, h3, h4⟩ := Row.of_owns h
  cases e
  exact ⟨pa, n, rfl, Lib.hid (by rw [ints_length] at h3; exact h3), hn, h4.mono hlo (Nat.le_refl _), hb⟩
theorem retClip_nil (w w' : World) (hb : Below w.heap.size w w') : RetClip [] w (.returned (.slice none 0 0)) w' :=
  ⟨none, 0, rfl, Lib.hid rfl, Nat.zero_le _, fun i v hv => by simp [ints] at hv, hb⟩

theorem wpList_append_row {ops : Array Oper} {rest : List Oper} {o : Oper} {a : Act} {Q : Exit → Act → World → Prop} {w : World} (hgd : o.guard = none) (s x : Operand)
    (ho : o.op = .call { callee := .builtin .append, args := #[s, x], argTypes := #[27, 27] })
    (lo : Nat) (v : Value) (n : Nat) (xs : List Int) (hown : w.ownsRow lo 3 1 v n (ints xs)) (hs : a.eval s = v)
    (pb : Option Addr) (m : Nat) (hx : a.eval x = .slice pb m m) {l k : Nat} (ys : List Int) (hl : ys.length = m) (hr : Row w l k pb (ints ys)) (hn : n + m ≤ 2097152) (hlo : lo ≤ w.heap.size)
    (h : ∀ v' w', w'.ownsRow lo 3 1 v' (n + m) (ints (xs ++ ys)) → Below lo w w' → wpList Try.prog ops Q rest (a.put o.dst v') w') :
    wpList Try.prog ops Q (o :: rest) a w := by
  obtain ⟨i0, hi, hz0, hz1, hz2⟩ := info_parts info_int
  by_cases hm : m = 0
  · subst hm
    obtain rfl := List.length_eq_zero_iff.1 hl
    cases pb with
    | none =>
      refine wpList_append_own_none hgd s x 27 ho lo 3 i0 1 Try.underlying27 hi v n _ hs hown hx ?_
      exact h v w (by simpa using hown) (Below.refl _ _)
    | some ad =>
      refine wpList_append_own _ hgd s x 27 ho lo 3 i0 (.int .i64 0) 1 8 Try.underlying27 hi hz0 hz1 hz2 rfl (by decide) v n _ hs hown ad 0 0 [] hx rfl (by simp) (by simp) (by unfold maxLen; omega) (by omega) hlo ?_
      intro v' w' h1 h2 _
      exact h v' w' (by simpa [ints] using h1) ((Below.refl lo w).grown h2 hlo (fun k e => (hown.lt k e).1))
  · obtain ⟨g, rfl, _, _, _, _⟩ := hr.getInt (i := 0) (by omega)
    refine wpList_append_own _ hgd s x 27 ho lo 3 i0 (.int .i64 0) 1 8 Try.underlying27 hi hz0 hz1 hz2 rfl (by decide) v n _ hs hown ⟨g, 0, none⟩ m m (ints ys) hx (by rw [ints_length]; omega) ?_ ?_ (by unfold maxLen; omega) (by omega) hlo ?_
    · intro j u hu
      obtain ⟨g', e, _, _, hc, _⟩ := hr j u hu
      cases e
      rw [show (⟨g, 0, none⟩ : Addr).add j = ⟨g, j, none⟩ by unfold Addr.add; by_cases e : j = 0 <;> simp [e]]; exact hc
    · intro u hu
      simp only [ints, List.mem_map] at hu
      obtain ⟨z, _, rfl⟩ := hu; rfl
    · intro v' w' h1 h2 _
      exact h v' w' (by simpa [ints] using h1) ((Below.refl lo w).grown h2 hlo (fun k e => (hown.lt k e).1))
theorem owns_lit (w : World) (z : Int) : (w.alloc (Obj.cells #[Value.int IntKind.i64 z] 3)).ownsRow w.heap.size 3 1 (.slice (some ⟨w.heap.size, 0, none⟩) 1 1) 1 (ints [z]) :=
  ⟨rfl, .inr ⟨w.heap.size, 1, #[.int .i64 z], rfl, Nat.le_refl _, by unfold World.alloc; simp [-World.alloc_eq], Nat.le_refl _, by decide, rfl, rfl⟩⟩
theorem ovFrom_le (a b : List UInt8) (m : Nat) : ovFrom a b m ≤ m := by
  induction m with
  | zero => exact Nat.le_refl _
  | succ m ih => rw [ovFrom]; split <;> omega
theorem ovFrom_eq (a b : List UInt8) (m : Nat) (h : 0 < ovFrom a b m) : a.drop (a.length - ovFrom a b m) = b.take (ovFrom a b m) := by
  induction m with
  | zero => exact absurd h (Nat.lt_irrefl _)
  | succ m ih =>
    rw [ovFrom] at h ⊢
    by_cases e : a.drop (a.length - (m + 1)) = b.take (m + 1)
    · rw [if_pos e]; exact e
    · rw [if_neg e] at h ⊢; exact ih h
theorem ovFrom_last (s : List UInt8) (m : Nat) : (0 :: sel (brdB s) 1 m)[(sel (brdB s) 1 m).length]?.getD 0 = (ovFrom s s m : Int) := by
  induction m with
  | zero => rfl
  | succ m ih =>
    rw [ovFrom]
    by_cases e : s.drop (s.length - (m + 1)) = s.take (m + 1)
    · rw [if_pos e, sel_yes (show brdB s (1 + m) = true by unfold brdB; rw [Nat.add_comm]; exact decide_eq_true e.symm)]
      simp; omega
    · rw [if_neg e, sel_no (show brdB s (1 + m) = false by unfold brdB; rw [Nat.add_comm]; exact decide_eq_false fun k => e k.symm)]
      exact ih

set_option maxHeartbeats 1000000 in
theorem i_borders2 (s : ByteArray) (w : World) (hsz : s.size ≤ 40) : Calls Try.prog 63 #[.agg #[.string s]] w (RetClip (bordersL s.data.toList) w) := by
  go_enter Try.func63, Try.ntmps63
  go_wp2
  go_loopw [3, 4] (fun v p wr => ∃ k : Nat, 1 ≤ k ∧ k ≤ max s.size 1 ∧ p = .int .i64 k ∧ wr.ownsRow (w.heap.size + 1) 3 1 v (sel (brdB s.data.toList) 1 (k - 1)).length (ints (sel (brdB s.data.toList) 1 (k - 1))) ∧ Below w.heap.size w wr ∧ wr.cell? ⟨w.heap.size, 0, none⟩ = some (.string s)) (fun _ p _ => s.size + 1 - (intOf p).toNat)
  case atStart =>
    refine ⟨1, by omega, by omega, rfl, ?_, ((Below.refl _ _).alloc (Nat.le_refl _) _).alloc (by simp) _, wmade _ _ _⟩
    have := owns_made (w.alloc (.cells #[.string s] 45))
    rw [World.size_alloc] at this; exact this
  case round =>
    obtain ⟨k, hk0, hk, rfl, hown, hb, hc⟩ := hrel
    have hwr := hb.size
    have hwr' : w.heap.size + 1 ≤ wr.heap.size := by have := cell_lt hc; omega
    have hle := sel_le (brdB s.data.toList) 1 (k - 1)
    by_cases hlt : k < s.size
    · have e1 : (k : Int) ≤ s.size := by omega
      have e2 : (0 : Int) ≤ k := by omega
      have e3 : k ≤ s.size := by omega
      go_wp2
      go_quiet ((go_at_call 75; exact Calls.quiet_of_same ((l_HasSuffix s (s.extract 0 k) _ (by unfold maxLen; omega) (by rw [ByteArray.size_extract]; unfold maxLen; omega)).mono fun _ _ ⟨h1, h2⟩ => ⟨h1, h2.symm⟩)))
      go_wp2_with (at_builtin; refine wpList_append_int rfl _ _ rfl (w.heap.size + 1) _ _ _ (k : Int) (((Still.refl wr).drewN nq).owns hown) rfl rfl (by omega) (by exact hwr') ?_; intro v' w2 hown2 hgrow2 hb2)
      · have hy : brdB s.data.toList k = true := by rw [← brdB_suf e3, ← pre_take]; assumption
        go_roundw
        case rel => exact ⟨k + 1, by omega, by omega, by go_num, sel_app hk0 hy hown2, (below_drewN hb nq).trans (hb2.mono (by omega)), (hb2.cell (p := ⟨w.heap.size, 0, none⟩) (by show w.heap.size < w.heap.size + 1; omega)).trans hc⟩
        case measure => simp [intOf]; omega
      · have hy : brdB s.data.toList k = false := by rw [← brdB_suf e3, ← pre_take]; assumption
        go_roundw
        case rel => exact ⟨k + 1, by omega, by omega, by go_num, sel_keep hk0 hy (((Still.refl wr).drewN nq).owns hown), below_drewN hb nq, hc⟩
        case measure => simp [intOf]; omega
    · obtain ⟨pa, ca, rfl, h1, h2, _, _⟩ := Row.of_owns hown
      go_wp2_with fail
      refine (l_ClipInt _ _ _ _ h1 h2).mono ?_; rintro e w' ⟨rfl, rfl⟩
      go_wp2
      go_ret
      unfold bordersL
      rw [list_len, show s.size - 1 = k - 1 by omega]
      exact RetClip.clip hown (by omega) (by omega) hb

set_option maxHeartbeats 1000000 in
theorem i_BordersOf2 (s : ByteArray) (w : World) (hs : s.size ≤ maxLen) : Calls Try.prog 28 #[.string s] w (RetClip (bordersOf s.data.toList) w) := by
  cases h1 : vt s.data.toList
  · rw [bordersOf_no h1]
    go_enter Try.func28, Try.ntmps28
    go_wp2_with fail
    refine (i_ValidText _ _ hs).mono ?_; rintro e w1 ⟨rfl, hb1⟩
    go_wp2
    go_ret
    exact retClip_nil _ _ hb1
  · rw [bordersOf_yes h1]
    have hsz := vt_size h1
    go_enter Try.func28, Try.ntmps28
    go_wp2_with fail
    refine (i_ValidText _ _ hs).mono ?_; rintro e w1 ⟨rfl, hb1⟩
    go_wp2_with fail
    refine (i_borders2 _ _ hsz).mono ?_; rintro e w2 ⟨pa, n, rfl, HN, hle, hr, hb⟩
    go_wp2
    go_ret
    exact ⟨pa, n, rfl, HN, hle, hr.mono hb1.size (Nat.le_refl _), hb1.trans (hb.mono hb1.size)⟩
set_option maxHeartbeats 4000000 in
theorem walk_FnOverlapOf (pa : Option Addr) (n cap : Nat) (w : World) (hx : CodeAt w pa n cap) :
    Calls Try.prog 6 #[.slice pa n cap] w fun e w' => e = .returned (.bool true) ∧ Below w.heap.size w w' := by
  have hcap := hx.2.1; have hnc := hx.1
  unfold maxLen at hcap
  have HC := Lib.hid hx; clear hx
  by_cases hn : n ≤ 1048576
  · go_enter Try.func6, Try.ntmps6
    go_wp2_with fail
    refine (d_DrawOverlapOf _ _ _ _ HC.out).mono ?_; rintro e w1 ⟨s, t, rfl, hs, ht, hb1⟩
    go_wp2_with fail
    refine (i_OverlapOf s t _ (size41 hs) (size41 ht)).mono ?_; rintro e w2 ⟨rfl, hb2⟩
    have hB2 := Below.then hb1 hb2; clear hb1 hb2
    go_wp2_with fail
    refine (s_OverlapOf s t _ (size41 hs) (size41 ht)).mono ?_; rintro e w3 ⟨rfl, hb3⟩
    have hB3 := Below.then hB2 hb3; clear hB2 hb3
    by_cases hv : vt s.data.toList = true ∧ vt t.data.toList = true
    · obtain ⟨h1, h2⟩ := hv
      rw [overlapI_yes h1 h2]
      have hle := ovFrom_le s.data.toList t.data.toList (min s.data.toList.length t.data.toList.length - 1)
      have heq := ovFrom_eq s.data.toList t.data.toList (min s.data.toList.length t.data.toList.length - 1)
      obtain ⟨c, hc⟩ : ∃ c, c = ov s.data.toList t.data.toList := ⟨_, rfl⟩
      rw [show ovFrom s.data.toList t.data.toList (min s.data.toList.length t.data.toList.length - 1) = c from hc.symm] at hle heq
      rw [list_len, list_len] at hle
      rw [← suf_take, ← pre_take] at heq
      rw [← hc]
      clear hc
      have HEQ := Lib.hid heq; clear heq
      have HS := Lib.hid (size41 hs)
      have HT := Lib.hid (size41 ht)
      have H1 := Lib.hid h1
      clear h1 h2
      go_wp2_with fail
      refine (i_BordersOf2 s _ HS.out).mono ?_; rintro e w4 ⟨pb, m, rfl, HN, hle, hr, hb4⟩
      have hB4 := Below.then (hB3.alloc hB3.size _) hb4
      have hlit : (w3.alloc (Obj.cells #[Value.int IntKind.i64 0] 3)).ownsRow w3.heap.size 3 1 (.slice (some ⟨w3.heap.size, 0, none⟩) 1 1) 1 (ints [0]) := owns_lit w3 0
      have hlit4 := owns_below hlit hb4
      have hsz3 := hb4.size
      clear hlit hb4
      go_wp2_with (at_builtin; refine wpList_append_row rfl _ _ rfl w3.heap.size _ 1 [0] hlit4 rfl pb m rfl _ HN.out hr (by omega) (by rw [World.size_alloc] at hsz3; omega) ?_; intro v5 w5 hown5 hb5)
      obtain ⟨pc, cc, rfl, _, hcc, HL5, hr5⟩ := Row.of_owns hown5
      have hself := ovFrom_last s.data.toList (s.data.toList.length - 1)
      obtain ⟨g, rfl, _, _, c5, _⟩ := hr5.getInt (i := m) (by rw [List.length_append, HN.out, List.length_singleton]; omega)
      unfold maxLen at hcc
      have hbo : sel (brdB s.data.toList) 1 (s.data.toList.length - 1) = bordersOf s.data.toList := (bordersOf_yes H1.out).symm
      rw [hbo, HN.out] at hself
      rw [show [0] ++ bordersOf s.data.toList = 0 :: bordersOf s.data.toList from rfl, hself] at c5
      have hov : overlapI s s = (ovFrom s.data.toList s.data.toList (s.data.toList.length - 1) : Int) := by
        rw [overlapI_yes H1.out H1.out, ov, Nat.min_self]
      rw [← hov] at c5
      clear hself hbo hov hown5 hr5 HL5 hlit4 hr
      have hB5 : Below w.heap.size w w5 := hB4.trans (hb5.mono hB3.size)
      obtain ⟨q, hq⟩ : ∃ q, q = 1 + m := ⟨_, rfl⟩
      rw [← hq]
      have hw1 : IntKind.i64.wrap ((q : Int) - 1) = m := by rw [show (q : Int) - 1 = m by omega]; exact IntWalk.i64_in _ (by omega)
      have hw2 : (0 : Int) ≤ m := by omega
      have hw3 : (m : Int) < q := by omega
      have hw4 : (0 : Int) ≤ q := by omega
      have hw5 : m < q := by omega
      have hw7 : q ≤ 1048577 := by omega
      clear hq
      obtain ⟨z, hz⟩ : ∃ z, z = overlapI s s := ⟨_, rfl⟩
      rw [← hz] at c5
      have HZ := Lib.hid hz; clear hz
      by_cases h0 : c = 0
      · subst h0
        go_wp2
        go_quiet (fail)
        go_wp2
        go_region_held3 (fun w' => w'.cell? ⟨g, m, none⟩ = some (.int .i64 z)) (first | assumption | (exact (Below.cell (by assumption) (cell_lt (by assumption))).trans (by assumption)))
          ((go_at_call 26; refine (i_OverlapOf s s _ HS.out HS.out).mono ?_; rintro e w' ⟨rfl, hb⟩; rw [← HZ.out]))
        go_wp2
        go_ret
        exact ⟨rfl, Below.then (below_drewN hB5 _) (by assumption)⟩
      · have hq0 : 0 < c := by omega
        have hq1 : c < s.size := by omega
        have hq2 : c < t.size := by omega
        have he1 : (0 : Int) < c := by omega
        have he2 : (c : Int) < s.size := by omega
        have he3 : (c : Int) < t.size := by omega
        have he4 : IntKind.i64.wrap ((s.size : Int) - c) = (s.size : Int) - c := IntWalk.i64_in _ (by omega)
        have he5 : ((s.size : Int) - c).toNat = s.size - c := by omega
        have he6 : (0 : Int) ≤ (s.size : Int) - c := by omega
        have he7 : (s.size : Int) - c ≤ s.size := by omega
        have he8 : (c : Int) ≤ t.size := by omega
        have he9 : (0 : Int) ≤ c := by omega
        have he10 : ((s.extract (s.size - c) s.size).toList == (t.extract 0 c).toList) = true := by rw [Lib.toList_data, Lib.toList_data, HEQ.out hq0]; simp
        have he11 : s.size - c ≤ s.size := by omega
        have he12 : c ≤ t.size := by omega
        have he15 : c ≤ s.size := by omega
        have he16 : decide (s.size ≤ c) = false := decide_eq_false (by omega)
        have he17 : decide (t.size ≤ c) = false := decide_eq_false (by omega)
        have he13 : decide ((s.size : Int) ≤ c) = false := decide_eq_false (by omega)
        have he14 : decide ((t.size : Int) ≤ c) = false := decide_eq_false (by omega)
        go_wp2
        go_quiet (fail)
        go_wp2
        go_region_held3 (fun w' => w'.cell? ⟨g, m, none⟩ = some (.int .i64 z)) (first | assumption | (exact (Below.cell (by assumption) (cell_lt (by assumption))).trans (by assumption)))
          ((go_at_call 26; refine (i_OverlapOf s s _ HS.out HS.out).mono ?_; rintro e w' ⟨rfl, hb⟩; rw [← HZ.out]))
        go_wp2
        go_ret
        exact ⟨rfl, Below.then (below_drewN hB5 _) (by assumption)⟩
    · have hneg : overlapI s t = -1 := overlapI_no (by
        cases h1 : vt s.data.toList with
        | false => exact .inl rfl
        | true => cases h2 : vt t.data.toList with
          | false => exact .inr rfl
          | true => exact absurd ⟨h1, h2⟩ hv)
      clear hv
      have HNG := Lib.hid hneg
      rw [hneg]
      clear hneg
      go_wp2_with fail
      refine (s_OverlapOf s t _ (size41 hs) (size41 ht)).mono ?_; rintro e w4 ⟨rfl, hb4⟩
      rw [HNG.out]
      go_wp2
      go_ret
      exact ⟨rfl, Below.then hB3 hb4⟩
  · go_enter Try.func6, Try.ntmps6
    go_wp2
    go_ret
    exact ⟨rfl, Below.refl _ _⟩
end Go.Proofs.Ytokpcdclaifkpaa
