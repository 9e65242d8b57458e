/- OverlapTable: the reference's walk. -/
import Derived.Test.YtpabgagfkicobaaTv
import Derived.Deep.RegionHeld3
namespace Go.Proofs.Ytpabgagfkicobaa
open Go.RowKit
set_option linter.unusedVariables false
attribute [local go_sem ↓] Go.wp_at_zero Go.wp_at_succ
theorem ints_made (w : World) : (w.alloc (.cells #[] 3)).ownsRow w.heap.size 3 1 (.slice (some ⟨w.heap.size, 0, none⟩) 0 0) 0 (ints []) :=
  World.ownsRow_made (base := w.heap.size) (e := 3) (size := 1) w #[] 0 (Nat.le_refl _) (by decide) rfl
theorem step_append_intT {ops : Array Oper} {o : Oper} {a : Act} {K : Act → World → Prop} {Q : Exit → Act → World → Prop} {E : Prop} {w : World} (hgd : o.guard = none) (s x : Operand)
    (ho : o.op = .call { callee := .builtin .append, args := #[s, x], argTypes := #[35, 35] })
    (lo : Nat) (v : Value) (n : Nat) (xs : List Int) (z : Int) (hown : w.ownsRow lo 3 1 v n (ints xs)) (hs : a.eval s = v)
    (hx : a.eval x = .slice (some ⟨w.heap.size, 0, none⟩) 1 1) (hn : n ≤ 1048576) (hlo : lo ≤ w.heap.size)
    (h : ∀ v' w', w'.ownsRow lo 3 1 v' (n + 1) (ints (xs ++ [z])) → Below lo w w' → K (a.put o.dst v') w') :
    if Region.wanted o (yielded ops a.tmps) = true then Oper.wp Try.prog o a (w.alloc (.cells #[.int .i64 z] 3)) K Q else E := by
  obtain ⟨i0, hi, hz0, hz1, hz2⟩ := info_parts info_int
  refine step_append_lies _ hgd s x 35 ho lo 3 i0 (.int .i64 0) 1 8 Try.underlying35 hi hz0 hz1 hz2 rfl (by decide) v n _ hs (hown.alloc _) ⟨w.heap.size, 0, none⟩ 1 1 [.int .i64 z] hx rfl (cell_one_new _ _ _) (by simp [Value.oneCell']) (by decide) (by unfold maxLen; omega) (by omega) (by simp; omega) _ rfl ?_
  intro g cap w' h1 h2 _ _
  exact h _ w' (by simpa [ints] using h1) (((Below.refl lo w).alloc hlo _).grown h2 (by simp; omega) (fun k e => (hown.lt k e).1))
set_option maxHeartbeats 4000000 in
theorem s_OverlapTable (pa : Option Addr) (n ca : Nat) (xs : List ByteArray) (lo hi : Nat) (w : World) (hl : xs.length = n) (hn : n ≤ 1048576) (hsz : ∀ i : Nat, (wAt xs i).size ≤ 1048576) (hsx : ∀ x ∈ xs, x.size ≤ maxLen) (hhi : hi ≤ w.heap.size) (hr : RowF w lo hi pa n (strF xs)) :
    Calls Try.prog 17 #[.slice pa n ca] w (RetTb (tbN xs) (ovT xs) w) := by
  have HL := Lib.hid hl; have HS := Lib.hid hsz; have HX := Lib.hid hsx; clear hl hsz hsx
  go_enter Try.func17, Try.ntmps17
  go_wp2_with fail
  refine (s_validWords pa n ca xs lo hi _ HL.out hn HX.out hr).mono ?_; rintro e w2 ⟨rfl, hst2⟩
  have hb2 := hst2.1
  clear hst2
  cases hw : wsOk xs with
  | false =>
    go_wp2_with fail
    go_ret
    rw [show tbN xs = 0 by unfold tbN; rw [hw]; rfl]
    exact RetTb.nil _ _ _ hb2
  | true =>
    have HT : Hid (tbN xs = n) := Lib.hid (by unfold tbN; rw [hw, HL.out]; rfl)
    clear hw
    have hs2 := hb2.size
    go_wp2
    go_loopw [3, 4] (fun v i wr => ∃ (m : Nat) (ps : List (Nat × Nat)), m ≤ n ∧ i = .int .i64 m ∧ OT wr w2.heap.size n xs m v ps ∧ Below w2.heap.size w2 wr) (fun _ i _ => n - (intOf i).toNat)
    case atStart => exact ⟨0, [], Nat.zero_le _, rfl, OT.nil (tab_made w2), (Below.refl _ _).alloc (Nat.le_refl _) _⟩
    case round =>
      obtain ⟨m, ps, hm, rfl, hot, hb⟩ := hrel
      by_cases hlt : m < n
      · have e1 : (m : Int) < n := by omega
        obtain ⟨wo, rfl⟩ : ∃ wo : World, wo = wr := ⟨_, rfl⟩
        have hB := below_then hb2 hb
        obtain ⟨b, rfl, _, _, d0, _⟩ := ((hr.kept hb2).kept hb) m hlt
        unfold strF at d0
        have zm := HS.out m; unfold wAt at zm
        obtain ⟨y, hy⟩ : ∃ z, z = xs[m]?.getD ⟨#[]⟩ := ⟨_, rfl⟩
        rw [← hy] at d0 zm
        have HY : Hid (wAt xs m = y) := Lib.hid hy.symm
        clear hy
        have lb := cell_lt d0
        have HOT := Lib.hid hot; clear hot
        have hsz := hb.size
        have zmm : y.size ≤ maxLen := by unfold maxLen; omega
        have hm2 := ints_made wo
        have hb4 : Below wo.heap.size wo (wo.alloc (.cells #[] 3)) := (Below.refl _ _).alloc (Nat.le_refl _) _
        go_wp2
        go_loopw [5, 6] (fun l j wr => ∃ k : Nat, k ≤ n ∧ j = .int .i64 k ∧ wr.ownsRow wo.heap.size 3 1 l k (ints (ovRow xs m k)) ∧ Below wo.heap.size wo wr) (fun _ j _ => n - (intOf j).toNat)
        case atStart => exact ⟨0, Nat.zero_le _, rfl, hm2, hb4⟩
        case round =>
          obtain ⟨k, hk, rfl, hown, hbi⟩ := hrel
          clear hm2 hb4
          have hsz2 := hbi.size
          by_cases hkt : k < n
          · have e2 : (k : Int) < n := by omega
            obtain ⟨_, e3, _, _, c0, _⟩ := (((hr.kept hb2).kept hb).kept hbi) k hkt
            cases e3
            have d1 := (hbi.cell (p := ⟨b, m, none⟩) (cell_lt d0)).trans d0
            unfold strF at c0
            have zk := HS.out k; unfold wAt at zk
            obtain ⟨x, hx⟩ : ∃ z, z = xs[k]?.getD ⟨#[]⟩ := ⟨_, rfl⟩
            rw [← hx] at c0 zk
            have HXK : Hid (wAt xs k = x) := Lib.hid hx.symm
            clear hx d0
            have zkm : x.size ≤ maxLen := by unfold maxLen; omega
            have HOV : Hid (ovT xs m k = (ov y.data.toList x.data.toList : Nat)) := Lib.hid (by unfold ovT; rw [HY.out, HXK.out])
            obtain ⟨z, hz⟩ : ∃ z : Nat, z = ov y.data.toList x.data.toList := ⟨_, rfl⟩
            have HZ := Lib.hid hz; clear hz
            have lc : b < wo.heap.size := lb
            go_wp2
            go_region_held3 (fun w' => w'.cell? ⟨b, m, none⟩ = some (.string y) ∧ w'.cell? ⟨b, k, none⟩ = some (.string x))
              (first | exact ⟨d1, c0⟩ | exact ⟨(Below.cell (B := wo.heap.size) (w := wr.drew) (by assumption) lc).trans d1, (Below.cell (B := wo.heap.size) (w := wr.drew) (by assumption) lc).trans c0⟩)
              (first
                | (go_at_call 39; refine (s_overlap y x _ zmm zkm).mono ?_; rintro e w5 ⟨rfl, hbn⟩; rw [← HZ.out]; have hb5 : Below wo.heap.size wr.drew w5 := hbn.mono hsz2; have hsz5 : wo.heap.size ≤ w5.heap.size := Nat.le_trans hsz2 hb5.size; have hown5 := ownT_below hown.drew hbn; have hb6 : Below wo.heap.size wr.drew (w5.alloc (.cells #[.int .i64 (z : Int)] 3)) := hb5.alloc hsz5 _)
                | (refine step_append_intT (by rfl) _ _ (by rfl) wo.heap.size _ k (ovRow xs m k) (z : Int) (by assumption) (by rfl) (by rfl) (by omega) (by assumption) ?_; intro v' w7 hown7 hb7x; have hb7 : Below wo.heap.size wr.drew w7 := Below.trans (by assumption) hb7x))
            have H7 := Lib.hid (show w7.ownsRow wo.heap.size 3 1 v' (k + 1) (ints (ovRow xs m (k + 1))) by rw [ovRow_succ, HOV.out, ← HZ.out]; exact hown7)
            have hB7 : Below wo.heap.size wo w7 := (hbi.drew).trans hb7
            clear hown7 hown hown5 hb5 hb6 hb7 hb7x hbn
            go_wp2
            go_roundw
            case rel => exact ⟨k + 1, by omega, by go_num, H7.out, hB7⟩
            case measure => simp [intOf]; omega
          · obtain rfl : k = n := by omega
            obtain ⟨g, c, rfl⟩ := rowV_of hown (by omega)
            have hot2 := HOT.out.kept hbi
            have hB2 := hb.trans (hbi.mono hsz)
            have hsz3 := hB2.size
            go_wp2_with (at_builtin; refine wpList_append_row rfl _ _ rfl w2.heap.size _ m (ps.map (rowV k)) (.slice (some ⟨g, 0, none⟩) k c) rfl hot2.2.1 rfl rfl (by omega) (by exact hsz3) ?_; intro v' w6 hown6 hgrow6)
            have H6 := Lib.hid (OT.app (p := (g, c)) hot2 HOT.out.lt hsz hown hown6 hgrow6)
            have hB6 := (hB2.alloc hsz3 (.cells #[.slice (some ⟨g, 0, none⟩) k c] 35)).grown hgrow6 (by simp; omega) (fun j e => (hot2.2.1.lt j e).1)
            clear hown6 hgrow6 hown hot2 HOT
            go_roundw
            case rel => exact ⟨m + 1, ps ++ [(g, c)], by omega, by go_num, H6.out, hB6⟩
            case measure => simp [intOf]; omega
      · obtain rfl : m = n := by omega
        go_wp2
        go_ret
        rw [HT.out]
        exact OT.ret hot hs2 (below_then hb2 hb)
end Go.Proofs.Ytpabgagfkicobaa
