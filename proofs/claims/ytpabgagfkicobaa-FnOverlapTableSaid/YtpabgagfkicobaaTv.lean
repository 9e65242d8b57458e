/- OverlapTable: the program's walk. -/
import Derived.Test.YtpabgagfkicobaaTt
namespace Go.Proofs.Ytpabgagfkicobaa
open Go.RowKit
set_option linter.unusedVariables false
theorem wpList_make_intS {ops : Array Oper} {rest : List Oper} {o : Oper} {a : Act} {Q : Exit → Act → World → Prop} (w : World) (hg : o.guard = none) (l c : Operand)
    (hop : o.op = Op.makeSlice 35 l c) (lo : Nat) (n : Nat) (C : Int) (hl : a.eval l = .int .i64 0) (hc : a.eval c = .int .i64 C) (hC : C = (n : Int)) (hn : n ≤ 1048576) (hlo : lo ≤ w.heap.size)
    (hK : ∀ v w', w'.ownsRow lo 3 1 v 0 (ints []) → Below lo w w' → wpList Try.prog ops Q rest (a.put o.dst v) w') :
    wpList Try.prog ops Q (o :: rest) a w := by
  obtain ⟨i0, hi, hz0, hz1, hz2⟩ := info_parts info_int
  refine wpList_make_own w hg l c 35 hop lo 3 i0 (.int .i64 0) 1 Try.underlying35 hi hz0 hz1 .i64 .i64 C n hl hc hC (by rw [hz2]; omega) (by unfold maxLen; omega) hlo ?_
  intro w' h1 h2
  exact hK _ w' h1 ((Below.refl lo w).grown h2 hlo (fun k e => by cases e))
theorem wpList_make_tabS {ops : Array Oper} {rest : List Oper} {o : Oper} {a : Act} {Q : Exit → Act → World → Prop} (w : World) (hg : o.guard = none) (l c : Operand)
    (hop : o.op = Op.makeSlice 29 l c) (lo : Nat) (n : Nat) (C : Int) (hl : a.eval l = .int .i64 0) (hc : a.eval c = .int .i64 C) (hC : C = (n : Int)) (hn : n ≤ 1048576) (hlo : lo ≤ w.heap.size)
    (hK : ∀ v w', w'.ownsRow lo 35 1 v 0 [] → Below lo w w' → wpList Try.prog ops Q rest (a.put o.dst v) w') :
    wpList Try.prog ops Q (o :: rest) a w := by
  obtain ⟨i0, hi, hz0, hz1, hz2⟩ := info_parts info_row
  refine wpList_make_own w hg l c 29 hop lo 35 i0 (.slice none 0 0) 1 Try.underlying29 hi hz0 hz1 .i64 .i64 C n hl hc hC (by rw [hz2]; omega) (by unfold maxLen; omega) hlo ?_
  intro w' h1 h2
  exact hK _ w' h1 ((Below.refl lo w).grown h2 hlo (fun k e => by cases e))
theorem rowV_of {W : World} {lo n : Nat} {v : Value} {xs : List Value} (h : W.ownsRow lo 3 1 v n xs) (hn : 1 ≤ n) : ∃ g c, v = .slice (some ⟨g, 0, none⟩) n c := by
  rcases h.2 with ⟨rfl, hx⟩ | ⟨g, cap, cur, rfl, _⟩
  · have := h.1; rw [hx] at this; simp at this; omega
  · exact ⟨g, cap, rfl⟩
theorem OT.nil {W : World} {lo n : Nat} {xs : List ByteArray} {v : Value} (h : W.ownsRow lo 35 1 v 0 []) : OT W lo n xs 0 v [] :=
  ⟨rfl, h, List.nodup_nil, fun i p hp => by simp at hp⟩
set_option maxHeartbeats 4000000 in
theorem i_OverlapTable (pa : Option Addr) (n ca : Nat) (xs : List ByteArray) (lo hi : Nat) (w : World) (hl : xs.length = n) (hn : n ≤ 1048576) (hsz : ∀ i : Nat, (wAt xs i).size ≤ 1048576) (hsx : ∀ x ∈ xs, x.size ≤ maxLen) (hhi : hi ≤ w.heap.size) (hr : RowF w lo hi pa n (strF xs)) :
    Calls Try.prog 18 #[.slice pa n ca] w (RetTb (tbN xs) (ovT xs) w) := by
  have HL := Lib.hid hl; have HS := Lib.hid hsz; have HX := Lib.hid hsx; clear hl hsz hsx
  go_enter Try.func18, Try.ntmps18
  go_wp2_with fail
  refine (i_wordsOk pa n ca xs lo hi _ HL.out hn HX.out hr).mono ?_; rintro e w2 ⟨rfl, hb2⟩
  cases hw : wsOk xs with
  | false =>
    go_wp2_with fail
    go_ret
    rw [show tbN xs = 0 by unfold tbN; rw [hw]; rfl]
    exact RetTb.nil _ _ _ hb2
  | true =>
    have HT : Hid (tbN xs = n) := Lib.hid (by unfold tbN; rw [hw, HL.out]; rfl)
    clear hw
    have hs2 := hb2.size
    go_wp2_with (at_make; refine wpList_make_tabS _ rfl _ _ rfl w2.heap.size n _ rfl rfl rfl hn (Nat.le_refl _) ?_; intro v0 w3 hown3 hb3)
    go_loopw [3, 17] (fun v i wr => ∃ (m : Nat) (ps : List (Nat × Nat)), m ≤ n ∧ i = .int .i64 m ∧ OT wr w2.heap.size n xs m v ps ∧ Below w2.heap.size w2 wr) (fun _ i _ => n - (intOf i).toNat)
    case atStart => exact ⟨0, [], Nat.zero_le _, rfl, OT.nil hown3, hb3⟩
    case round =>
      obtain ⟨m, ps, hm, rfl, hot, hb⟩ := hrel
      clear hown3 hb3
      by_cases hlt : m < n
      · have e1 : (m : Int) < n := by omega
        obtain ⟨wo, rfl⟩ : ∃ wo : World, wo = wr := ⟨_, rfl⟩
        have hB := below_then hb2 hb
        obtain ⟨b, rfl, _, _, d0, _⟩ := ((hr.kept hb2).kept hb) m hlt
        unfold strF at d0
        have zm := HS.out m; unfold wAt at zm
        obtain ⟨y, hy⟩ : ∃ z, z = xs[m]?.getD ⟨#[]⟩ := ⟨_, rfl⟩
        rw [← hy] at d0 zm
        have HY : Hid (wAt xs m = y) := Lib.hid hy.symm
        clear hy
        have HOT := Lib.hid hot; clear hot
        have hsz := hb.size
        have zmm : y.size ≤ maxLen := by unfold maxLen; omega
        go_wp2_with (at_make; refine wpList_make_intS _ rfl _ _ rfl wo.heap.size n _ rfl rfl rfl hn (Nat.le_refl _) ?_; intro v1 w4 hown4 hb4)
        go_loopw [6, 26] (fun l j wr => ∃ k : Nat, k ≤ n ∧ j = .int .i64 k ∧ wr.ownsRow wo.heap.size 3 1 l k (ints (ovRow xs m k)) ∧ Below wo.heap.size wo wr) (fun _ j _ => n - (intOf j).toNat)
        case atStart => exact ⟨0, Nat.zero_le _, rfl, hown4, hb4⟩
        case round =>
          obtain ⟨k, hk, rfl, hown, hbi⟩ := hrel
          clear hown4 hb4
          have hsz2 := hbi.size
          by_cases hkt : k < n
          · have e2 : (k : Int) < n := by omega
            obtain ⟨_, e3, _, _, c0, _⟩ := (((hr.kept hb2).kept hb).kept hbi) k hkt
            cases e3
            unfold strF at c0
            have zk := HS.out k; unfold wAt at zk
            obtain ⟨x, hx⟩ : ∃ z, z = xs[k]?.getD ⟨#[]⟩ := ⟨_, rfl⟩
            rw [← hx] at c0 zk
            have HXK : Hid (wAt xs k = x) := Lib.hid hx.symm
            clear hx
            have zkm : x.size ≤ maxLen := by unfold maxLen; omega
            go_wp2_with fail
            refine (i_overlap y x _ zmm zkm).mono ?_; rintro e w5 ⟨rfl, rfl⟩
            have HOV : Hid (ovT xs m k = (ov y.data.toList x.data.toList : Nat)) := Lib.hid (by unfold ovT; rw [HY.out, HXK.out])
            obtain ⟨z, hz⟩ : ∃ z : Nat, z = ov y.data.toList x.data.toList := ⟨_, rfl⟩
            rw [← hz]
            have HZ := Lib.hid hz; clear hz
            go_wp2_with (at_builtin; refine wpList_append_int rfl _ _ rfl wo.heap.size _ k (ovRow xs m k) (z : Int) hown rfl rfl (by omega) (by exact hsz2) ?_; intro v' w6 hown6 hgrow6 hb6)
            have H6 := Lib.hid (show w6.ownsRow wo.heap.size 3 1 v' (k + 1) (ints (ovRow xs m (k + 1))) by rw [ovRow_succ, HOV.out, ← HZ.out]; exact hown6)
            clear hown6 hown
            go_roundw
            case rel => exact ⟨k + 1, by omega, by go_num, H6.out, hbi.trans hb6⟩
            case measure => simp [intOf]; omega
          · obtain rfl : k = n := by omega
            obtain ⟨g, c, rfl⟩ := rowV_of hown (by omega)
            have hot2 := HOT.out.kept hbi
            have hB2 := hb.trans (hbi.mono hsz)
            have hsz3 := hB2.size
            go_wp2_with (at_builtin; refine wpList_append_row rfl _ _ rfl w2.heap.size _ m (ps.map (rowV k)) (.slice (some ⟨g, 0, none⟩) k c) rfl hot2.2.1 rfl rfl (by omega) (by exact hsz3) ?_; intro v' w6 hown6 hgrow6)
            have H6 := Lib.hid (OT.app (p := (g, c)) hot2 HOT.out.lt hsz hown hown6 hgrow6)
            have hB6 := (hB2.alloc hsz3 (.cells #[.slice (some ⟨g, 0, none⟩) k c] 35)).grown hgrow6 (by simp; omega) (fun j e => (hot2.2.1.lt j e).1)
            clear hown6 hgrow6 hown hot2 HOT
            go_roundw
            case rel => exact ⟨m + 1, ps ++ [(g, c)], by omega, by go_num, H6.out, hB6⟩
            case measure => simp [intOf]; omega
      · obtain rfl : m = n := by omega
        go_wp2
        go_ret
        rw [HT.out]
        exact OT.ret hot hs2 (below_then hb2 hb)
end Go.Proofs.Ytpabgagfkicobaa
