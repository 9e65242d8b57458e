/- ReduceWords: the plain law, strings appended to a slice of the call's own, the reference's walk. -/
import Derived.Test.YtpabgagfkicobaaSx
import Derived.Test.YtpabgagfkicobaaH
import Derived.Test.YtpabgagfkicobaaRd
import Derived.Deep.LoopGhost
namespace Go.Proofs.Ytpabgagfkicobaa
open Go.RowKit
set_option linter.unusedVariables false

theorem wpList_append_strS {ops : Array Oper} {rest : List Oper} {o : Oper} {a : Act} {Q : Exit → Act → World → Prop} {w : World} (hgd : o.guard = none) (s x : Operand)
    (ho : o.op = .call { callee := .builtin .append, args := #[s, x], argTypes := #[22, 22] })
    (lo : Nat) (v : Value) (n : Nat) (xs : List ByteArray) (z : ByteArray) (hown : w.ownsRow lo 9 1 v n (strs xs)) (hs : a.eval s = v)
    (hx : a.eval x = .slice (some ⟨w.heap.size, 0, none⟩) 1 1) (hn : n ≤ 1048576) (hlo : lo ≤ w.heap.size)
    (h : ∀ v' w', w'.ownsRow lo 9 1 v' (n + 1) (strs (xs ++ [z])) → (w.alloc (.cells #[.string z] 9)).grownBy w' v.ownBlock → Below lo w w' → wpList Try.prog ops Q rest (a.put o.dst v') w') :
    wpList Try.prog ops Q (o :: rest) a (w.alloc (.cells #[.string z] 9)) := by
  obtain ⟨i0, hi, hz0, hz1, hz2⟩ := info_parts info_strS
  refine wpList_append_own _ hgd s x 22 ho lo 9 i0 (.string ⟨#[]⟩) 1 16 Try.underlying22 hi hz0 hz1 hz2 rfl (by decide) v n _ hs (hown.alloc _) ⟨w.heap.size, 0, none⟩ 1 1 [.string z] hx rfl (cell_one_new _ _ _) (by simp [Value.oneCell']) (by unfold maxLen; omega) (by omega) (by simp; omega) ?_
  intro v' w' h1 h2 _
  refine h v' w' (by simpa [strs] using h1) h2 (((Below.refl lo w).alloc hlo _).grown h2 (by simp; omega) (fun k e => (hown.lt k e).1))
theorem wpList_make_strS {ops : Array Oper} {rest : List Oper} {o : Oper} {a : Act} {Q : Exit → Act → World → Prop} (w : World) (hg : o.guard = none) (l c : Operand)
    (hop : o.op = Op.makeSlice 22 l c) (lo : Nat) (n : Nat) (C : Int) (hl : a.eval l = .int .i64 0) (hc : a.eval c = .int .i64 C) (hC : C = (n : Int)) (hn : n ≤ 1048576) (hlo : lo ≤ w.heap.size)
    (hK : ∀ v w', w'.ownsRow lo 9 1 v 0 (strs []) → Below lo w w' → wpList Try.prog ops Q rest (a.put o.dst v) w') :
    wpList Try.prog ops Q (o :: rest) a w := by
  obtain ⟨i0, hi, hz0, hz1, hz2⟩ := info_parts info_strS
  refine wpList_make_own w hg l c 22 hop lo 9 i0 (.string ⟨#[]⟩) 1 Try.underlying22 hi hz0 hz1 .i64 .i64 C n hl hc hC (by rw [hz2]; omega) (by unfold maxLen; omega) hlo ?_
  intro w' h1 h2
  exact hK _ w' h1 ((Below.refl lo w).grown h2 hlo (fun k e => by cases e))
theorem strs_made (w : World) : (w.alloc (.cells #[] 9)).ownsRow w.heap.size 9 1 (.slice (some ⟨w.heap.size, 0, none⟩) 0 0) 0 (strs []) :=
  World.ownsRow_made (base := w.heap.size) (e := 9) (size := 1) w #[] 0 (Nat.le_refl _) (by decide) rfl
theorem strs_length (xs : List ByteArray) : (strs xs).length = xs.length := by simp [strs]
theorem RowF.of_strs {W : World} {lo : Nat} {v : Value} {n : Nat} {xs : List ByteArray} (h : W.ownsRow lo 9 1 v n (strs xs)) :
    ∃ pa cap, v = .slice pa n cap ∧ n ≤ cap ∧ cap ≤ maxLen ∧ xs.length = n ∧ RowF W lo W.heap.size pa n (strF xs) := by
  obtain ⟨pa0, cap0, e0, _, _, hl, _⟩ := Row.of_owns h
  rw [strs_length] at hl
  obtain ⟨pa, cap, e, h1, h2, h3⟩ := RowF.of_owns (m := 1) (fun _ (z : ByteArray) => Value.string z) ⟨#[]⟩ xs h (fun i hi => by
    unfold strs stF
    rw [List.getElem?_map, List.getElem?_eq_getElem (by omega), Nat.div_one, List.getElem?_eq_getElem (by omega)]; rfl)
  rw [Nat.mul_one] at h3
  exact ⟨pa, cap, e, h1, h2, hl, h3.congr fun i hi => by unfold stF strF; rw [Nat.div_one]⟩
theorem RetStr.of_owns {w w' : World} {lo n : Nat} {v : Value} {xs : List ByteArray} (h : w'.ownsRow lo 9 1 v n (strs xs)) (hlo : w.heap.size ≤ lo) (hb : Below w.heap.size w w') :
    RetStr xs w (.returned v) w' := by
  obtain ⟨pa, cap, rfl, h1, h2, h3, h4⟩ := RowF.of_strs h
  exact ⟨pa, n, cap, rfl, Lib.hid h3, h1, h2, h4.mono hlo (Nat.le_refl _), hb⟩
theorem RetStr.clip {w w' : World} {lo n ca : Nat} {pa : Option Addr} {xs : List ByteArray} (h : w'.ownsRow lo 9 1 (.slice pa n ca) n (strs xs)) (hlo : w.heap.size ≤ lo) (hb : Below w.heap.size w w') :
    RetStr xs w (.returned (.slice pa n n)) w' := by
  obtain ⟨pa', cap, e, h1, h2, h3, h4⟩ := RowF.of_strs h
  cases e
  exact ⟨pa, n, n, rfl, Lib.hid h3, Nat.le_refl _, by omega, h4.mono hlo (Nat.le_refl _), hb⟩
theorem RetStr.nil (w w' : World) (hb : Below w.heap.size w w') : RetStr [] w (.returned (.slice none 0 0)) w' :=
  ⟨none, 0, 0, rfl, Lib.hid rfl, Nat.le_refl _, Nat.zero_le _, RowF.nil _ _ _ _ _, hb⟩

/-! The plain law. -/
def wAt (xs : List ByteArray) (i : Nat) : ByteArray := xs[i]?.getD ⟨#[]⟩
/-- The word at i stands in the one at k, which is another word or an earlier one. -/
def badAt (xs : List ByteArray) (i k : Nat) : Bool := !decide (k = i) && (hasB (wAt xs k).data.toList (wAt xs i).data.toList && (!((wAt xs k).toList == (wAt xs i).toList) || decide (k < i)))
def keepTo (xs : List ByteArray) (i m : Nat) : Bool := allTo (fun k => !badAt xs i k) m
def redTo (xs : List ByteArray) : Nat → List ByteArray
  | 0 => []
  | m + 1 => if keepTo xs m xs.length then redTo xs m ++ [wAt xs m] else redTo xs m
def redL (xs : List ByteArray) : List ByteArray := redTo xs xs.length
def redW (xs : List ByteArray) : List ByteArray := if wsOk xs then redL xs else []
theorem keepTo_zero (xs : List ByteArray) (i : Nat) : keepTo xs i 0 = true := rfl
theorem keepTo_succ (xs : List ByteArray) (i m : Nat) : keepTo xs i (m + 1) = (keepTo xs i m && !badAt xs i m) := rfl
theorem keepTo_bad {xs : List ByteArray} {i m : Nat} (h : badAt xs i m = true) : keepTo xs i (m + 1) = false := by rw [keepTo_succ, h]; simp
theorem keepTo_good {xs : List ByteArray} {i m : Nat} (h : badAt xs i m = false) : keepTo xs i (m + 1) = keepTo xs i m := by rw [keepTo_succ, h]; simp
theorem keepTo_false {xs : List ByteArray} {i m n : Nat} (h : keepTo xs i m = false) (hmn : m ≤ n) : keepTo xs i n = false := by
  cases e : keepTo xs i n with
  | false => rfl
  | true =>
    have h1 := (allTo_iff _ _).1 e
    have : keepTo xs i m = true := (allTo_iff _ _).2 fun j hj => h1 j (by omega)
    rw [h] at this; cases this
theorem redTo_le (xs : List ByteArray) (m : Nat) : (redTo xs m).length ≤ m := by
  induction m with
  | zero => exact Nat.le_refl _
  | succ m ih =>
    unfold redTo; split
    · rw [List.length_append, List.length_singleton]; omega
    · omega
theorem redTo_yes {xs : List ByteArray} {m : Nat} (h : keepTo xs m xs.length = true) : redTo xs (m + 1) = redTo xs m ++ [wAt xs m] := by rw [redTo, if_pos h]
theorem redTo_no {xs : List ByteArray} {m : Nat} (h : keepTo xs m xs.length = false) : redTo xs (m + 1) = redTo xs m := by rw [redTo, if_neg (by rw [h]; decide)]
theorem badAt_self (xs : List ByteArray) (i : Nat) : badAt xs i i = false := by unfold badAt; rw [decide_eq_true rfl]; rfl
theorem badAt_out {xs : List ByteArray} {i k : Nat} (h : hasB (wAt xs k).data.toList (wAt xs i).data.toList = false) : badAt xs i k = false := by unfold badAt; rw [h]; simp
theorem badAt_ne {xs : List ByteArray} {i k : Nat} (hk : k ≠ i) (h : hasB (wAt xs k).data.toList (wAt xs i).data.toList = true) (he : ((wAt xs k).toList == (wAt xs i).toList) = false) : badAt xs i k = true := by unfold badAt; rw [h, he, decide_eq_false hk]; rfl
theorem badAt_eq {xs : List ByteArray} {i k : Nat} (hk : k ≠ i) (h : hasB (wAt xs k).data.toList (wAt xs i).data.toList = true) (he : ((wAt xs k).toList == (wAt xs i).toList) = true) : badAt xs i k = decide (k < i) := by unfold badAt; rw [h, he, decide_eq_false hk]; simp
theorem redTo_app {xs : List ByteArray} {m lo : Nat} {w' : World} {v' : Value} (h : keepTo xs m xs.length = true) (ho : w'.ownsRow lo 9 1 v' ((redTo xs m).length + 1) (strs (redTo xs m ++ [wAt xs m]))) :
    w'.ownsRow lo 9 1 v' (redTo xs (m + 1)).length (strs (redTo xs (m + 1))) := by
  rw [redTo_yes h]; simpa using ho
theorem redTo_keep {xs : List ByteArray} {m lo : Nat} {w' : World} {v' : Value} (h : keepTo xs m xs.length = false) (ho : w'.ownsRow lo 9 1 v' (redTo xs m).length (strs (redTo xs m))) :
    w'.ownsRow lo 9 1 v' (redTo xs (m + 1)).length (strs (redTo xs (m + 1))) := by
  rw [redTo_no h]; exact ho

theorem q_has (s t : ByteArray) (hs : s.size ≤ 1048576) (ht : t.size ≤ 1048576) (w : World) :
    Calls Try.prog 52 #[.string s, .string t] w fun e w' => e = .returned (.bool (hasB s.data.toList t.data.toList)) ∧ w' = w := (s_has s t w hs ht).mono fun _ _ ⟨h1, h2⟩ => ⟨h1, h2.symm⟩
set_option maxHeartbeats 4000000 in
theorem s_reduce (pa : Option Addr) (n ca : Nat) (xs : List ByteArray) (lo hi : Nat) (w : World) (hl : xs.length = n) (hn : n ≤ 1048576) (hsz : ∀ i : Nat, (wAt xs i).size ≤ 1048576) (hhi : hi ≤ w.heap.size) (hr : RowF w lo hi pa n (strF xs)) :
    Calls Try.prog 28 #[.slice pa n ca] w (RetStr (redL xs) w) := by
  have HL := Lib.hid hl; have HS := Lib.hid hsz; clear hl hsz
  go_enter Try.func28, Try.ntmps28
  go_wp2
  go_loopw [3, 4] (fun v i wr => ∃ m : Nat, m ≤ n ∧ i = .int .i64 m ∧ wr.ownsRow w.heap.size 9 1 v (redTo xs m).length (strs (redTo xs m)) ∧ Below w.heap.size w wr) (fun _ i _ => n - (intOf i).toNat)
  case atStart => exact ⟨0, Nat.zero_le _, rfl, strs_made w, (Below.refl _ _).alloc (Nat.le_refl _) _⟩
  case round =>
    obtain ⟨m, hm, rfl, hown, hb⟩ := hrel
    have hle := redTo_le xs m
    by_cases hlt : m < n
    · have e1 : (m : Int) < n := by omega
      obtain ⟨wo, rfl⟩ : ∃ wo : World, wo = wr := ⟨_, rfl⟩
      go_wp2
      go_loopw [5, 6] (fun b j wr => ∃ k : Nat, k ≤ n ∧ j = .int .i64 k ∧ b = .bool (keepTo xs m k) ∧ Still wo wr) (fun _ j _ => n - (intOf j).toNat)
      case atStart => exact ⟨0, Nat.zero_le _, rfl, rfl, Still.refl _⟩
      case round =>
        obtain ⟨k, hk, rfl, rfl, hst⟩ := hrel
        by_cases hkt : k < n
        · have e2 : (k : Int) < n := by omega
          obtain ⟨g, rfl, _, _, c0, _⟩ := ((hr.kept hb).kept hst.1) k hkt
          obtain ⟨_, e3, _, _, d0, _⟩ := ((hr.kept hb).kept hst.1) m hlt
          cases e3
          unfold strF at c0 d0
          have zk := HS.out k; have zm := HS.out m
          unfold wAt at zk zm
          obtain ⟨x, hx⟩ : ∃ z, z = xs[k]?.getD ⟨#[]⟩ := ⟨_, rfl⟩
          obtain ⟨y, hy⟩ : ∃ z, z = xs[m]?.getD ⟨#[]⟩ := ⟨_, rfl⟩
          rw [← hx] at c0 zk; rw [← hy] at d0 zm
          have HX : Hid (wAt xs k = x) := Lib.hid hx.symm
          have HY : Hid (wAt xs m = y) := Lib.hid hy.symm
          clear hx hy
          by_cases hkm : k = m
          · have hg0 : ((k : Int) != (m : Int)) = false := by rw [bne_eq_false_iff_eq]; omega
            have hbad := keepTo_good (xs := xs) (i := m) (m := k) (by rw [hkm]; exact badAt_self xs m)
            have HBAD := Lib.hid hbad
            have HKM := Lib.hid hkm
            clear hbad hkm
            go_wp2
            go_quiet (fail)
            go_wp2
            go_roundw
            case rel => exact ⟨k + 1, by omega, by go_num, by rw [HBAD.out], hst.drewN _⟩
            case measure => simp [intOf]; omega
          · have hg0 : ((k : Int) != (m : Int)) = true := by rw [bne_iff_ne]; omega
            cases hh : hasB x.data.toList y.data.toList with
            | false =>
              have hbad := keepTo_good (xs := xs) (i := m) (m := k) (badAt_out (by rw [HX.out, HY.out]; exact hh))
              have HBAD := Lib.hid hbad
              have HKM := Lib.hid hkm
              have HH := Lib.hid hh
              clear hbad hkm hh
              go_wp2
              go_quiet ((go_at_call 52; exact Calls.quiet_of_same ((q_has x y zk zm _).mono fun _ _ ⟨h1, h2⟩ => ⟨by rw [h1, HH.out], h2⟩)))
              go_wp2
              go_roundw
              case rel => exact ⟨k + 1, by omega, by go_num, by rw [HBAD.out], hst.drewN _⟩
              case measure => simp [intOf]; omega
            | true =>
              cases heq : (x.toList == y.toList) with
              | false =>
                have hne : (x.toList != y.toList) = true := by unfold bne; rw [heq]; rfl
                have hbad := keepTo_bad (xs := xs) (i := m) (m := k) (badAt_ne hkm (by rw [HX.out, HY.out]; exact hh) (by rw [HX.out, HY.out]; exact heq))
                have HBAD := Lib.hid hbad
                have HKM := Lib.hid hkm
                have HH := Lib.hid hh
                clear hbad hkm hh
                go_wp2
                go_quiet ((go_at_call 52; exact Calls.quiet_of_same ((q_has x y zk zm _).mono fun _ _ ⟨h1, h2⟩ => ⟨by rw [h1, HH.out], h2⟩)))
                go_wp2
                go_roundw
                case rel => exact ⟨k + 1, by omega, by go_num, by rw [HBAD.out], hst.drewN _⟩
                case measure => simp [intOf]; omega
              | true =>
                have hne : (x.toList != y.toList) = false := by unfold bne; rw [heq]; rfl
                by_cases hlt2 : k < m
                · have hd : decide ((k : Int) < (m : Int)) = true := decide_eq_true (by omega)
                  have hbad := keepTo_bad (xs := xs) (i := m) (m := k) ((badAt_eq hkm (by rw [HX.out, HY.out]; exact hh) (by rw [HX.out, HY.out]; exact heq)).trans (decide_eq_true hlt2))
                  have HBAD := Lib.hid hbad
                  have HKM := Lib.hid hkm
                  have HH := Lib.hid hh
                  clear hbad hkm hh
                  go_wp2
                  go_quiet ((go_at_call 52; exact Calls.quiet_of_same ((q_has x y zk zm _).mono fun _ _ ⟨h1, h2⟩ => ⟨by rw [h1, HH.out], h2⟩)))
                  go_wp2
                  go_roundw
                  case rel => exact ⟨k + 1, by omega, by go_num, by rw [HBAD.out], hst.drewN _⟩
                  case measure => simp [intOf]; omega
                · have hd : decide ((k : Int) < (m : Int)) = false := decide_eq_false (by omega)
                  have hbad := keepTo_good (xs := xs) (i := m) (m := k) ((badAt_eq hkm (by rw [HX.out, HY.out]; exact hh) (by rw [HX.out, HY.out]; exact heq)).trans (decide_eq_false hlt2))
                  have HBAD := Lib.hid hbad
                  have HKM := Lib.hid hkm
                  have HH := Lib.hid hh
                  clear hbad hkm hh
                  go_wp2
                  go_quiet ((go_at_call 52; exact Calls.quiet_of_same ((q_has x y zk zm _).mono fun _ _ ⟨h1, h2⟩ => ⟨by rw [h1, HH.out], h2⟩)))
                  go_wp2
                  go_roundw
                  case rel => exact ⟨k + 1, by omega, by go_num, by rw [HBAD.out], hst.drewN _⟩
                  case measure => simp [intOf]; omega
        · obtain rfl : k = n := by omega
          have hown2 := hst.owns hown
          have hB2 := hb.trans (hst.below _)
          have hsz2 := hB2.size
          obtain ⟨g, rfl, _, _, d0, _⟩ := ((hr.kept hb).kept hst.1) m hlt
          unfold strF at d0
          obtain ⟨y, hy⟩ : ∃ z, z = xs[m]?.getD ⟨#[]⟩ := ⟨_, rfl⟩
          rw [← hy] at d0
          have HY : Hid (wAt xs m = y) := Lib.hid hy.symm
          clear hy
          cases hkp : keepTo xs m k with
          | false =>
            have HK := Lib.hid (redTo_keep (xs := xs) (m := m) (lo := w.heap.size) (by rw [HL.out]; exact hkp) hown2)
            go_wp2
            go_roundw
            case rel => exact ⟨m + 1, by omega, by go_num, HK.out, hB2⟩
            case measure => simp [intOf]; omega
          | true =>
            have HK := Lib.hid hkp
            clear hown hb hst hkp
            go_wp2_with (at_builtin; refine wpList_append_strS rfl _ _ rfl w.heap.size _ (redTo xs m).length (redTo xs m) y hown2 rfl rfl (by omega) (by exact hsz2) ?_; intro v' w4 hown4 hgrow4 hb4)
            have H4 := Lib.hid (redTo_app (xs := xs) (m := m) (by rw [HL.out]; exact HK.out) (by rw [HY.out]; exact hown4))
            clear hown4
            go_roundw
            case rel => exact ⟨m + 1, by omega, by go_num, H4.out, hB2.trans hb4⟩
            case measure => simp [intOf]; omega
    · obtain rfl : m = n := by omega
      go_wp2
      go_ret
      unfold redL
      rw [HL.out]
      exact RetStr.of_owns hown (Nat.le_refl _) hb
end Go.Proofs.Ytpabgagfkicobaa
