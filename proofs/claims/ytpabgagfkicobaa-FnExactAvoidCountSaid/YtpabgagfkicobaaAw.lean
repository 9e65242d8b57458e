/- AvoidCount: the program's walk. -/
import Derived.Test.YtpabgagfkicobaaAv
import Derived.Laws.EntriesVeiled
namespace Go.Proofs.Ytpabgagfkicobaa
open Go.RowKit
set_option linter.unusedVariables false
set_option maxHeartbeats 1000000 in
theorem i_sufWord (s z : ByteArray) (b : Nat) (w : World) (hs : s.size ≤ maxLen) (hz : z.size ≤ maxLen) (hc : w.cell? ⟨b, 0, none⟩ = some (.string s)) :
    Calls Try.prog 37 #[.string z, .pointer (some ⟨b, 0, none⟩)] w fun e w' => e = .returned (.bool (Lib.hasSuffix s.data.toList z.data.toList)) ∧ w = w' := by
  go_enter Try.func37, Try.ntmps37
  go_wp2_with fail
  refine (l_HasSuffix s z _ hs hz).mono ?_; rintro e w' ⟨rfl, rfl⟩
  go_wp2
  go_ret
  exact ⟨rfl, rfl⟩
set_option maxHeartbeats 1000000 in
theorem i_indexSuf (s : ByteArray) (bx : Nat) (pa : Option Addr) (n ca : Nat) (xs : List ByteArray) (lo hi : Nat) (w : World) (hs : s.size ≤ maxLen) (hl : xs.length = n) (hn : n ≤ 1048576) (hsz : ∀ i : Nat, (wAt xs i).size ≤ 1048576) (hc : w.cell? ⟨bx, 0, none⟩ = some (.string s)) (hr : RowF w lo hi pa n (strF xs)) :
    Calls Try.prog 56 #[.slice pa n ca, .func (.func 37) #[] #[.pointer (some ⟨bx, 0, none⟩)]] w fun e w' => ∃ r : Int, e = .returned (.int .i64 r) ∧ Hid (decide (0 ≤ r) = sufB s.data.toList xs) ∧ Below w.heap.size w w' := by
  have HL := Lib.hid hl; have HC := Lib.hid hc; have HS := Lib.hid hsz; clear hl hc hsz
  go_enter Try.func56, Try.ntmps56
  go_wp2
  go_loopw [5, 8] (fun _ i wr => ∃ k : Nat, k ≤ n ∧ i = .int .i64 k ∧ Hid (∀ i, i < k → Lib.hasSuffix s.data.toList (wAt xs i).data.toList = false) ∧ Below w.heap.size w wr) (fun _ i _ => n - (intOf i).toNat)
  case atStart => exact ⟨0, Nat.zero_le _, rfl, Lib.hid (fun i hi => by omega), Below.refl _ _⟩
  case round =>
    obtain ⟨k, hk, rfl, HK, hb⟩ := hrel
    by_cases hlt : k < n
    · obtain ⟨g, rfl, _, _, c0, _⟩ := (hr.kept hb) k hlt
      have hzs := HS.out k
      unfold strF at c0
      unfold wAt at hzs
      obtain ⟨z, hz⟩ : ∃ z, z = xs[k]?.getD ⟨#[]⟩ := ⟨_, rfl⟩
      rw [← hz] at c0 hzs
      have HZ : Hid (wAt xs k = z) := Lib.hid hz.symm; clear hz
      have e1 : (k : Int) < n := by omega
      have HC2 := Lib.hid ((hb.cell (p := ⟨bx, 0, none⟩) (cell_lt HC.out)).trans HC.out)
      go_wp2_with fail
      refine (i_sufWord s z bx _ hs (by unfold maxLen; omega) HC2.out).mono ?_; rintro e w2 ⟨rfl, rfl⟩
      cases hw : Lib.hasSuffix s.data.toList z.data.toList with
      | true =>
        have ha : sufB s.data.toList xs = true := by
          have hkl : k < xs.length := by rw [HL.out]; exact hlt
          unfold sufB
          rw [List.any_eq_true]
          refine ⟨_, List.getElem_mem hkl, ?_⟩
          have := HZ.out
          unfold wAt at this
          rw [List.getElem?_eq_getElem hkl] at this
          rw [show xs[k] = z from this, hw]
        have HA := Lib.hid ha
        clear ha
        go_wp2
        go_ret
        exact ⟨k, rfl, Lib.hid (by rw [HA.out, decide_eq_true (by omega)]), hb⟩
      | false =>
        have HW := Lib.hid hw
        go_wp2
        go_roundw
        case rel => exact ⟨k + 1, by omega, by go_num, Lib.hid (fun i hi => by
            by_cases e : i = k
            · subst e; rw [HZ.out]; exact HW.out
            · exact HK.out i (by omega)), hb⟩
        case measure => simp [intOf]; omega
    · obtain rfl : k = n := by omega
      have ha : sufB s.data.toList xs = false := by
        unfold sufB
        rw [List.any_eq_false]
        intro x hx
        obtain ⟨i, hi, e⟩ := List.getElem_of_mem hx
        have := HK.out i (by have := HL.out; omega)
        unfold wAt at this
        rw [List.getElem?_eq_getElem hi] at this
        rw [← e, show Lib.hasSuffix s.data.toList xs[i].data.toList = false from this]; decide
      have HA := Lib.hid ha; clear ha
      go_wp2
      go_ret
      exact ⟨-1, rfl, Lib.hid (by rw [HA.out]; rfl), hb⟩
set_option maxHeartbeats 1000000 in
theorem i_anySuf (s : ByteArray) (bx : Nat) (pa : Option Addr) (n ca : Nat) (xs : List ByteArray) (lo hi : Nat) (w : World) (hs : s.size ≤ maxLen) (hl : xs.length = n) (hn : n ≤ 1048576) (hsz : ∀ i : Nat, (wAt xs i).size ≤ 1048576) (hc : w.cell? ⟨bx, 0, none⟩ = some (.string s)) (hr : RowF w lo hi pa n (strF xs)) :
    Calls Try.prog 36 #[.slice pa n ca, .func (.func 37) #[] #[.pointer (some ⟨bx, 0, none⟩)]] w fun e w' => e = .returned (.bool (sufB s.data.toList xs)) ∧ Below w.heap.size w w' := by
  go_enter Try.func36, Try.ntmps36
  go_wp2_with fail
  refine (i_indexSuf s bx pa n ca xs lo hi _ hs hl hn hsz hc hr).mono ?_; rintro e w2 ⟨r, rfl, HR, hb⟩
  go_wp2
  go_ret
  exact ⟨by rw [← HR.out]; rfl, hb⟩
/-- The boxes that the closure has caught. -/
def Env (w : World) (bl bn bk bc : Nat) (pa : Option Addr) (m ca N K : Nat) (fv : Value) : Prop :=
  w.cell? ⟨bl, 0, none⟩ = some (.slice pa m ca) ∧ w.cell? ⟨bn, 0, none⟩ = some (.int .i64 N) ∧ w.cell? ⟨bk, 0, none⟩ = some (.int .i64 K) ∧ w.cell? ⟨bc, 0, none⟩ = some fv
theorem Env.kept {w w' : World} {bl bn bk bc : Nat} {pa : Option Addr} {m ca N K : Nat} {fv : Value} (h : Env w bl bn bk bc pa m ca N K fv) (hb : Below w.heap.size w w') : Env w' bl bn bk bc pa m ca N K fv :=
  ⟨(hb.cell (p := ⟨bl, 0, none⟩) (cell_lt h.1)).trans h.1, (hb.cell (p := ⟨bn, 0, none⟩) (cell_lt h.2.1)).trans h.2.1, (hb.cell (p := ⟨bk, 0, none⟩) (cell_lt h.2.2.1)).trans h.2.2.1, (hb.cell (p := ⟨bc, 0, none⟩) (cell_lt h.2.2.2)).trans h.2.2.2⟩
def letC (K : Nat) : ByteArray := (⟨#[97, 98, 99, 100]⟩ : ByteArray).extract 0 K
theorem letC_size {K : Nat} (h : K ≤ 4) : (letC K).size = K := by unfold letC; rw [ByteArray.size_extract]; show min K 4 - 0 = K; omega
theorem letC_at {K x : Nat} (h : K ≤ 4) (hx : x < K) (hl : x < (letC K).size) : (letC K)[x] = chrB x := by
  have h1 : K = 1 ∨ K = 2 ∨ K = 3 ∨ K = 4 := by omega
  rcases h1 with rfl | rfl | rfl | rfl
  · obtain rfl : x = 0 := by omega
    rfl
  · have : x = 0 ∨ x = 1 := by omega
    rcases this with rfl | rfl <;> rfl
  · have : x = 0 ∨ x = 1 ∨ x = 2 := by omega
    rcases this with rfl | rfl | rfl <;> rfl
  · have : x = 0 ∨ x = 1 ∨ x = 2 ∨ x = 3 := by omega
    rcases this with rfl | rfl | rfl | rfl <;> rfl
theorem chrB_num {x : Nat} (h : x < 4) : ((chrB x).toNat : Int) = ((97 + x : Nat) : Int) := by
  match x, h with
  | 0, _ => rfl
  | 1, _ => rfl
  | 2, _ => rfl
  | 3, _ => rfl
theorem chr_enc {x : Nat} (h : x < 4) : Utf8.encode ((97 + x : Nat) : Int) = chr1 x := by
  match x, h with
  | 0, _ => rfl
  | 1, _ => rfl
  | 2, _ => rfl
  | 3, _ => rfl
abbrev cntV (bl bn bk bc : Nat) : Value := .func (.func 35) #[] #[.pointer (some ⟨bl, 0, none⟩), .pointer (some ⟨bn, 0, none⟩), .pointer (some ⟨bk, 0, none⟩), .pointer (some ⟨bc, 0, none⟩)]
def CntRet (v : Nat) (w : World) (e : Ending) (w' : World) : Prop := e = .returned (.int .i64 (v : Nat)) ∧ Below w.heap.size w w'
set_option maxHeartbeats 2000000 in
theorem i_count (bl bn bk bc : Nat) (pa : Option Addr) (m ca : Nat) (xs : List ByteArray) (lo hi N K : Nat) (hl : xs.length = m) (hm : m ≤ 1048576) (hsz : ∀ i : Nat, (wAt xs i).size ≤ 1048576) (hN : N ≤ 6) (hK : K ≤ 4) :
    ∀ (d : Nat) (s : ByteArray) (w : World), s.size + d = N → avB s.data.toList xs = sufB s.data.toList xs → RowF w lo hi pa m (strF xs) → Env w bl bn bk bc pa m ca N K (cntV bl bn bk bc) →
      Calls Try.prog 35 #[.string s, .pointer (some ⟨bl, 0, none⟩), .pointer (some ⟨bn, 0, none⟩), .pointer (some ⟨bk, 0, none⟩), .pointer (some ⟨bc, 0, none⟩)] w (CntRet (cntA xs K d s.data.toList) w) := by
  have HL := Lib.hid hl; have HS := Lib.hid hsz; clear hl hsz
  intro d
  induction d with
  | zero =>
    intro s w hsd hgood hr henv
    have hb0 : Below w.heap.size w (w.alloc (.cells #[.string s] 9)) := (Below.refl _ w).alloc (Nat.le_refl _) _
    have hc0 : (w.alloc (.cells #[.string s] 9)).cell? ⟨w.heap.size, 0, none⟩ = some (.string s) := cell_one_new w (.string s) 9 0 (.string s) rfl
    have hsm : s.size ≤ maxLen := by unfold maxLen; omega
    have HC0 := Lib.hid hc0
    have hr0 := hr.kept hb0
    have henv0 := henv.kept hb0
    have HG := Lib.hid hgood
    obtain ⟨v1, v2, v3, v4⟩ := henv0
    have HE := Lib.hid (henv.kept hb0)
    clear hc0 hr hgood henv v2 v3 v4
    go_enter Try.func35, Try.ntmps35
    go_wp2_with fail
    refine (i_anySuf s w.heap.size pa m ca xs lo hi _ hsm HL.out hm HS.out HC0.out hr0).mono ?_; rintro e w1 ⟨rfl, hb1⟩
    rw [← HG.out]
    have hB1 := below_then hb0 hb1
    cases ha : avB s.data.toList xs with
    | true =>
      have HC := Lib.hid (cntA_bad (k := K) (d := 0) ha)
      go_wp2_with fail
      go_ret
      exact ⟨by rw [HC.out]; rfl, hB1⟩
    | false =>
      have HC := Lib.hid (cntA_zero (k := K) ha)
      have hq : ((s.size : Int) == (N : Int)) = true := by rw [beq_iff_eq]; omega
      obtain ⟨_, u2, _, _⟩ := HE.out.kept hb1
      have u0 := (hb1.cell (p := ⟨w.heap.size, 0, none⟩) (cell_lt HC0.out)).trans HC0.out
      have HSD := Lib.hid hsd
      clear hsd v1
      go_wp2_with fail
      go_ret
      exact ⟨by rw [HC.out]; rfl, hB1⟩
  | succ d ih =>
    intro s w hsd hgood hr henv
    have HIH := Lib.hid ih; clear ih
    have hb0 : Below w.heap.size w (w.alloc (.cells #[.string s] 9)) := (Below.refl _ w).alloc (Nat.le_refl _) _
    have hc0 : (w.alloc (.cells #[.string s] 9)).cell? ⟨w.heap.size, 0, none⟩ = some (.string s) := cell_one_new w (.string s) 9 0 (.string s) rfl
    have hsm : s.size ≤ maxLen := by unfold maxLen; omega
    have HC0 := Lib.hid hc0
    have hr0 := hr.kept hb0
    have henv0 := henv.kept hb0
    have HG := Lib.hid hgood
    obtain ⟨v1, v2, v3, v4⟩ := henv0
    have HE := Lib.hid (henv.kept hb0)
    clear hc0 hr hgood henv v2 v3 v4
    go_enter Try.func35, Try.ntmps35
    go_wp2_with fail
    refine (i_anySuf s w.heap.size pa m ca xs lo hi _ hsm HL.out hm HS.out HC0.out hr0).mono ?_; rintro e w1 ⟨rfl, hb1⟩
    rw [← HG.out]
    have hB1 := below_then hb0 hb1
    cases ha : avB s.data.toList xs with
    | true =>
      have HC := Lib.hid (cntA_bad (k := K) (d := d + 1) ha)
      go_wp2_with fail
      go_ret
      exact ⟨by rw [HC.out]; rfl, hB1⟩
    | false =>
      have HC := Lib.hid (cntA_succ (k := K) (d := d) ha)
      have HA := Lib.hid ha
      have hq : ((s.size : Int) == (N : Int)) = false := by rw [beq_eq_false_iff_ne]; omega
      obtain ⟨_, u2, u3, u4⟩ := HE.out.kept hb1
      have u0 := (hb1.cell (p := ⟨w.heap.size, 0, none⟩) (cell_lt HC0.out)).trans HC0.out
      have hs6 : s.size ≤ 6 := by omega
      have hd6 : d ≤ 6 := by omega
      have HSD := Lib.hid hsd
      have HE1 := Lib.hid (HE.out.kept hb1)
      have HR1 := Lib.hid (hr0.kept hb1)
      have e4 : (K : Int) ≤ 4 := by omega
      have e5 : K ≤ (⟨#[97, 98, 99, 100]⟩ : ByteArray).size := hK
      have hb1x := Lib.hid hb1
      clear hsd v1 hr0
      go_wp2_with fail
      have hit0 : (w1.iter (letC K) 0).heap[w1.heap.size]? = some (.stringIter (letC K) 0) := World.iter_heap w1 (letC K) 0
      have hbi : Below w1.heap.size w1 (w1.iter (letC K) 0) := (Below.refl _ _).alloc (Nat.le_refl _) _
      go_loopw [7] (fun z wr => ∃ x : Nat, x ≤ K ∧ z = .int .i64 (sumTo (fun x => cntA xs K d (s.data.toList ++ [chrB x])) x : Nat) ∧ wr.heap[w1.heap.size]? = some (.stringIter (letC K) x) ∧ Below w1.heap.size w1 wr) (fun _ wr => K - wr.iterPos w1.heap.size)
      case atStart => exact ⟨0, Nat.zero_le _, rfl, hit0, hbi⟩
      case round =>
        obtain ⟨x, hx, rfl, hit, hb⟩ := hrel
        clear hit0 hbi u2 u3 u4 u0 hb1
        have hwr := hb.size
        by_cases hlt : x < K
        · have hx4 : x < 4 := by omega
          have hxl : x < (letC K).size := by rw [letC_size hK]; exact hlt
          obtain ⟨r, hr⟩ : ∃ r : Int, r = ((97 + x : Nat) : Int) := ⟨_, rfl⟩
          have hnx : ∀ ty, (Instr.next (.pointer (some ⟨w1.heap.size, 0, none⟩)) true ty).run Try.prog wr = .ok (.tuple #[.bool true, .int .i64 x, .int .i32 r]) (wr.iterAt w1.heap.size (letC K) (x + 1)) := fun ty => by
            rw [Lib.run_next_ascii_at wr w1.heap.size (letC K) x ty hit hxl (by rw [letC_at hK hlt hxl]; have := chrB_num hx4; omega), letC_at hK hlt hxl, chrB_num hx4, hr]
          have henc : Utf8.encode r = chr1 x := by rw [hr]; exact chr_enc hx4
          have HENC := Lib.hid henc
          have henl : (Utf8.encode r).size ≤ 4 := by rw [henc]; show 1 ≤ 4; omega
          have hit2 := Lib.iterAt_heap wr w1.heap.size (letC K) x (x + 1) hit
          have hb2 : Below w1.heap.size w1 (wr.iterAt w1.heap.size (letC K) (x + 1)) := Lib.below_iterAt hb (k := w1.heap.size) (Nat.le_refl _) (letC K) (x + 1)
          have henv2 := HE1.out.kept hb2
          have HENV2 := Lib.hid henv2
          obtain ⟨u1, u2, u3, u4⟩ := henv2
          have u0 := (hb2.cell (p := ⟨w.heap.size, 0, none⟩) (cell_lt ((hb1x.out.cell (p := ⟨w.heap.size, 0, none⟩) (cell_lt HC0.out)).trans HC0.out))).trans ((hb1x.out.cell (p := ⟨w.heap.size, 0, none⟩) (cell_lt HC0.out)).trans HC0.out)
          have HR2 := Lib.hid (HR1.out.kept hb2)
          have hgood2 := avB_push (chrB x) HA.out
          have HG2 : Hid (avB (s ++ chr1 x).data.toList xs = sufB (s ++ chr1 x).data.toList xs) := Lib.hid (by rw [chr1_app]; exact hgood2)
          have hsum := sumTo_cnt (xs := xs) hK hd6 s.data.toList (j := x) (by omega)
          have hone := cntA_le (xs := xs) hK hd6 (s.data.toList ++ [chrB x])
          obtain ⟨v, hv⟩ : ∃ v, v = sumTo (fun x => cntA xs K d (s.data.toList ++ [chrB x])) x := ⟨_, rfl⟩
          obtain ⟨c, hc⟩ : ∃ c, c = cntA xs K d (s.data.toList ++ [chrB x]) := ⟨_, rfl⟩
          have HV : Hid (sumTo (fun x => cntA xs K d (s.data.toList ++ [chrB x])) (x + 1) = v + c) := Lib.hid (by rw [hv, hc]; rfl)
          rw [← hv] at hsum; rw [← hc] at hone; rw [← hv]
          have HCC := Lib.hid hc
          have HIT := Lib.hid hit
          clear hv hc hgood2 henc hr u1 u2 u3
          go_wp2_with fail
          rw [HENC.out]
          refine (HIH.out (s ++ chr1 x) _ (by rw [chr1_size]; have := HSD.out; omega) HG2.out HR2.out HENV2.out).mono ?_; rintro e w3 ⟨rfl, hb3⟩
          rw [chr1_app, ← HCC.out]
          have hit3 : w3.heap[w1.heap.size]? = some (.stringIter (letC K) (x + 1)) := (hb3.block w1.heap.size (Array.getElem?_eq_some_iff.1 hit2).1).trans hit2
          have hb4 : Below w1.heap.size w1 w3 := hb2.trans (hb3.mono hb2.size)
          have HIT3 := Lib.hid hit3
          clear hit2 hb2 hb3 hnx hit3
          go_wp2
          go_roundw
          case rel => exact ⟨x + 1, by omega, by rw [HV.out]; go_num, HIT3.out, hb4⟩
          case measure => simp [World.iterPos, HIT3.out, HIT.out]; omega
        · obtain rfl : x = K := by omega
          have hnx : ∀ ty, (Instr.next (.pointer (some ⟨w1.heap.size, 0, none⟩)) true ty).run Try.prog wr = _ := fun ty => Lib.run_next_end_at wr w1.heap.size (letC x) x ty hit (by rw [letC_size hK]; omega)
          go_wp2
          go_ret
          exact ⟨by rw [HC.out]; rfl, below_then hB1 hb⟩
end Go.Proofs.Ytpabgagfkicobaa
