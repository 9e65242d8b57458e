/- Slices of strings that a call makes; the walk of the reference's PairsOf. -/
import Derived.Test.YtkgdifngijeenaaPq
import Derived.Test.YtkgdifngijeenaaPp
import Derived.Test.YtkgdifngijeenaaRd
namespace Go.Proofs.Ytkgdifngijeenaa
open Go.RowKit
set_option linter.unusedVariables false

/-- A list of bytes as a string. -/
def ofL (l : List UInt8) : ByteArray := ⟨l.toArray⟩
theorem ofL_size (l : List UInt8) : (ofL l).size = l.length := by show l.toArray.size = _; simp
theorem ofL_data (l : List UInt8) : (ofL l).data.toList = l := by simp [ofL]
theorem ofL_app (a b : List UInt8) : ofL a ++ ofL b = ofL (a ++ b) := by
  apply ByteArray.ext; rw [ByteArray.data_append]; simp [ofL]
theorem ofL_of {b : ByteArray} {l : List UInt8} (h : b.data.toList = l) : b = ofL l := by subst h; rfl
theorem ofL_cut (s : ByteArray) (i j : Nat) : s.extract i j = ofL ((s.data.toList.drop i).take (j - i)) := ofL_of (Lib.extract_data s i j)
theorem info_str : (Try.prog.info? 9).map (fun i => (i.zero, i.size, i.bytes)) = some (some (.string ⟨#[]⟩), 1, 16) := by kernel_rfl
theorem wpList_append_str {ops : Array Oper} {rest : List Oper} {o : Oper} {a : Act} {Q : Exit → Act → World → Prop} {w : World} (hgd : o.guard = none) (s x : Operand)
    (ho : o.op = .call { callee := .builtin .append, args := #[s, x], argTypes := #[63, 63] })
    (lo : Nat) (v : Value) (n : Nat) (xs : List ByteArray) (z : ByteArray) (hown : w.ownsRow lo 9 1 v n (strs xs)) (hs : a.eval s = v)
    (hx : a.eval x = .slice (some ⟨w.heap.size, 0, none⟩) 1 1) (hn : n ≤ 1048576) (hlo : lo ≤ w.heap.size)
    (h : ∀ v' w', w'.ownsRow lo 9 1 v' (n + 1) (strs (xs ++ [z])) → (w.alloc (.cells #[.string z] 9)).grownBy w' v.ownBlock → Below lo w w' → wpList Try.prog ops Q rest (a.put o.dst v') w') :
    wpList Try.prog ops Q (o :: rest) a (w.alloc (.cells #[.string z] 9)) := by
  obtain ⟨i0, hi, hz0, hz1, hz2⟩ := info_parts info_str
  refine wpList_append_own _ hgd s x 63 ho lo 9 i0 (.string ⟨#[]⟩) 1 16 Try.underlying63 hi hz0 hz1 hz2 rfl (by decide) v n _ hs (hown.alloc _) ⟨w.heap.size, 0, none⟩ 1 1 [.string z] hx rfl (cell_one_new _ _ _) (by simp [Value.oneCell']) (by unfold maxLen; omega) (by omega) (by simp; omega) ?_
  intro v' w' h1 h2 _
  refine h v' w' (by simpa [strs] using h1) h2 (((Below.refl lo w).alloc hlo _).grown h2 (by simp; omega) (fun k e => (hown.lt k e).1))
/-- Rows of different element types never share a block. -/
theorem own_ne {W : World} {b1 b2 e1 e2 m1 m2 n1 n2 : Nat} {v1 v2 : Value} {x1 x2 : List Value} (h1 : W.ownsRow b1 e1 m1 v1 n1 x1) (h2 : W.ownsRow b2 e2 m2 v2 n2 x2) (hne : e1 ≠ e2) : v1.ownBlock = none ∨ v1.ownBlock ≠ v2.ownBlock := by
  rcases h1.2 with ⟨rfl, _⟩ | ⟨g, cap, cur, rfl, _, hh, _⟩
  · exact .inl rfl
  · right
    rcases h2.2 with ⟨rfl, _⟩ | ⟨g', cap', cur', rfl, _, hh', _⟩
    · simp [Value.ownBlock]
    · simp only [Value.ownBlock]
      intro e; cases e
      rw [hh] at hh'; cases hh'; exact hne rfl
/-- The string at place i of an owned row. -/
theorem str_at {W : World} {lo n : Nat} {v : Value} {rows : List (List UInt8)} (h : W.ownsRow lo 9 1 v n (strs (rows.map ofL))) {i : Nat} (hi : i < n) :
    ∃ g cap, v = .slice (some ⟨g, 0, none⟩) n cap ∧ W.cell? ⟨g, i, none⟩ = some (.string (ofL (rowAt rows i))) := by
  obtain ⟨pa, cap, rfl, _, _, hl, hr⟩ := Row.of_owns h
  have hl2 : rows.length = n := by rw [← hl]; simp [strs]
  obtain ⟨g, rfl, _, _, hc, _⟩ := hr i (.string (ofL (rowAt rows i))) (by
    unfold strs rowAt
    rw [List.map_map, List.getElem?_map, List.getElem?_eq_getElem (by omega)]; rfl)
  exact ⟨g, cap, rfl, hc⟩
theorem rowAt_len {rows : List (List UInt8)} (i : Nat) : (rowAt rows i).length ≤ rows.flatten.length := by
  unfold rowAt
  by_cases h : i < rows.length
  · rw [List.getElem?_eq_getElem h]
    have := List.Sublist.length_le (List.sublist_flatten_of_mem (List.getElem_mem h)); exact this
  · rw [List.getElem?_eq_none (by omega)]; exact Nat.zero_le _
/-- The pairs as memory has them. -/
def prB (p : Nat × List UInt8) : PrP := ((p.1 : Int), ofL p.2)
theorem isPre_cut {s : ByteArray} {a : Nat} {r : List UInt8} (h : a + r.length ≤ s.size) : isPre (s.data.toList.drop a) r = ((s.extract a (a + r.length)).toList == (ofL r).toList) := by
  rw [Lib.toList_data, Lib.toList_data, Lib.extract_data, ofL_data]
  unfold isPre
  rw [Bool.eq_iff_iff, decide_eq_true_eq, beq_iff_eq, show a + r.length - a = r.length by omega]
theorem isPre_long {s : ByteArray} {a : Nat} {r : List UInt8} (ha : a ≤ s.size) (h : ¬ a + r.length ≤ s.size) : isPre (s.data.toList.drop a) r = false := by
  cases e : isPre (s.data.toList.drop a) r with
  | false => rfl
  | true => have := isPre_le e; rw [List.length_drop, list_len] at this; omega
theorem bk_yes {rows : List (List UInt8)} {r : List UInt8} {k : Nat} (h : isPre r (rowAt rows k) = true) (h2 : (rowAt rows (bkTo rows r (k - 1))).length < (rowAt rows k).length) (hk : 1 ≤ k) : bkTo rows r k = k := by
  obtain ⟨m, rfl⟩ : ∃ m, k = m + 1 := ⟨k - 1, by omega⟩
  rw [Nat.add_sub_cancel] at h2
  rw [bkTo, h, Bool.true_and, if_pos (decide_eq_true h2)]
theorem bk_no {rows : List (List UInt8)} {r : List UInt8} {k : Nat} (h : isPre r (rowAt rows k) = false ∨ ¬ (rowAt rows (bkTo rows r (k - 1))).length < (rowAt rows k).length) (hk : 1 ≤ k) : bkTo rows r k = bkTo rows r (k - 1) := by
  obtain ⟨m, rfl⟩ : ∃ m, k = m + 1 := ⟨k - 1, by omega⟩
  rw [Nat.add_sub_cancel] at h ⊢
  rw [bkTo]
  rcases h with h | h
  · rw [h, Bool.false_and, if_neg (by decide)]
  · rw [decide_eq_false h, Bool.and_false, if_neg (by decide)]

theorem prTo_len (s : List UInt8) (n : Nat) : (prTo s n).2.1.length = (prTo s n).2.2.length + 1 := (prOk s n).len
theorem pr_flat {s : List UInt8} {n : Nat} : (prTo s n).2.1.flatten.length ≤ s.length := by
  have := congrArg List.length (prOk s n).all; rw [List.length_append] at this; omega
theorem pr_next {s : ByteArray} {n p : Nat} {rows : List (List UInt8)} {ps : List (Nat × List UInt8)} (h : prTo s.data.toList n = (s.data.toList.drop p, rows, ps)) (hp : p < s.size) {b : Nat} (hb : b = bk rows (s.data.toList.drop p)) {lt : List UInt8}
    (hlt : lt = (s.data.toList.drop (p + (rowAt rows b).length)).take 1) : prTo s.data.toList (n + 1) = (s.data.toList.drop (p + (rowAt rows b).length + 1), rows ++ [rowAt rows b ++ lt], ps ++ [(b, lt)]) := by
  have hne : (prTo s.data.toList n).1 ≠ [] := by
    rw [h]; intro e
    have := congrArg List.length e
    rw [List.length_drop, list_len, List.length_nil] at this; omega
  rw [prTo_go hne, h]
  subst hlt
  subst hb
  unfold prStep prLet prRow
  simp only [List.drop_drop, Nat.add_assoc]
theorem rows_made1 (w : World) (base : Nat) (hb : base ≤ w.heap.size) : (w.alloc (.cells #[.string ⟨#[]⟩] 9)).ownsRow base 9 1 (.slice (some ⟨w.heap.size, 0, none⟩) 1 1) 1 (strs (([[]] : List (List UInt8)).map ofL)) :=
  ⟨by simp [strs], .inr ⟨w.heap.size, 1, #[.string ⟨#[]⟩], rfl, hb, heap_alloc_new w _, Nat.le_refl _, by unfold maxLen; omega, by simp, by simp [strs, ofL]⟩⟩
def prI (s : ByteArray) : List PrP := if vt s.data.toList then (pairsL s.data.toList).map prB else []
theorem prI_no {s : ByteArray} (h : vt s.data.toList = false) : prI s = [] := by unfold prI; rw [if_neg (by rw [h]; decide)]
theorem prI_yes {s : ByteArray} (h : vt s.data.toList = true) : prI s = (pairsL s.data.toList).map prB := by unfold prI; rw [if_pos h]
/-- The same, with room for the slice's numbers. -/
def RetPrC (ps : List PrP) (w : World) (e : Ending) (w' : World) : Prop := (∃ pa n ca, e = .returned (.slice pa n ca) ∧ n ≤ ca ∧ ca ≤ maxLen) ∧ RetPr ps w e w'
theorem vt_siz {s : ByteArray} (h : vt s.data.toList = true) : s.size ≤ 40 := by
  unfold vt at h; rw [Bool.and_eq_true, decide_eq_true_eq, list_len] at h; exact h.2
set_option maxRecDepth 100000 in
set_option maxHeartbeats 8000000 in
theorem s_PairsOfC (s : ByteArray) (w : World) (hs : s.size ≤ maxLen) : Calls Try.prog 38 #[.string s] w (RetPrC (prI s) w) := by
  cases h1 : vt s.data.toList
  · rw [prI_no h1]
    go_enter Try.func38, Try.ntmps38
    go_wp2_with fail
    refine (s_validText _ _ hs).mono ?_; rintro e w1 ⟨rfl, rfl⟩
    go_wp2
    go_ret
    exact ⟨⟨none, 0, 0, rfl, Nat.le_refl _, Nat.zero_le _⟩, none, 0, 0, rfl, Lib.hid rfl, by omega, RowF.nil _ _ _ _ _, Below.refl _ _⟩
  · have hsz := vt_siz h1
    rw [prI_yes h1]
    have HV := Lib.hid h1
    go_enter Try.func38, Try.ntmps38
    go_wp2_with fail
    refine (s_validText _ _ hs).mono ?_; rintro e w1 ⟨rfl, rfl⟩
    rw [HV.out]
    clear h1
    go_wp2
    go_loopw [3, 4, 5, 6, 7, 8, 9] (fun vo vr a _ _ _ _ wr => ∃ (n p k : Nat) (rows : List (List UInt8)) (ps : List (Nat × List UInt8)) (v1 v2 : Value), v1 = vo ∧ v2 = vr ∧ Hid (prTo s.data.toList n = (s.data.toList.drop p, rows, ps)) ∧ a = .int .i64 p ∧ p ≤ s.size + 1 ∧ k = ps.length ∧ k ≤ p ∧
      wr.ownsRow w.heap.size 48 2 v1 k ((ps.map prB).flatMap prCells) ∧ wr.ownsRow w.heap.size 9 1 v2 (k + 1) (strs (rows.map ofL)) ∧ Below w.heap.size w wr) (fun _ _ a _ _ _ _ _ => s.size + 1 - (intOf a).toNat)
    case atStart => exact ⟨0, 0, 0, [[]], [], _, _, rfl, rfl, Lib.hid rfl, rfl, by omega, rfl, Nat.le_refl _, (pr_made w).alloc _, by simpa using rows_made1 (w.alloc (.cells #[] 48)) w.heap.size (by simp), ((Below.refl _ _).alloc (Nat.le_refl _) _).alloc (by simp) _⟩
    case round =>
      obtain ⟨n, p, k, rows, ps, v1, v2, rfl, rfl, HP, rfl, hp, hk, hkp, hown, hrows, hb⟩ := hrel
      have HK := Lib.hid hk; clear hk
      have hwr := hb.size
      have hrl : rows.length = k + 1 := by have := prTo_len s.data.toList n; rw [HP.out] at this; rw [HK.out]; exact this
      have hfl : rows.flatten.length ≤ 40 := by have := pr_flat (s := s.data.toList) (n := n); rw [HP.out, list_len] at this; simp only at this; omega
      have hok := prOk s.data.toList n
      rw [HP.out] at hok
      have HOK := Lib.hid hok
      have HRL := Lib.hid hrl
      clear hok hrl
      by_cases hlt : p < s.size
      · obtain ⟨wo, rfl⟩ : ∃ wo : World, wo = wr := ⟨_, rfl⟩
        go_wp2
        go_loopw [6, 7, 8] (fun bk i _ wr => ∃ j : Nat, 1 ≤ j ∧ j ≤ k + 1 ∧ i = .int .i64 j ∧ bk = .int .i64 (bkTo rows (s.data.toList.drop p) (j - 1) : Nat) ∧ Still wo wr) (fun _ i _ _ => k + 1 - (intOf i).toNat)
        case atStart => exact ⟨1, Nat.le_refl _, by omega, rfl, rfl, Still.refl _⟩
        case round =>
          obtain ⟨j, hj1, hj, rfl, rfl, hst⟩ := hrel
          have hrows2 := hst.owns hrows
          have hble := bkTo_le rows (s.data.toList.drop p) (j - 1)
          obtain ⟨b, hbd⟩ : ∃ b, b = bkTo rows (s.data.toList.drop p) (j - 1) := ⟨_, rfl⟩
          rw [← hbd] at hble ⊢
          have HB := Lib.hid hbd; clear hbd
          by_cases hjl : j < k + 1
          · obtain ⟨g, cap, rfl, cj⟩ := str_at hrows2 (i := j) hjl
            obtain ⟨_, _, e2, cb⟩ := str_at hrows2 (i := b) (by omega)
            cases e2
            have lj := rowAt_len (rows := rows) j
            have lb := rowAt_len (rows := rows) b
            have sj := ofL_size (rowAt rows j)
            have sb := ofL_size (rowAt rows b)
            have hyes := @bk_yes rows (s.data.toList.drop p) j
            have hno := @bk_no rows (s.data.toList.drop p) j
            rw [← HB.out] at hyes hno
            have hcut := @isPre_cut s p (rowAt rows j)
            have hlong := @isPre_long s p (rowAt rows j) (by omega)
            rw [← sj] at hcut hlong hyes hno lj
            rw [← sb] at hyes hno lb
            obtain ⟨rj, hrj⟩ : ∃ r, r = ofL (rowAt rows j) := ⟨_, rfl⟩
            obtain ⟨rb, hrb⟩ : ∃ r, r = ofL (rowAt rows b) := ⟨_, rfl⟩
            rw [← hrj] at cj hcut hlong hyes hno lj
            rw [← hrb] at cb hyes hno lb
            have HYES := Lib.hid hyes; have HNO := Lib.hid hno; have HCUT := Lib.hid hcut; have HLONG := Lib.hid hlong
            clear hyes hno hcut hlong sj sb hrj hrb
            have e1 : (j : Int) < (k : Int) + 1 := by omega
            have e2 : (b : Int) < (k : Int) + 1 := by omega
            have w1 : IntKind.i64.wrap ((p : Int) + rj.size) = p + rj.size := IntWalk.i64_in _ (by omega)
            have w2 : ((p : Int) + rj.size).toNat = p + rj.size := by omega
            have w3 : (0 : Int) ≤ (p : Int) + rj.size := by omega
            have w5 : (p : Int) ≤ (p : Int) + rj.size := by omega
            by_cases h1 : p + rj.size ≤ s.size
            · have d1 : decide ((p : Int) + rj.size ≤ s.size) = true := decide_eq_true (by omega)
              have w4 : (p : Int) + rj.size ≤ s.size := by omega
              cases h2 : ((s.extract p (p + rj.size)).toList == rj.toList) with
              | true =>
                have hpre := (HCUT.out h1).trans h2
                have HPRE := Lib.hid hpre; clear hpre
                by_cases h3 : rb.size < rj.size
                · have d3 : decide ((rb.size : Int) < rj.size) = true := decide_eq_true (by omega)
                  have HBJ := Lib.hid (HYES.out HPRE.out h3 hj1)
                  go_wp2
                  go_quiet (fail)
                  clear w1
                  go_wp2
                  go_roundw
                  case rel => exact ⟨j + 1, by omega, by omega, by go_num, by rw [show j + 1 - 1 = j by omega, HBJ.out], hst.drewN _⟩
                  case measure => simp [intOf]; omega
                · have d3 : decide ((rb.size : Int) < rj.size) = false := decide_eq_false (by omega)
                  have HBJ := Lib.hid (HNO.out (.inr h3) hj1)
                  go_wp2
                  go_quiet (fail)
                  clear w1
                  go_wp2
                  go_roundw
                  case rel => exact ⟨j + 1, by omega, by omega, by go_num, by rw [show j + 1 - 1 = j by omega, HBJ.out], hst.drewN _⟩
                  case measure => simp [intOf]; omega
              | false =>
                have HBJ := Lib.hid (HNO.out (.inl ((HCUT.out h1).trans h2)) hj1)
                go_wp2
                go_quiet (fail)
                clear w1
                go_wp2
                go_roundw
                case rel => exact ⟨j + 1, by omega, by omega, by go_num, by rw [show j + 1 - 1 = j by omega, HBJ.out], hst.drewN _⟩
                case measure => simp [intOf]; omega
            · have d1 : decide ((p : Int) + rj.size ≤ s.size) = false := decide_eq_false (by omega)
              have HBJ := Lib.hid (HNO.out (.inl (HLONG.out h1)) hj1)
              go_wp2
              go_quiet (fail)
              clear w1
              go_wp2
              go_roundw
              case rel => exact ⟨j + 1, by omega, by omega, by go_num, by rw [show j + 1 - 1 = j by omega, HBJ.out], hst.drewN _⟩
              case measure => simp [intOf]; omega
          · obtain rfl : j = k + 1 := by omega
            have hrl := HRL.out
            have hbk : b = bk rows (s.data.toList.drop p) := by rw [HB.out]; unfold bk; rw [hrl]
            obtain ⟨g, cap, rfl, cb⟩ := str_at hrows2 (i := b) (by omega)
            have sb := ofL_size (rowAt rows b)
            have hle : p + (rowAt rows b).length ≤ s.size := by
              have hple : (rowAt rows b).length ≤ (s.data.toList.drop p).length := by rw [hbk]; exact isPre_le (bk_pre HOK.out)
              rw [List.length_drop, list_len] at hple; omega
            obtain ⟨lt, hltd⟩ : ∃ lt, lt = (s.data.toList.drop (p + (rowAt rows b).length)).take 1 := ⟨_, rfl⟩
            have hgo := pr_next HP.out hlt hbk hltd
            rw [← sb] at hgo hle hltd
            obtain ⟨rb, hrb⟩ : ∃ r, r = ofL (rowAt rows b) := ⟨_, rfl⟩
            rw [← hrb] at hgo hle hltd cb
            have HGO := Lib.hid hgo; have HRB := Lib.hid hrb
            have hown2 := hst.owns hown
            have hb2 := hb.trans (hst.below w.heap.size)
            have hwr2 := hb2.size
            clear hgo hrb sb hrl hbk hown hb hst hrows
            have e1 : (b : Int) < (k : Int) + 1 := by omega
            by_cases hin : p + rb.size < s.size
            · have hz : s.extract (p + rb.size) (p + rb.size + 1) = ofL lt := by rw [ofL_cut, hltd, show p + rb.size + 1 - (p + rb.size) = 1 by omega]
              have HZ := Lib.hid hz
              clear hz hltd
              have d1 : decide ((p : Int) + rb.size < s.size) = true := decide_eq_true (by omega)
              go_wp2_with (first
                | (at_builtin; refine wpList_append_pr rfl _ _ rfl w.heap.size _ k (ps.map prB) ((b : Int), s.extract (p + rb.size) (p + rb.size + 1)) hown2 rfl rfl (by omega) (by exact hwr2) ?_; intro v' w3 hown3 hgrow3 hb3; have hrows3 := (hrows2.alloc (.cells #[.int .i64 (b : Int), .string (s.extract (p + rb.size) (p + rb.size + 1))] 48)).kept hgrow3 (own_ne hrows2 hown2 (by decide)); obtain ⟨_, _, e3, cb3⟩ := str_at hrows3 (i := b) (by omega); cases e3; rw [← HRB.out] at cb3; have hB3 := hb2.trans hb3; have hsz3 := hB3.size)
                | (at_builtin; refine wpList_append_str rfl _ _ rfl w.heap.size _ (k + 1) (rows.map ofL) (rb ++ s.extract (p + rb.size) (p + rb.size + 1)) hrows3 rfl rfl (by omega) (by exact hsz3) ?_; intro v'' w4 hrows4 hgrow4 hb4; have hown4 := (hown3.alloc (.cells #[.string (rb ++ s.extract (p + rb.size) (p + rb.size + 1))] 9)).kept hgrow4 (own_ne hown3 hrows3 (by decide))))
              go_roundw
              case rel =>
                refine ⟨n + 1, p + rb.size + 1, k + 1, _, _, _, _, rfl, rfl, HGO, by go_num, by omega, by rw [List.length_append, List.length_singleton, HK.out], by omega, ?_, ?_, hB3.trans hb4⟩
                · rw [HZ.out] at hown4
                  rw [List.map_append]; exact hown4
                · rw [HZ.out, HRB.out, ofL_app] at hrows4
                  rw [List.map_append]; exact hrows4
              case measure => simp [intOf]; omega
            · have hlt0 : lt = [] := by rw [hltd, List.drop_of_length_le (by rw [list_len]; omega)]; rfl
              have HZ := Lib.hid hlt0
              clear hlt0 hltd
              have d1 : decide ((p : Int) + rb.size < s.size) = false := decide_eq_false (by omega)
              go_wp2_with (first
                | (at_builtin; refine wpList_append_pr rfl _ _ rfl w.heap.size _ k (ps.map prB) ((b : Int), ⟨#[]⟩) hown2 rfl rfl (by omega) (by exact hwr2) ?_; intro v' w3 hown3 hgrow3 hb3; have hrows3 := (hrows2.alloc (.cells #[.int .i64 (b : Int), .string ⟨#[]⟩] 48)).kept hgrow3 (own_ne hrows2 hown2 (by decide)); obtain ⟨_, _, e3, cb3⟩ := str_at hrows3 (i := b) (by omega); cases e3; rw [← HRB.out] at cb3; have hB3 := hb2.trans hb3; have hsz3 := hB3.size)
                | (at_builtin; refine wpList_append_str rfl _ _ rfl w.heap.size _ (k + 1) (rows.map ofL) (rb ++ ByteArray.mk #[]) hrows3 rfl rfl (by omega) (by exact hsz3) ?_; intro v'' w4 hrows4 hgrow4 hb4; have hown4 := (hown3.alloc (.cells #[.string (rb ++ ByteArray.mk #[])] 9)).kept hgrow4 (own_ne hown3 hrows3 (by decide))))
              go_roundw
              case rel =>
                refine ⟨n + 1, p + rb.size + 1, k + 1, _, _, _, _, rfl, rfl, HGO, by go_num, by omega, by rw [List.length_append, List.length_singleton, HK.out], by omega, ?_, ?_, hB3.trans hb4⟩
                · rw [HZ.out, List.map_append]; exact hown4
                · have hne : rb ++ ByteArray.mk #[] = rb := ByteArray.append_empty
                  rw [hne, HRB.out] at hrows4
                  rw [HZ.out, List.append_nil, List.map_append]; exact hrows4
              case measure => simp [intOf]; omega
      · have hend : ps = pairsL s.data.toList := by
          have hnil : (prTo s.data.toList n).1 = [] := by rw [HP.out]; exact List.drop_of_length_le (by rw [list_len]; omega)
          have := prTo_final hnil
          rw [HP.out] at this
          unfold pairsL; rw [← this]
        obtain ⟨pa, ca, rfl, hk1, hk2, hret⟩ := RetPr.of_owns hown (by rw [List.length_map]; exact HK.out.symm) (Nat.le_refl _) (by omega) hb
        have HR : Hid (RetPr ((pairsL s.data.toList).map prB) w (.returned (.slice pa k ca)) wr) := Lib.hid (by rw [← hend]; exact hret ca)
        have HK1 := Lib.hid hk1; have HK2 := Lib.hid hk2
        clear hend hret hk1 hk2
        go_wp2
        go_ret
        exact ⟨⟨_, _, _, rfl, HK1.out, HK2.out⟩, HR.out⟩
theorem s_PairsOf (s : ByteArray) (w : World) (hs : s.size ≤ maxLen) : Calls Try.prog 38 #[.string s] w (RetPr (prI s) w) :=
  (s_PairsOfC s w hs).mono fun _ _ h => h.2
end Go.Proofs.Ytkgdifngijeenaa
