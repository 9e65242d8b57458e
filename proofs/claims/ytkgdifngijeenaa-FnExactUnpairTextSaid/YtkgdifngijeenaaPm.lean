/- The walk of the second PairsOf: rows are keys of a map. -/
import Derived.Test.YtkgdifngijeenaaPz
import Derived.Maps.OwnIn
import Derived.Maps.OwnOps
import Derived.Maps.Views
namespace Go.Proofs.Ytkgdifngijeenaa
open Go.RowKit Go.Maps
set_option linter.unusedVariables false

abbrev Dat := DataW Unit
/-- The map has the rows as keys, each with its index. -/
structure MapOk (rows : List (List UInt8)) (D : Dat) : Prop where
  isMap : IsMap D
  hasIt : ∀ q : List UInt8, has D (.string q) = decide (q ∈ rows)
  at_ : ∀ i, i < rows.length → D.atKey (.string (rowAt rows i)) (.lit (.int .i64 0)) = .lit (.int .i64 (i : Int))
theorem mapOk_start : MapOk [[]] ((DataW.map [] : Dat).put (.string []) (.lit (.int .i64 0))) where
  isMap := ⟨_, rfl⟩
  hasIt := fun q => by
    by_cases h : q = []
    · subst h; rw [has_put_same ⟨_, rfl⟩ (k := .string []) trivial]; simp
    · rw [has_put_other (by simpa using h)]
      rw [decide_eq_false (by simpa using h)]; rfl
  at_ := fun i hi => by
    obtain rfl : i = 0 := by simpa using hi
    exact atKey_put_same (k := .string []) ⟨_, rfl⟩ trivial _ _
theorem mapOk_step {rows : List (List UInt8)} {D : Dat} (h : MapOk rows D) {q : List UInt8} (hq : ∀ i, i < rows.length → rowAt rows i ≠ q) : MapOk (rows ++ [q]) (D.put (.string q) (.lit (.int .i64 (rows.length : Int)))) where
  isMap := by obtain ⟨es, rfl⟩ := h.isMap; exact ⟨_, rfl⟩
  hasIt := fun p => by
    by_cases e : p = q
    · subst e; rw [has_put_same (k := .string p) h.isMap trivial]; simp
    · rw [has_put_other (by simpa using e), h.hasIt]
      by_cases hp : p ∈ rows
      · rw [decide_eq_true hp, decide_eq_true (List.mem_append_left _ hp)]
      · rw [decide_eq_false hp, decide_eq_false]
        intro hm
        rcases List.mem_append.1 hm with hm | hm
        · exact hp hm
        · exact e (List.mem_singleton.1 hm)
  at_ := fun i hi => by
    rw [List.length_append, List.length_singleton] at hi
    by_cases e : i = rows.length
    · subst e; rw [rowAt_last]; exact atKey_put_same (k := .string q) h.isMap trivial _ _
    · rw [rowAt_app (by omega), atKey_put_other (by simpa using hq i (by omega))]
      exact h.at_ i (by omega)

/-- The longest beginning, of fewer than n letters, that is a row. -/
def szTo (rows : List (List UInt8)) (r : List UInt8) : Nat → Nat
  | 0 => 0
  | n + 1 => if r.take n ∈ rows then n else szTo rows r n
theorem szTo_lt (rows : List (List UInt8)) (r : List UInt8) (n : Nat) : szTo rows r n ≤ n := by
  induction n with
  | zero => exact Nat.le_refl _
  | succ n ih => unfold szTo; split <;> omega
theorem szTo_eq {rows : List (List UInt8)} {r : List UInt8} {L : Nat} (hin : r.take L ∈ rows) (n : Nat) (hmax : ∀ m, m < n → r.take m ∈ rows → m ≤ L) (hn : L < n) : szTo rows r n = L := by
  induction n with
  | zero => omega
  | succ n ih =>
    unfold szTo
    by_cases e : r.take n ∈ rows
    · rw [if_pos e]; have := hmax n (by omega) e; omega
    · rw [if_neg e]
      have : L ≠ n := fun he => e (he ▸ hin)
      exact ih (fun m hm => hmax m (by omega)) (by omega)
theorem mem_rowAt {rows : List (List UInt8)} {q : List UInt8} (h : q ∈ rows) : ∃ i, i < rows.length ∧ rowAt rows i = q := by
  obtain ⟨i, hi, e⟩ := List.getElem_of_mem h
  exact ⟨i, hi, by unfold rowAt; rw [List.getElem?_eq_getElem hi]; exact e⟩
theorem rowAt_mem {rows : List (List UInt8)} {i : Nat} (h : i < rows.length) : rowAt rows i ∈ rows := by
  unfold rowAt; rw [List.getElem?_eq_getElem h]; exact List.getElem_mem h
theorem szTo_row {s : List UInt8} {st : PrSt} (h : PrOk s st) : szTo st.2.1 st.1 (st.1.length + 1) = (prRow st).length := by
  have hp := of_decide_eq_true (bk_pre h)
  have hlt : bk st.2.1 st.1 < st.2.1.length := by have := bk_lt h; have := h.len; omega
  have hle := isPre_le (bk_pre h)
  refine szTo_eq ?_ _ ?_ (by omega)
  · rw [hp]; exact rowAt_mem hlt
  · intro m hm hmem
    obtain ⟨i, hi, e⟩ := mem_rowAt hmem
    have := bk_max h hi (by unfold isPre; rw [e, decide_eq_true_eq, List.length_take]; congr 1; omega)
    rw [e, List.length_take] at this; omega
theorem row_take {s : List UInt8} {st : PrSt} (h : PrOk s st) : st.1.take (prRow st).length = prRow st := of_decide_eq_true (bk_pre h)

theorem key9 : Keyed Try.prog 9 := string_keyed Try.underlying9
theorem zero3m (w : World) : (zeroValue 3).run Try.prog w = .ok (.int .i64 0) w := by kernel_rfl
theorem key_str {s : ByteArray} (hs : s.size ≤ maxLen) : keyOf Try.prog 9 (.string s) = some (.string s.data.toList) := Go.WideMaps.keyOf_string_mk Try.underlying9 hs
theorem wpList_insert_own {H : Type} {P : Program} (w : World) {ops : Array Oper} {rest : List Oper} {o : Oper} {a : Act} {Q : Exit → Act → World → Prop}
    (hg : o.guard = none) (m x v : Operand) (t : TypeId) (hop : o.op = Op.insert t m x v)
    (k e : TypeId) (K : Keyed P k) (ht : P.underlying t = some (.map k e)) (R : Value → Option (DataW H × List MemPlace)) (b n : Nat) (D : DataW H)
    (hm : a.eval m = .map (some b)) (hown : w.ownsMap P k R b n D) (hn : n < maxLen) (key val : Value) (kl : Lit) (hx : a.eval x = key) (hv : a.eval v = val) (hkey : keyOf P k key = some kl)
    (d : DataW H) (ps : List MemPlace) (hval : R val = some (d, ps))
    (hK : ∀ w', w'.ownsMap P k R b (n + 1) (D.put kl d) → w.grownBy w' (some b) → wpList P ops Q rest (a.put o.dst undef) w') :
    wpList P ops Q (o :: rest) a w := by
  refine wpList_plain hg fun K' hK' => ?_
  obtain ⟨w', hrun, r1, r2⟩ := hown.update K ht hn hkey hval
  unfold Oper.wp
  simp [execOp, hop, hm, hx, hv, hrun, Result.andThen]
  exact hK' _ _ (hK w' r1 r2)
/-- A row's block is no map's. -/
theorem own_map {W : World} {lo e m n b n2 : Nat} {v : Value} {x : List Value} {D : Dat} (h1 : W.ownsRow lo e m v n x) (h2 : W.ownsMap Try.prog 9 (plainElem Try.prog 3) b n2 D) : ∀ k, v.ownBlock = some k → k ≠ b := by
  intro k hk e
  subst e
  obtain ⟨es, clock, hb, _⟩ := h2
  rcases h1.2 with ⟨rfl, _⟩ | ⟨g, cap, cur, rfl, _, hh, _⟩
  · simp [Value.ownBlock] at hk
  · simp only [Value.ownBlock, Option.some.injEq] at hk
    subst hk
    rw [hh] at hb; cases hb
abbrev OwnM (W : World) (B n : Nat) (D : Dat) : Prop := W.ownsMap Try.prog 9 (plainElem Try.prog 3) B n D
theorem OwnM.still {W W' : World} {B n : Nat} {D : Dat} (h : OwnM W B n D) (hs : Still W W') : OwnM W' B n D := by
  obtain ⟨es, clock, hb, r⟩ := h
  exact ⟨es, clock, by rw [hs.2]; exact hb, r⟩
theorem OwnM.setCell2 {W : World} {B b n : Nat} {D : Dat} (h : OwnM W B n D) (i : Nat) (u : Value) (hne : B ≠ b) : OwnM (W.setCell ⟨b, i, none⟩ u) B n D := World.ownsMap.setCell h hne u
theorem RetPr.after {ps : List PrP} {w w1 w' : World} {e : Ending} (hb1 : Below w.heap.size w w1) (h : RetPr ps w1 e w') : RetPr ps w e w' := by
  obtain ⟨pa, n, ca, rfl, HN, hn, hr, hb⟩ := h
  exact ⟨pa, n, ca, rfl, HN, hn, hr.mono hb1.size (Nat.le_refl _), below_then hb1 hb⟩
def strSz : Value → Nat
  | .string r => r.size
  | _ => 0
theorem map_made1 (w : World) (o : Obj) : OwnM ((w.alloc o).alloc (.map #[] 0)) (w.heap.size + 1) 0 (.map []) := by
  have := World.ownsMap_made (H := Unit) (w.alloc o) Try.prog 9 (plainElem Try.prog 3)
  rw [World.size_alloc] at this; exact this
theorem list_ne {r : ByteArray} (h : 0 < r.size) : r.toList.isEmpty = false := by
  rw [Lib.toList_data]
  cases e : r.data.toList with
  | nil => have := list_len r; rw [e] at this; simp at this; omega
  | cons a l => rfl
theorem list_em {r : ByteArray} (h : r.size = 0) : r.toList.isEmpty = true := by
  rw [Lib.toList_data]
  cases e : r.data.toList with
  | nil => rfl
  | cons a l => have := list_len r; rw [e] at this; simp at this; omega
theorem take_data {r : ByteArray} (j : Nat) : (r.extract 0 j).data.toList = r.data.toList.take j := by rw [Lib.extract_data, Nat.sub_zero, List.drop_zero]
theorem ext_size (r : ByteArray) (i j : Nat) (h : j ≤ r.size) : (r.extract i j).size = j - i := by rw [ByteArray.size_extract]; omega
theorem key_take {r : ByteArray} {j : Nat} (h : j ≤ r.size) (hr : r.size ≤ maxLen) : keyOf Try.prog 9 (.string (r.extract 0 j)) = some (.string (r.data.toList.take j)) := by
  rw [← take_data]; exact key_str (by rw [ext_size r 0 j h]; omega)
theorem lit_inj {a b : Int} (h : (DataW.lit (.int .i64 a) : Dat) = .lit (.int .i64 b)) : a = b := by cases h; rfl
theorem pair_new (w : World) (a b : Value) : (w.alloc (.cells #[a, b] 48)).cell? ⟨w.heap.size, 0, none⟩ = some a ∧ (w.alloc (.cells #[a, b] 48)).cell? ⟨w.heap.size, 1, none⟩ = some b := by
  have := heap_alloc_new w (.cells #[a, b] 48)
  exact ⟨by rw [World.cell?, this]; rfl, by rw [World.cell?, this]; rfl⟩
set_option maxRecDepth 100000 in
set_option maxHeartbeats 8000000 in
theorem i_PairsOf (s : ByteArray) (w : World) (hs : s.size ≤ maxLen) : Calls Try.prog 39 #[.string s] w (RetPr (prI s) w) := by
  cases h1 : vt s.data.toList
  · rw [prI_no h1]
    go_enter Try.func39, Try.ntmps39
    go_wp2_with fail
    refine (i_ValidText _ _ hs).mono ?_; rintro e w1 ⟨rfl, hb1⟩
    go_wp2
    go_ret
    exact ⟨none, 0, 0, rfl, Lib.hid rfl, by omega, RowF.nil _ _ _ _ _, hb1⟩
  · have hsz := vt_siz h1
    rw [prI_yes h1]
    have hmm := @run_makeMap Try.prog
    go_enter Try.func39, Try.ntmps39
    go_wp2_with fail
    refine (i_ValidText _ _ hs).mono ?_; rintro e w1 ⟨rfl, hb1⟩
    have hmade := map_made1 w1 (.cells #[] 48)
    go_wp2_with (refine wpList_insert_own (H := Unit) _ rfl _ _ _ 66 rfl 9 3 key9 Try.underlying66 (plainElem Try.prog 3) (w1.heap.size + 1) 0 (.map []) rfl hmade (by unfold maxLen; omega) (.string ⟨#[]⟩) (.int .i64 0) (.string []) rfl rfl (key_str (s := ⟨#[]⟩) (Nat.zero_le _)) (.lit (.int .i64 0)) [] (plainElem_int Try.underlying3 rfl) ?_; intro w2 hmap2 hgrow2)
    clear hmm
    have hout2 := ((pr_made w1).alloc (.map #[] 0)).kept hgrow2 (.inr (by simp [Value.ownBlock]))
    have hB2 := (((Below.refl w1.heap.size w1).alloc (Nat.le_refl _) (.cells #[] 48)).alloc (by simp) (.map #[] 0)).grown hgrow2 (by simp; omega) (fun k e => by cases e; omega)
    go_loopw [0, 3, 5, 6, 7, 8, 9] (fun sv out _ _ _ _ _ wr => ∃ (n p k nm : Nat) (rows : List (List UInt8)) (ps : List (Nat × List UInt8)) (pa : Option Addr) (ca : Nat) (D : Dat) (r : ByteArray), Value.slice pa k ca = out ∧ Value.string r = sv ∧ Hid (prTo s.data.toList n = (s.data.toList.drop p, rows, ps)) ∧ Hid (r = ofL (s.data.toList.drop p)) ∧ p + r.size = s.size ∧ p ≤ s.size ∧ Hid (ps.length = k) ∧ k ≤ p ∧ nm ≤ k + 1 ∧ wr.ownsRow w1.heap.size 48 2 (.slice pa k ca) k ((ps.map prB).flatMap prCells) ∧ OwnM wr (w1.heap.size + 1) nm D ∧ Hid (p < s.size → MapOk rows D) ∧ Below w1.heap.size w1 wr) (fun sv _ _ _ _ _ _ _ => strSz sv)
    case atStart => exact ⟨0, 0, 0, 1, [[]], [], _, _, _, s, rfl, rfl, Lib.hid rfl, Lib.hid (ofL_of rfl), Nat.zero_add _, Nat.zero_le _, Lib.hid rfl, Nat.le_refl _, Nat.le_refl _, hout2, hmap2, Lib.hid (fun _ => mapOk_start), hB2⟩
    clear hout2 hmap2 hgrow2 hB2 hmade h1
    case round =>
      obtain ⟨n, p, k, nm, rows, ps, pa, ca, D, r, rfl, rfl, HP, HR, hrs, hp, HK, hkp, hnm, hown, hmap, HM, hb⟩ := hrel
      have hwr := hb.size
      by_cases hlt : p < s.size
      · have hok := prOk s.data.toList n
        rw [HP.out] at hok
        have hszto := szTo_row hok
        have hrow := row_take hok
        have hbl : bk rows (s.data.toList.drop p) < rows.length := by
          have h1 := bk_lt hok; have h2 := hok.len; dsimp only at h1 h2; omega
        have hA := (HM.out hlt).at_ _ hbl
        have hnew := @pr_new _ _ hok
        have hpl := isPre_le (bk_pre hok)
        obtain ⟨b, hbk⟩ : ∃ b, b = bk rows (s.data.toList.drop p) := ⟨_, rfl⟩
        obtain ⟨row, hrw⟩ : ∃ row, row = prRow (s.data.toList.drop p, rows, ps) := ⟨_, rfl⟩
        have hrw2 : row = rowAt rows b := by rw [hrw, hbk]; rfl
        obtain ⟨lt, hltd⟩ : ∃ lt, lt = prLet (s.data.toList.drop p, rows, ps) := ⟨_, rfl⟩
        have hlt2 : lt = (s.data.toList.drop (p + row.length)).take 1 := by rw [hltd]; unfold prLet; rw [← hrw, List.drop_drop]
        rw [← hltd] at hnew
        have hgo := pr_next (lt := lt) HP.out hlt hbk (by rw [← hrw2]; exact hlt2)
        rw [← hrw2] at hgo
        rw [← hrw] at hszto hrow hnew hpl
        rw [← hbk] at hA hbl
        rw [← hrw2] at hA
        obtain ⟨L, hL⟩ : ∃ L, L = row.length := ⟨_, rfl⟩
        rw [← hL] at hszto hrow hpl hgo hlt2
        have hlt3 : lt = (r.data.toList.drop L).take 1 := by rw [hlt2, HR.out, ofL_data, List.drop_drop]
        have HGO := Lib.hid hgo; have HLT := Lib.hid hlt3; clear hgo hlt2 hlt3 hltd
        dsimp only at hszto hrow hnew hpl
        have hLle : L ≤ r.size := by
          rw [List.length_drop, list_len] at hpl; omega
        have hrd : r.data.toList = s.data.toList.drop p := by rw [HR.out, ofL_data]
        rw [← hrd] at hszto hrow
        have hrl : r.data.toList.length = r.size := list_len r
        rw [hrl] at hszto
        have HMk := Lib.hid (HM.out hlt)
        have HS := Lib.hid hszto
        have HRow := Lib.hid hrow
        have HA := Lib.hid hA; have HNEW := Lib.hid hnew; have HRW := Lib.hid hrw2; have HBK := Lib.hid hbk
        have hne := list_ne (r := r) (by omega)
        have hemp : r.toList.isEmpty = false := hne
        have HL := Lib.hid hL; clear hL
        clear hszto hrow hne hrl hA hnew hpl hrw hrw2 hbk
        have HRD := Lib.hid hrd; clear hrd
        have HOK := Lib.hid hok; clear hok
        obtain ⟨wo, rfl⟩ : ∃ wo : World, wo = wr := ⟨_, rfl⟩
        go_wp2
        go_loopw [5, 6, 7, 8, 21] (fun sz _ _ _ i wr => ∃ j : Nat, j ≤ r.size + 1 ∧ i = .int .i64 j ∧ sz = .int .i64 (szTo rows r.data.toList j : Nat) ∧ Still wo wr) (fun _ _ _ _ i _ => r.size + 1 - (intOf i).toNat)
        case atStart => exact ⟨0, by omega, rfl, rfl, Still.refl _⟩
        case round =>
          obtain ⟨j, hj, rfl, rfl, hst⟩ := hrel
          have hmap2 := OwnM.still hmap hst
          by_cases hjl : j < r.size + 1
          · have hstep : szTo rows r.data.toList (j + 1) = if r.data.toList.take j ∈ rows then j else szTo rows r.data.toList j := rfl
            have hle := szTo_lt rows r.data.toList j
            obtain ⟨z, hz⟩ : ∃ z, z = szTo rows r.data.toList j := ⟨_, rfl⟩
            rw [← hz] at hstep hle ⊢
            have hkey := key_take (r := r) (j := j) (by omega) (by unfold maxLen; omega)
            have hin := HMk.out.hasIt (r.data.toList.take j)
            obtain ⟨q, hq⟩ : ∃ q, q = r.data.toList.take j := ⟨_, rfl⟩
            rw [← hq] at hstep hkey hin
            have e1 : (j : Int) < (r.size : Int) + 1 := by omega
            by_cases hm : q ∈ rows
            · rw [decide_eq_true hm] at hin
              rw [if_pos hm] at hstep
              have HST := Lib.hid hstep
              clear hstep hm hz hq
              go_wp2_with (at_lookup; refine wpList_lookup_own_ok_int _ rfl _ _ 66 rfl 9 3 .i64 key9 Try.underlying66 Try.underlying3 (zero3m _) (w1.heap.size + 1) nm D rfl hmap2 _ _ rfl hkey ?_; intro c hat hwc)
              go_roundw
              case rel => exact ⟨j + 1, by omega, by go_num, by rw [HST.out], by assumption⟩
              case measure => simp [intOf]; omega
            · rw [decide_eq_false hm] at hin
              rw [if_neg hm] at hstep
              have HST := Lib.hid hstep
              clear hstep hm hz hq
              go_wp2_with (at_lookup; refine wpList_lookup_own_ok_int _ rfl _ _ 66 rfl 9 3 .i64 key9 Try.underlying66 Try.underlying3 (zero3m _) (w1.heap.size + 1) nm D rfl hmap2 _ _ rfl hkey ?_; intro c hat hwc)
              go_roundw
              case rel => exact ⟨j + 1, by omega, by go_num, by rw [HST.out], by assumption⟩
              case measure => simp [intOf]; omega
          · obtain rfl : j = r.size + 1 := by omega
            rw [HS.out]
            have hkL := key_take (r := r) (j := L) hLle (by unfold maxLen; omega)
            rw [HRow.out] at hkL
            have hown2 := hst.owns hown
            have hB2 := hb.trans (hst.below w1.heap.size)
            have hwr2 := hB2.size
            have hml := hmap2.lt
            have hdis := own_map hown2 hmap2
            have HDIS := Lib.hid hdis; clear hdis
            clear hst hmap hown hb
            by_cases hin : L < r.size
            · have d1 : decide ((L : Int) < r.size) = true := decide_eq_true (by omega)
              have hz : r.extract L (L + 1) = ofL lt := by rw [ofL_cut, HLT.out, show L + 1 - L = 1 by omega]
              have hltne : lt ≠ [] := by
                intro e
                have := congrArg List.length (HLT.out.symm.trans e)
                rw [List.length_take, List.length_drop, list_len, List.length_nil] at this; omega
              have hk2 := key_take (r := r) (j := L + 1) (by omega) (by unfold maxLen; omega)
              have ht2 : r.data.toList.take (L + 1) = row ++ lt := by rw [List.take_add, HRow.out, ← HLT.out]
              rw [ht2] at hk2
              have hrl : (rows.length : Int) = (k : Int) + 1 := by
                have := HOK.out.len; dsimp only at this; rw [HK.out] at this; omega
              have hm2 := mapOk_step HMk.out (q := row ++ lt) (fun i hi => HNEW.out hltne hi)
              rw [hrl] at hm2
              have HM2 := Lib.hid hm2
              have HZ := Lib.hid hz
              clear hm2 hz hltne ht2 hrl
              go_wp2_with (first
                | (at_lookup; refine wpList_lookup_own_int _ rfl _ _ 66 rfl 9 3 .i64 key9 Try.underlying66 Try.underlying3 (zero3m _) (w1.heap.size + 1) nm D rfl hmap2 _ _ rfl hkL ?_; intro c hat hwc; have HC : Hid (c = (b : Int)) := Lib.hid (lit_inj (hat.symm.trans HA.out)); clear hat hwc; obtain ⟨q0, q1⟩ := pair_new wr (.int .i64 c) (.string (r.extract L (L + 1))); have hmap2a := hmap2.alloc (.cells #[.int .i64 c, .string (r.extract L (L + 1))] 48))
                | (at_mapUpdate; refine wpList_mapUpdate_own (H := Unit) _ rfl _ _ _ 66 rfl 9 3 key9 Try.underlying66 (plainElem Try.prog 3) (w1.heap.size + 1) nm D rfl hmap2a (by unfold maxLen; omega) (.string (r.extract 0 (L + 1))) (.int .i64 ((k : Int) + 1)) (.string (row ++ lt)) rfl rfl hk2 (.lit (.int .i64 ((k : Int) + 1))) [] (plainElem_int Try.underlying3 (WalkArith.wf_i64 ⟨by omega, by omega⟩)) ?_; intro w3 hmap3 hgrow3; have hown3 := (hown2.alloc (.cells #[.int .i64 c, .string (r.extract L (L + 1))] 48)).kept hgrow3 (.inr (fun e => HDIS.out _ e rfl)); have p0 := hgrow3.cell q0 (fun e => by have e2 := Option.some.inj e; dsimp only at e2; omega); have p1 := hgrow3.cell q1 (fun e => by have e2 := Option.some.inj e; dsimp only at e2; omega); have hB3 := (hB2.alloc hwr2 (.cells #[.int .i64 c, .string (r.extract L (L + 1))] 48)).grown hgrow3 (by simp; omega) (fun g e => by cases e; omega); have hsz3 := hB3.size)
                | (at_builtin; refine wpList_append_pr rfl _ _ rfl w1.heap.size _ k (ps.map prB) (c, r.extract L (L + 1)) hown3 rfl rfl (by omega) (by exact hsz3) ?_; intro v' w4 hown4 hgrow4 hb4; have hmap4 := (hmap3.alloc (.cells #[.int .i64 c, .string (r.extract L (L + 1))] 48)).kept hgrow4 (fun e => HDIS.out _ e.symm rfl)))
              go_roundw
              case rel =>
                rw [HC.out, HZ.out] at hown4
                have hB4 := hB3.trans hb4
                obtain ⟨pa2, ca2, rfl, _, _, _⟩ := RetPr.of_owns (w := w1) hown4 (by rw [List.length_append, List.length_map, List.length_singleton, HK.out]) (Nat.le_refl _) (by omega) hB4
                refine ⟨n + 1, p + L + 1, k + 1, nm + 1, _, _, pa2, ca2, _, _, rfl, rfl, HGO, ?_, ?_, by omega, ?_, by omega, by omega, ?_, hmap4, Lib.hid (fun _ => HM2.out), hB4⟩
                · rw [ofL_cut, List.take_of_length_le (by rw [List.length_drop, list_len]; omega), HRD.out, List.drop_drop]; exact Lib.hid rfl
                · rw [ext_size _ _ _ (Nat.le_refl _)]; omega
                · exact Lib.hid (by rw [List.length_append, List.length_singleton, HK.out])
                · rw [List.map_append]; exact hown4
              case measure => simp only [strSz]; rw [ext_size _ _ _ (Nat.le_refl _)]; omega
            · have d1 : decide ((L : Int) < r.size) = false := decide_eq_false (by omega)
              have hlt0 : lt = [] := by rw [HLT.out, List.drop_of_length_le (by rw [list_len]; omega)]; rfl
              have HZ := Lib.hid hlt0
              clear hlt0
              go_wp2_with (first
                | (at_lookup; refine wpList_lookup_own_int _ rfl _ _ 66 rfl 9 3 .i64 key9 Try.underlying66 Try.underlying3 (zero3m _) (w1.heap.size + 1) nm D rfl hmap2 _ _ rfl hkL ?_; intro c hat hwc; have HC : Hid (c = (b : Int)) := Lib.hid (lit_inj (hat.symm.trans HA.out)); clear hat hwc; obtain ⟨q0, q1⟩ := pair_new wr (.int .i64 c) (.string ⟨#[]⟩))
                | (at_builtin; refine wpList_append_pr rfl _ _ rfl w1.heap.size _ k (ps.map prB) (c, ⟨#[]⟩) (hown2.alloc (.cells #[.int .i64 c, .string ⟨#[]⟩] 48)) rfl (by rw [World.size_alloc]; rfl) (by omega) (by exact (hB2.alloc hwr2 _).size) ?_; intro v' w4 hown4 hgrow4 hb4; have hmap4 := ((hmap2.alloc (.cells #[.int .i64 c, .string ⟨#[]⟩] 48)).alloc (.cells #[.int .i64 c, .string ⟨#[]⟩] 48)).kept hgrow4 (fun e => HDIS.out _ e.symm rfl); have hB4 := (hB2.alloc hwr2 (.cells #[.int .i64 c, .string ⟨#[]⟩] 48)).trans hb4))
              go_roundw
              case rel =>
                rw [HC.out] at hown4
                obtain ⟨pa2, ca2, rfl, _, _, _⟩ := RetPr.of_owns (w := w1) hown4 (by rw [List.length_append, List.length_map, List.length_singleton, HK.out]) (Nat.le_refl _) (by omega) hB4
                have hg := HGO.out
                rw [List.drop_of_length_le (by rw [list_len]; omega), ← List.drop_of_length_le (l := s.data.toList) (i := s.size) (by rw [list_len]; omega)] at hg
                refine ⟨n + 1, s.size, k + 1, nm, _, _, pa2, ca2, _, _, rfl, rfl, Lib.hid hg, ?_, ?_, by omega, ?_, by omega, by omega, ?_, hmap4, Lib.hid (fun h => by omega), hB4⟩
                · rw [ofL_cut, List.drop_of_length_le (by rw [list_len]; omega), List.drop_of_length_le (by rw [list_len]; omega), List.take_nil]; exact Lib.hid rfl
                · rw [ext_size _ _ _ (Nat.le_refl _)]; omega
                · exact Lib.hid (by rw [List.length_append, List.length_singleton, HK.out])
                · rw [List.map_append, HZ.out]; exact hown4
              case measure => simp only [strSz]; rw [ext_size _ _ _ (Nat.le_refl _)]; omega
      · have hemp : r.toList.isEmpty = true := list_em (by omega)
        have hend : ps = pairsL s.data.toList := by
          have hnil : (prTo s.data.toList n).1 = [] := by rw [HP.out]; exact List.drop_of_length_le (by rw [list_len]; omega)
          have := prTo_final hnil
          rw [HP.out] at this
          unfold pairsL; rw [← this]
        obtain ⟨pa2, ca2, he2, k1, k2, hret⟩ := RetPr.of_owns hown (by rw [List.length_map]; exact HK.out) (Nat.le_refl _) (by omega) hb
        cases he2
        have HRT : Hid (RetPr ((pairsL s.data.toList).map prB) w (.returned (.slice pa k k)) wr) := Lib.hid (by rw [← hend]; exact (hret k).after hb1)
        clear hend hret
        go_wp2_with fail
        refine (l_ClipPr _ _ _ _ k1 k2).mono ?_; rintro e w' ⟨rfl, rfl⟩
        go_wp2
        go_ret
        exact HRT.out
end Go.Proofs.Ytkgdifngijeenaa
