/- The reader of drawn numbers: what is known of it, and the walks of newReader, pick, one and of. -/
import Derived.Test.YtokpcdclaifkpaaA
import Derived.Maps.AppendAt
import Derived.Laws.Bits64
namespace Go.Proofs.Ytokpcdclaifkpaa
open Go.RowKit
set_option linter.unusedVariables false

theorem xor_i64 (a b : Int) (ha0 : 0 ≤ a) (ha : a < 4611686018427387904) (hb0 : 0 ≤ b) (hb : b < 4611686018427387904) : 0 ≤ bits .xor .i64 a b ∧ bits .xor .i64 a b < 4611686018427387904 := by
  obtain ⟨m, rfl⟩ := Int.eq_ofNat_of_zero_le ha0
  obtain ⟨n, rfl⟩ := Int.eq_ofNat_of_zero_le hb0
  have hx : m ^^^ n < 2 ^ 62 := Nat.xor_lt_two_pow (by omega) (by omega)
  have h1 : (BitVec.ofInt 64 (m : Int)).toNat = m := by
    rw [BitVec.ofInt_natCast, BitVec.toNat_ofNat]; exact Nat.mod_eq_of_lt (by omega)
  have h2 : (BitVec.ofInt 64 (n : Int)).toNat = n := by
    rw [BitVec.ofInt_natCast, BitVec.toNat_ofNat]; exact Nat.mod_eq_of_lt (by omega)
  have e : bits .xor .i64 (m : Int) (n : Int) = ((m ^^^ n : Nat) : Int) := by
    show IntKind.i64.wrap ((BitVec.ofInt 64 (m : Int) ^^^ BitVec.ofInt 64 (n : Int)).toNat : Int) = _
    rw [BitVec.toNat_xor, h1, h2]
    exact IntWalk.i64_in _ (by omega)
  rw [e]; omega

/-- The pointer to block B is a reader: its number p, its bytes in memory below lo. -/
def Rd (W : World) (lo B : Nat) (p : Int) : Prop :=
  lo ≤ B ∧ W.cell? ⟨B, 1, none⟩ = some (.int .i64 p) ∧ W.frozen? ⟨B, 1, none⟩ = false ∧ ∃ (pa : Option Addr) (n cap : Nat), n ≤ 2000 ∧ W.cell? ⟨B, 0, none⟩ = some (.slice pa n cap) ∧
    ∀ i, i < n → ∃ b off x, pa = some ⟨b, off, none⟩ ∧ b < lo ∧ 0 ≤ x ∧ x ≤ 255 ∧ W.cell? ⟨b, off + i, none⟩ = some (.int .u8 x)
theorem Rd.lt {W : World} {lo B : Nat} {p : Int} (h : Rd W lo B p) : B < W.heap.size := cell_lt h.2.1
theorem Rd.kept {W W' : World} {lo B : Nat} {p : Int} (h : Rd W lo B p) (hb : Below W.heap.size W W') : Rd W' lo B p := by
  have hB := h.lt
  obtain ⟨h1, h2, h3, pa, n, cap, h4, h5, h6⟩ := h
  refine ⟨h1, (hb.cell (p := ⟨B, 1, none⟩) hB).trans h2, (hb.frozen (p := ⟨B, 1, none⟩) hB).trans h3, pa, n, cap, h4, (hb.cell (p := ⟨B, 0, none⟩) hB).trans h5, fun i hi => ?_⟩
  obtain ⟨b, off, x, a1, a2, a3, a4, a5⟩ := h6 i hi
  exact ⟨b, off, x, a1, a2, a3, a4, (hb.cell (p := ⟨b, off + i, none⟩) (cell_lt a5)).trans a5⟩
theorem Rd.step {W W' : World} {lo B : Nat} {p q : Int} (h : Rd W lo B p) (hg : W' = W.setCell ⟨B, 1, none⟩ (.int .i64 q)) : Rd W' lo B q := by
  obtain ⟨h1, h2, h3, pa, n, cap, h4, h5, h6⟩ := h
  subst hg
  refine ⟨h1, World.cell?_setCell_same _ _ _ h2, by rw [World.frozen?_setCell]; exact h3, pa, n, cap, h4, (World.cell?_setCell_other _ _ _ _ (by simp)).trans h5, fun i hi => ?_⟩
  obtain ⟨b, off, x, a1, a2, a3, a4, a5⟩ := h6 i hi
  exact ⟨b, off, x, a1, a2, a3, a4, (World.cell?_setCell_other _ _ _ _ (by simp only [ne_eq, Addr.mk.injEq, not_and]; intro e; omega)).trans a5⟩
/-- What a call of pick leaves: a number below n, or 0. -/
def PickRet (W : World) (lo B : Nat) (p n : Int) (e : Ending) (W' : World) : Prop :=
  ∃ r, e = .returned (.int .i64 r) ∧ 0 ≤ r ∧ (1 ≤ n → r < n) ∧ (n < 1 → r = 0) ∧ Rd W' lo B (p + 1) ∧ W.grownBy W' (some B)
theorem grown_set (W : World) (B i : Nat) (v : Value) : W.grownBy (W.setCell ⟨B, i, none⟩ v) (some B) :=
  ⟨rfl, rfl, rfl, by rw [World.size_setCell]; exact Nat.le_refl _, fun k _ hk => Below.heap_setCell _ _ _ _ (fun e => hk (by rw [e]))⟩
theorem grown_drewN {W W' : World} {row : Option Nat} (h : W.grownBy W' row) (n : Nat) : W.grownBy (W'.drewN n) row := ⟨h.os, h.tape, h.output, h.size, h.block⟩

set_option maxRecDepth 100000 in
set_option maxHeartbeats 2000000 in
theorem d_pick (W : World) (lo B : Nat) (p n : Int) (hp0 : 0 ≤ p) (hp : p ≤ 1000000) (hn0 : -1000000 ≤ n) (hn : n ≤ 1000000) (h : Rd W lo B p) :
    Calls Try.prog 54 #[.pointer (some ⟨B, 0, none⟩), .int .i64 n] W (PickRet W lo B p n) := by
  have hst := Rd.step (q := p + 1) h rfl
  have HS := Lib.hid hst; clear hst
  obtain ⟨h1, h2, h3, pa, m, cap, h4, h5, h6⟩ := h
  have bytes : ∀ i, i < m → ∃ b off x, pa = some ⟨b, off, none⟩ ∧ 0 ≤ x ∧ x ≤ 255 ∧ (W.setCell ⟨B, 1, none⟩ (.int .i64 (p + 1))).cell? ⟨b, off + i, none⟩ = some (.int .u8 x) := fun i hi => by
    obtain ⟨b, off, x, a1, a2, a3, a4, a5⟩ := h6 i hi
    exact ⟨b, off, x, a1, a3, a4, (World.cell?_setCell_other _ _ _ _ (by simp only [ne_eq, Addr.mk.injEq, not_and]; intro e; omega)).trans a5⟩
  clear h6
  have hg := grown_set W B 1 (.int .i64 (p + 1))
  by_cases hn1 : n < 1
  · go_enter Try.func54, Try.ntmps54
    go_wp2
    go_ret
    exact ⟨0, rfl, by omega, by omega, fun _ => rfl, HS.out, hg⟩
  · by_cases hm0 : m = 0
    · have e1 : ((m : Int) == 0) = true := by rw [hm0]; rfl
      have HM := Lib.hid hm0; clear hm0
      go_enter Try.func54, Try.ntmps54
      go_wp2
      go_ret
      exact ⟨0, rfl, by omega, by omega, fun _ => rfl, HS.out, hg⟩
    · have e1 : ((m : Int) == 0) = false := beq_eq_false_iff_ne.2 (by omega)
      by_cases hk : p < m
      · obtain ⟨k, rfl⟩ := Int.eq_ofNat_of_zero_le hp0
        obtain ⟨b, off, x, rfl, hx0, hx1, hc⟩ := bytes k (by omega)
        have hkm : k < m := by omega
        have hr0 : 0 ≤ x % n := Int.emod_nonneg _ (by omega)
        have hr1 : x % n < n := Int.emod_lt_of_pos _ (by omega)
        clear bytes
        go_enter Try.func54, Try.ntmps54
        go_wp2
        go_ret
        exact ⟨x % n, rfl, hr0, fun _ => hr1, fun h => by omega, HS.out, hg⟩
      · obtain ⟨k, rfl⟩ := Int.eq_ofNat_of_zero_le hp0
        obtain ⟨b, off, x, rfl, hx0, hx1, hc⟩ := bytes (k % m) (Nat.mod_lt _ (by omega))
        obtain ⟨b', off', y, e2, hy0, hy1, hc'⟩ := bytes ((k * 7 + 3) % m) (Nat.mod_lt _ (by omega))
        cases e2
        clear bytes
        obtain ⟨j1, hj1⟩ : ∃ j, j = k % m := ⟨_, rfl⟩
        obtain ⟨j2, hj2⟩ : ∃ j, j = (k * 7 + 3) % m := ⟨_, rfl⟩
        obtain ⟨q, hq⟩ : ∃ q, q = k / m := ⟨_, rfl⟩
        rw [← hj1] at hc
        rw [← hj2] at hc'
        have a1 : (k : Int).tmod (m : Int) = j1 := by rw [hj1]; exact Int.ofNat_tmod k m
        have a2 : ((k : Int) * 7 + 3).tmod (m : Int) = j2 := by rw [hj2]; exact Int.ofNat_tmod (k * 7 + 3) m
        have a3 : (k : Int).tdiv (m : Int) = q := by rw [hq]; exact Int.ofNat_tdiv k m
        have b1 : j1 < m := by rw [hj1]; exact Nat.mod_lt _ (by omega)
        have b2 : j2 < m := by rw [hj2]; exact Nat.mod_lt _ (by omega)
        have b3 : q ≤ k := by rw [hq]; exact Nat.div_le_self _ _
        clear hj1 hj2 hq
        have b4 : (j1 : Int) < m := by omega
        have b5 : (j2 : Int) < m := by omega
        have m0 : ((m : Int) == 0) = false := e1
        obtain ⟨t, ht⟩ : ∃ t, t = x * 131 + y * 1117 + (k : Int) * 29 + (q : Int) * 53 := ⟨_, rfl⟩
        have t0 : 0 ≤ t := by omega
        have t1 : t ≤ 1000000000 := by omega
        obtain ⟨z0, z1⟩ := xor_i64 t (t / 64) t0 (by omega) (by omega) (by omega)
        obtain ⟨z, hz⟩ : ∃ z, z = bits .xor .i64 t (t / 64) := ⟨_, rfl⟩
        rw [← hz] at z0 z1
        have w1 : IntKind.i64.wrap ((k : Int) * 7) = (k : Int) * 7 := IntWalk.i64_in _ (by omega)
        have w2 : IntKind.i64.wrap ((k : Int) * 7 + 3) = (k : Int) * 7 + 3 := IntWalk.i64_in _ (by omega)
        have w3 : IntKind.i64.wrap (x * 131) = x * 131 := IntWalk.i64_in _ (by omega)
        have w4 : IntKind.i64.wrap (y * 1117) = y * 1117 := IntWalk.i64_in _ (by omega)
        have w5 : IntKind.i64.wrap (x * 131 + y * 1117) = x * 131 + y * 1117 := IntWalk.i64_in _ (by omega)
        have w6 : IntKind.i64.wrap ((k : Int) * 29) = (k : Int) * 29 := IntWalk.i64_in _ (by omega)
        have w7 : IntKind.i64.wrap (x * 131 + y * 1117 + (k : Int) * 29) = x * 131 + y * 1117 + (k : Int) * 29 := IntWalk.i64_in _ (by omega)
        have w8 : IntKind.i64.wrap (q : Int) = q := IntWalk.i64_in _ (by omega)
        have w9 : IntKind.i64.wrap ((q : Int) * 53) = (q : Int) * 53 := IntWalk.i64_in _ (by omega)
        have w10 : IntKind.i64.wrap (x * 131 + y * 1117 + (k : Int) * 29 + (q : Int) * 53) = t := by rw [ht]; exact IntWalk.i64_in _ (by omega)
        have w11 : IntKind.i64.wrap x = x := IntWalk.i64_in _ (by omega)
        have w12 : IntKind.i64.wrap y = y := IntWalk.i64_in _ (by omega)
        have hz' : bits .xor .i64 t (t / 64) = z := hz.symm
        clear hz ht
        have hr0 : 0 ≤ z % n := Int.emod_nonneg _ (by omega)
        have hr1 : z % n < n := Int.emod_lt_of_pos _ (by omega)
        go_enter Try.func54, Try.ntmps54
        go_wp2
        go_quiet (fail)
        clear w1 w2 w3 w4 w5 w6 w7 w8 w9 w10 w11 w12 a1 a2 a3
        go_wp2
        go_ret
        exact ⟨z % n, rfl, hr0, fun _ => hr1, fun h => by omega, HS.out.kept (below_drewN (Below.refl _ _) nq), grown_drewN hg nq⟩

/-- newReader hands back a reader at number 0, whatever bytes it is given. -/
def ReaderRet (W : World) (e : Ending) (W' : World) : Prop := ∃ B, e = .returned (.pointer (some ⟨B, 0, none⟩)) ∧ Rd W' W.heap.size B 0 ∧ Below W.heap.size W W'
theorem rd_new {W : World} {pa : Option Addr} {m cap : Nat} (n' : Nat) (h : ∀ i, i < n' → ∃ b off x, pa = some ⟨b, off, none⟩ ∧ b < W.heap.size ∧ 0 ≤ x ∧ x ≤ 255 ∧ W.cell? ⟨b, off + i, none⟩ = some (.int .u8 x)) (hm : m ≤ 2000) (hmn : m ≤ n') :
    ReaderRet W (.returned (.pointer (some ⟨W.heap.size, 0, none⟩))) (W.alloc (.cells #[.slice pa m cap, .int .i64 0] 57)) := by
  have hb : Below W.heap.size W (W.alloc (.cells #[.slice pa m cap, .int .i64 0] 57)) := (Below.refl _ _).alloc (Nat.le_refl _) _
  have h0 := cell_two_new W (.slice pa m cap) (.int .i64 0) 57
  refine ⟨W.heap.size, rfl, ⟨Nat.le_refl _, h0 1 _ rfl, ?_, pa, m, cap, hm, h0 0 _ rfl, fun i hi => ?_⟩, hb⟩
  · exact World.frozen?_alloc_new W _ _ 1
  · obtain ⟨b, off, x, a1, a2, a3, a4, a5⟩ := h i (by omega)
    exact ⟨b, off, x, a1, a2, a3, a4, (hb.cell (p := ⟨b, off + i, none⟩) a2).trans a5⟩
theorem d_newReader (W : World) (pa : Option Addr) (n cap : Nat) (hn : n ≤ cap) (hcap : cap ≤ maxLen)
    (h : ∀ i, i < n → ∃ b off x, pa = some ⟨b, off, none⟩ ∧ b < W.heap.size ∧ 0 ≤ x ∧ x ≤ 255 ∧ W.cell? ⟨b, off + i, none⟩ = some (.int .u8 x)) :
    Calls Try.prog 52 #[.slice pa n cap] W (ReaderRet W) := by
  unfold maxLen at hcap
  have HB := Lib.hid h; clear h
  by_cases hb : n ≤ 2000
  · go_enter Try.func52, Try.ntmps52
    go_wp2
    go_ret
    exact rd_new n HB.out hb (Nat.le_refl _)
  · go_enter Try.func52, Try.ntmps52
    go_wp2
    go_ret
    exact rd_new n HB.out (Nat.le_refl _) (by omega)

def OneRet (W : World) (lo B : Nat) (p : Int) (xs : List Int) (e : Ending) (W' : World) : Prop :=
  ∃ x, e = .returned (.int .i64 x) ∧ x ∈ xs ∧ Rd W' lo B (p + 1) ∧ W.grownBy W' (some B)
def strs (ss : List ByteArray) : List Value := ss.map .string
def OfRet (W : World) (lo B : Nat) (p : Int) (ss : List ByteArray) (e : Ending) (W' : World) : Prop :=
  ∃ s, e = .returned (.string s) ∧ s ∈ ss ∧ Rd W' lo B (p + 1) ∧ W.grownBy W' (some B)
theorem Row.grown {W W' : World} {lo hi : Nat} {pa : Option Addr} {vs : List Value} (h : Row W lo hi pa vs) {row : Option Nat} (hg : W.grownBy W' row) (hr : ∀ k, row = some k → k < lo ∨ hi ≤ k) : Row W' lo hi pa vs := fun i v hv => by
  obtain ⟨g, e, h1, h2, h3, h4⟩ := h i v hv
  have hl := cell_lt h3
  have hb := hg.block g hl (fun e => by rcases hr g e.symm with h | h <;> omega)
  exact ⟨g, e, h1, h2, (World.cell?_of_block (a := ⟨g, i, none⟩) hb).trans h3, (World.frozen?_of_block (a := ⟨g, i, none⟩) hb).trans h4⟩

set_option maxHeartbeats 1000000 in
theorem d_one (W : World) (lo B : Nat) (p : Int) (pa : Option Addr) (n ca l h' : Nat) (xs : List Int) (hp0 : 0 ≤ p) (hp : p ≤ 1000000) (h : Rd W lo B p) (hr : Row W l h' pa (ints xs)) (hn : xs.length = n) (hn0 : 0 < n) (hn1 : n ≤ 1000) (hB : B < l) :
    Calls Try.prog 71 #[.pointer (some ⟨B, 0, none⟩), .slice pa n ca] W (OneRet W lo B p xs) := by
  have HN := Lib.hid hn; clear hn
  go_enter Try.func71, Try.ntmps71
  go_wp2_with fail
  refine (d_pick W lo B p n hp0 hp (by omega) (by omega) h).mono ?_; rintro e w1 ⟨r, rfl, hr0, hr1, _, hrd, hg⟩
  obtain ⟨j, rfl⟩ := Int.eq_ofNat_of_zero_le hr0
  have hj : j < n := by have := hr1 (by omega); omega
  clear hr1 hr0
  obtain ⟨g, rfl, _, _, hc, _⟩ := (hr.grown hg (fun k e => by cases e; exact .inl hB)).getInt (i := j) (by rw [HN.out]; exact hj)
  have hm : xs[j]?.getD 0 ∈ xs := by
    rw [List.getElem?_eq_getElem (by rw [HN.out]; exact hj)]; exact List.getElem_mem _
  have HM := Lib.hid hm; clear hm
  go_wp2
  go_ret
  exact ⟨_, rfl, HM.out, hrd, hg⟩

set_option maxHeartbeats 1000000 in
theorem d_of (W : World) (lo B : Nat) (p : Int) (pa : Option Addr) (n ca l h' : Nat) (ss : List ByteArray) (hp0 : 0 ≤ p) (hp : p ≤ 1000000) (h : Rd W lo B p) (hr : Row W l h' pa (strs ss)) (hn : ss.length = n) (hn0 : 0 < n) (hn1 : n ≤ 1000) (hB : B < l) :
    Calls Try.prog 72 #[.pointer (some ⟨B, 0, none⟩), .slice pa n ca] W (OfRet W lo B p ss) := by
  have HN := Lib.hid hn; clear hn
  go_enter Try.func72, Try.ntmps72
  go_wp2_with fail
  refine (d_pick W lo B p n hp0 hp (by omega) (by omega) h).mono ?_; rintro e w1 ⟨r, rfl, hr0, hr1, _, hrd, hg⟩
  obtain ⟨j, rfl⟩ := Int.eq_ofNat_of_zero_le hr0
  have hj : j < n := by have := hr1 (by omega); omega
  clear hr1 hr0
  have hjs : j < ss.length := by rw [HN.out]; exact hj
  obtain ⟨s, hs, hm⟩ : ∃ s, ss[j]? = some s ∧ s ∈ ss := ⟨_, List.getElem?_eq_getElem hjs, List.getElem_mem _⟩
  obtain ⟨g, rfl, _, _, hc, _⟩ := (hr.grown hg (fun k e => by cases e; exact .inl hB)) j (.string s) (by simp [strs, hs])
  have HM := Lib.hid hm; clear hm hs
  go_wp2
  go_ret
  exact ⟨_, rfl, HM.out, hrd, hg⟩
end Go.Proofs.Ytokpcdclaifkpaa
