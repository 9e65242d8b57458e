/- The walk of someText: a drawn text is short. -/
import Derived.Test.YtokpcdclaifkpaaRd
namespace Go.Proofs.Ytokpcdclaifkpaa
open Go.RowKit
set_option linter.unusedVariables false

/-- A drawn text: at most one letter more than was asked for. -/
def TextRet (W : World) (lo B : Nat) (p most : Int) (e : Ending) (W' : World) : Prop :=
  ∃ (s : ByteArray) (q : Int), e = .returned (.string s) ∧ (s.size : Int) ≤ most + 1 ∧ p ≤ q ∧ q ≤ p + 100 ∧ Rd W' lo B q ∧ W.grownBy W' (some B)

theorem Row.new (W : World) (vs : List Value) (t : TypeId) : Row (W.alloc (.cells vs.toArray t)) W.heap.size (W.heap.size + 1) (some ⟨W.heap.size, 0, none⟩) vs := fun i v hv => by
  refine ⟨W.heap.size, rfl, Nat.le_refl _, by omega, ?_, World.frozen?_alloc_new W _ _ i⟩
  have h1 : (W.alloc (.cells vs.toArray t)).heap[W.heap.size]? = some (.cells vs.toArray t) := by
    show (W.heap.push _)[W.heap.size]? = _; simp
  simp only [World.cell?, h1]; simpa using hv

set_option maxHeartbeats 4000000 in
theorem d_someText (W : World) (lo B : Nat) (p most : Int) (hp0 : 0 ≤ p) (hp : p ≤ 900000) (hm0 : 0 ≤ most) (hm : most ≤ 40) (h : Rd W lo B p) :
    Calls Try.prog 53 #[.pointer (some ⟨B, 0, none⟩), .int .i64 most] W (TextRet W lo B p most) := by
  have hBlt := h.lt
  go_enter Try.func53, Try.ntmps53
  go_wp2_with fail
  have g1 : W.grownBy (W.alloc (.cells #[.int .i64 2, .int .i64 2, .int .i64 3, .int .i64 4, .int .i64 1] 3)) (some B) := World.grownBy_alloc _ _ _
  have hrd1 := h.kept (W' := W.alloc (.cells #[.int .i64 2, .int .i64 2, .int .i64 3, .int .i64 4, .int .i64 1] 3)) ((Below.refl _ _).alloc (Nat.le_refl _) _)
  refine (d_one _ lo B p _ 5 5 W.heap.size (W.heap.size + 1) [2, 2, 3, 4, 1] hp0 (by omega) hrd1 (Row.new W (ints [2, 2, 3, 4, 1]) 3) rfl (by omega) (by omega) hBlt).mono ?_; rintro e w1 ⟨kinds, rfl, hkm, hrd2, g2⟩
  have hk1 : 1 ≤ kinds ∧ kinds ≤ 4 := by simp at hkm; omega
  obtain ⟨hk1, hk4⟩ := hk1
  have hg12 := g1.trans g2
  have s1 := hg12.size
  clear hkm g1 g2 hrd1
  go_wp2_with fail
  have g1 : w1.grownBy (w1.alloc (.cells #[.int .i64 8, .int .i64 12, .int .i64 6, .int .i64 5, .int .i64 10, .int .i64 3, .int .i64 20, .int .i64 1, .int .i64 0, .int .i64 40] 3)) (some B) := World.grownBy_alloc _ _ _
  have hrd1 := hrd2.kept (W' := w1.alloc (.cells #[.int .i64 8, .int .i64 12, .int .i64 6, .int .i64 5, .int .i64 10, .int .i64 3, .int .i64 20, .int .i64 1, .int .i64 0, .int .i64 40] 3)) ((Below.refl _ _).alloc (Nat.le_refl _) _)
  refine (d_one _ lo B (p + 1) _ 10 10 w1.heap.size (w1.heap.size + 1) [8, 12, 6, 5, 10, 3, 20, 1, 0, 40] (by omega) (by omega) hrd1 (Row.new w1 (ints [8, 12, 6, 5, 10, 3, 20, 1, 0, 40]) 3) rfl (by omega) (by omega) (by omega)).mono ?_; rintro e w2 ⟨n0, rfl, hnm, hrd3, g2⟩
  have hn1 : 0 ≤ n0 ∧ n0 ≤ 40 := by simp at hnm; omega
  obtain ⟨hn0, hn40⟩ := hn1
  have hg := hg12.trans (g1.trans g2)
  clear hnm g1 g2 hrd1 hrd2 hg12 s1
  go_wp2_with fail
  go_loopw [5, 7, 8] (fun s n _ wr => ∃ (u : ByteArray) (m q : Int), s = .string u ∧ n = .int .i64 m ∧ 0 ≤ m ∧ m ≤ 40 ∧ (u.size : Int) ≤ most + 4 ∧ p ≤ q ∧ q ≤ p + 2 + 2 * (40 - m) ∧ Rd wr lo B q ∧ W.grownBy wr (some B)) (fun _ n _ _ => (intOf n).toNat)
  case atStart => exact ⟨_, n0, p + 1 + 1, rfl, rfl, hn0, hn40, by show ((0 : Nat) : Int) ≤ _; omega, by omega, by omega, hrd3, hg⟩
  case round =>
    obtain ⟨u, m, q, rfl, rfl, hm0', hm40, hu, hq0, hq1, hrd, hgr⟩ := hrel
    clear hrd3 hg
    by_cases hc : 0 < m ∧ (u.size : Int) < most
    · obtain ⟨hc1, hc2⟩ := hc
      go_wp2_with fail
      refine (d_pick wr lo B q kinds (by omega) (by omega) (by omega) (by omega) hrd).mono ?_; rintro e w3 ⟨r, rfl, hr0, hr1, _, hrd4, g4⟩
      have hr2 := hr1 hk1
      obtain ⟨j, rfl⟩ := Int.eq_ofNat_of_zero_le hr0
      have hj4 : j < 4 := by omega
      have hgr4 := hgr.trans g4
      clear hr1 hr0 hrd hgr g4
      by_cases h3 : 3 < u.size + 1
      · go_wp2_with fail
        refine (d_pick w3 lo B (q + 1) 8 (by omega) (by omega) (by omega) (by omega) hrd4).mono ?_; rintro e w4 ⟨r8, rfl, hr0, hr1, _, hrd5, g5⟩
        have hgr5 := hgr4.trans g5
        clear hr1 hrd4 hgr4 g5
        by_cases hz : r8 = 0
        · subst hz
          by_cases h4 : 4 < u.size + 1
          all_goals
            go_wp2
            go_roundw
            case rel => exact ⟨_, m - 1, q + 1 + 1, rfl, rfl, by omega, by omega, by simp only [ByteArray.size_append, ByteArray.size_extract]; omega, by omega, by omega, hrd5, hgr5⟩
            case measure => simp [intOf]; omega
        · have hz' : ((r8 : Int) == 0) = false := beq_eq_false_iff_ne.2 hz
          go_wp2
          go_roundw
          case rel => exact ⟨_, m - 1, q + 1 + 1, rfl, rfl, by omega, by omega, by simp only [ByteArray.size_append, ByteArray.size_extract]; omega, by omega, by omega, hrd5, hgr5⟩
          case measure => simp [intOf]; omega
      · go_wp2
        go_roundw
        case rel => exact ⟨_, m - 1, q + 1, rfl, rfl, by omega, by omega, by simp only [ByteArray.size_append, ByteArray.size_extract]; omega, by omega, by omega, hrd4, hgr4⟩
        case measure => simp [intOf]; omega
    · have hx : ¬ 0 < m ∨ (0 < m ∧ ¬ (u.size : Int) < most) := by omega
      clear hc
      rcases hx with hx | ⟨hx, hx2⟩
      all_goals
        by_cases hl : most < u.size
        all_goals
          go_wp2_with fail
          refine (d_pick wr lo B q 24 (by omega) (by omega) (by omega) (by omega) hrd).mono ?_; rintro e w4 ⟨r24, rfl, hr0, hr1, _, hrd5, g5⟩
          have hgr5 := hgr.trans g5
          clear hr1 hrd hgr g5
          by_cases hz : r24 = 0
          · subst hz
            go_wp2_with fail
            have g1 : w4.grownBy (w4.alloc (.cells #[.string ⟨#[101]⟩, .string ⟨#[65]⟩, .string ⟨#[32]⟩] 9)) (some B) := World.grownBy_alloc _ _ _
            have hrd1 := hrd5.kept (W' := w4.alloc (.cells #[.string ⟨#[101]⟩, .string ⟨#[65]⟩, .string ⟨#[32]⟩] 9)) ((Below.refl _ _).alloc (Nat.le_refl _) _)
            refine (d_of _ lo B (q + 1) _ 3 3 w4.heap.size (w4.heap.size + 1) [⟨#[101]⟩, ⟨#[65]⟩, ⟨#[32]⟩] (by omega) (by omega) hrd1 (Row.new w4 (strs [⟨#[101]⟩, ⟨#[65]⟩, ⟨#[32]⟩]) 9) rfl (by omega) (by omega) hrd5.lt).mono ?_; rintro e w5 ⟨t, rfl, htm, hrd6, g6⟩
            have ht1 : t.size ≤ 1 := by simp at htm; rcases htm with rfl | rfl | rfl <;> exact Nat.le_refl _
            have hgr6 := hgr5.trans (g1.trans g6)
            clear htm
            go_wp2
            go_ret
            exact ⟨_, q + 1 + 1, rfl, by first | (simp only [ByteArray.size_append, ByteArray.size_extract]; omega) | (simp only [ByteArray.size_append]; omega), by omega, by omega, hrd6, hgr6⟩
          · have hz' : ((r24 : Int) == 0) = false := beq_eq_false_iff_ne.2 hz
            go_wp2
            go_ret
            exact ⟨_, q + 1, rfl, by first | omega | (simp only [ByteArray.size_extract]; omega), by omega, by omega, hrd5, hgr5⟩
end Go.Proofs.Ytokpcdclaifkpaa
