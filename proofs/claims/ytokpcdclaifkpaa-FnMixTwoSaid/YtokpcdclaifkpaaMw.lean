/- The walk of the reference's MixTwo. -/
import Derived.Test.YtokpcdclaifkpaaMf
import Derived.Deep.LoopGhost
import Derived.Deep.CutRange
import Derived.BigQuiet
namespace Go.Proofs.Ytokpcdclaifkpaa
open Go.RowKit
set_option linter.unusedVariables false

theorem ext_one (out s : ByteArray) (i : Nat) (h : i < s.size) : (out ++ s.extract i (i + 1)).data.toList = out.data.toList ++ [s[i]] := by
  rw [ByteArray.data_append, Array.toList_append, Lib.extract_data, show i + 1 - i = 1 by omega]
  congr 1
  have := drop_cons s i h
  rw [this]; rfl
theorem mix_next {out s : ByteArray} {i : Nat} {r r' m : List UInt8} (h : i < s.size) (hm : out.data.toList ++ r = m) (hr : r = s[i] :: r') : (out ++ s.extract i (i + 1)).data.toList ++ r' = m := by
  rw [ext_one out s i h, ← hm, hr, List.append_assoc]; rfl

def eqAt (a b : ByteArray) (i k : Nat) : Bool := if h : i < a.size ∧ k < b.size then decide (a[i] = b[k]) else false
def ltAt (a b : ByteArray) (i k : Nat) : Bool := if h : i < a.size ∧ k < b.size then decide (a[i].toNat < b[k].toNat) else false
def fstB (a b : ByteArray) (i k : Nat) : Bool := decide (i < a.size) && decide (sT a b (i + 1) k = sT a b i k - 1)
def sndB (a b : ByteArray) (i k : Nat) : Bool := decide (k < b.size) && decide (sT a b i (k + 1) = sT a b i k - 1)
def tkB (a b : ByteArray) (i k : Nat) : Bool := fstB a b i k && (!sndB a b i k || ltAt a b i k)
theorem mix_both {a b : ByteArray} {i k : Nat} (h : eqAt a b i k = true) : ∃ (h1 : i < a.size) (_ : k < b.size), mixT a.data.toList b.data.toList i k = a[i] :: mixT a.data.toList b.data.toList (i + 1) (k + 1) := by
  unfold eqAt at h; split at h
  · rename_i hh; exact ⟨hh.1, hh.2, mixT_eq hh.1 hh.2 (of_decide_eq_true h)⟩
  · cases h
theorem mix_take {a b : ByteArray} {i k : Nat} (he : eqAt a b i k = false) (h : tkB a b i k = true) : ∃ h1 : i < a.size, mixT a.data.toList b.data.toList i k = a[i] :: mixT a.data.toList b.data.toList (i + 1) k := by
  unfold tkB at h
  rw [Bool.and_eq_true] at h
  obtain ⟨hf, hs⟩ := h
  have hf' := hf
  unfold fstB at hf'
  rw [Bool.and_eq_true, decide_eq_true_eq, decide_eq_true_eq] at hf'
  have hi := hf'.1
  by_cases hk : k < b.size
  · have hne : a[i] ≠ b[k] := fun e => by unfold eqAt at he; rw [dif_pos ⟨hi, hk⟩, decide_eq_true e] at he; cases he
    have hT : firstT a b i k hi hk = true := by
      unfold firstT
      rw [decide_eq_true (show scsT a.data.toList b.data.toList (i + 1) k = scsT a.data.toList b.data.toList i k - 1 from hf'.2), Bool.true_and]
      unfold sndB ltAt at hs
      rw [dif_pos ⟨hi, hk⟩, decide_eq_true hk, Bool.true_and] at hs
      exact hs
    exact ⟨hi, mixT_first hi hk hne hT⟩
  · exact ⟨hi, mixT_col (b := b) hi (by omega)⟩
theorem mix_leave {a b : ByteArray} {i k : Nat} (hor : i < a.size ∨ k < b.size) (he : eqAt a b i k = false) (h : tkB a b i k = false) : ∃ h1 : k < b.size, mixT a.data.toList b.data.toList i k = b[k] :: mixT a.data.toList b.data.toList i (k + 1) := by
  by_cases hk : k < b.size
  · by_cases hi : i < a.size
    · have hne : a[i] ≠ b[k] := fun e => by unfold eqAt at he; rw [dif_pos ⟨hi, hk⟩, decide_eq_true e] at he; cases he
      have hT : firstT a b i k hi hk = false := by
        unfold firstT
        unfold tkB fstB sndB ltAt at h
        rw [dif_pos ⟨hi, hk⟩, decide_eq_true hk, decide_eq_true hi, Bool.true_and, Bool.true_and] at h
        exact h
      exact ⟨hk, mixT_second hi hk hne hT⟩
    · exact ⟨hk, mixT_row (a := a) (by omega) hk⟩
  · exfalso
    have hi : i < a.size := by omega
    have hf : fstB a b i k = true := by
      unfold fstB sT
      rw [decide_eq_true hi, Bool.true_and, decide_eq_true_eq, scsT_col (by omega), scsT_col (by omega)]; omega
    have hs : sndB a b i k = false := by unfold sndB; rw [decide_eq_false hk]; rfl
    unfold tkB at h
    rw [hf, hs] at h; cases h
set_option maxHeartbeats 8000000 in
set_option maxRecDepth 100000 in
theorem s_MixTwo (s t : ByteArray) (w : World) (hs : s.size ≤ maxLen) (ht : t.size ≤ maxLen) :
    Calls Try.prog 51 #[.string s, .string t] w (RetMix s t w) := by
  cases h1 : vt s.data.toList
  · have hok : mixOk s t = false := by unfold mixOk; rw [h1]; rfl
    go_enter Try.func51, Try.ntmps51
    go_wp2_with (go_at_call 56; refine (s_validText _ _ (by assumption)).mono ?_; rintro e w' ⟨rfl, rfl⟩)
    go_ret2
    unfold RetMix
    rw [mixB_no hok, hok]
    exact ⟨rfl, Below.refl _ _⟩
  · cases h2 : vt t.data.toList
    · have hok : mixOk s t = false := by unfold mixOk; rw [h1, h2]; rfl
      go_enter Try.func51, Try.ntmps51
      go_wp2_with (go_at_call 56; refine (s_validText _ _ (by assumption)).mono ?_; rintro e w' ⟨rfl, rfl⟩)
      go_ret2
      unfold RetMix
      rw [mixB_no hok, hok]
      exact ⟨rfl, Below.refl _ _⟩
    · have hsz := vt_size h1; have htz := vt_size h2
      go_enter Try.func51, Try.ntmps51
      go_wp2_with fail
      refine (s_validText _ _ hs).mono ?_; rintro e w' ⟨rfl, rfl⟩
      go_wp2_with fail
      refine (s_validText _ _ ht).mono ?_; rintro e w' ⟨rfl, rfl⟩
      go_wp2_with fail
      refine (s_common _ _ _ hsz htz).mono ?_; rintro e w1 ⟨gT, ca, gs, rfl, HL, htab, hb⟩
      have hmk : mixOk s t = decide (scsT s.data.toList t.data.toList 0 0 ≤ 40) := by
        unfold mixOk scsT; rw [h1, h2, List.drop_zero, List.drop_zero, Bool.true_and, Bool.true_and, decide_eq_decide]; omega
      have HTB : Hid (Tab w1 w.heap.size gT gs (t.size + 1) (fun i k => (s.size : Int) - i + t.size - k - scsT s.data.toList t.data.toList i k)) := Lib.hid (htab.congr fun i k hi hk => lcsT_scsT (by rw [HL.out] at hi; omega) (by omega))
      have hsc := scsT_le s.data.toList t.data.toList 0 0
      rw [list_len, list_len] at hsc
      obtain ⟨g, hg⟩ : ∃ g, gs[0]? = some g := ⟨_, List.getElem?_eq_getElem (by rw [HL.out]; omega)⟩
      have HG := Lib.hid hg; clear hg
      have c0 := (HTB.out.2.2 0 g HG.out).1.2.2
      have c1x := ((HTB.out.2.2 0 g HG.out).2 0 (by omega)).1
      have e1 : (s.size : Int) - (0 : Nat) + t.size - (0 : Nat) - scsT s.data.toList t.data.toList 0 0 = s.size + t.size - scsT s.data.toList t.data.toList 0 0 := by omega
      have c1 : w1.cell? ⟨g, 0, none⟩ = some (.int .i64 ((s.size : Int) + t.size - scsT s.data.toList t.data.toList 0 0))   := c1x.trans (by rw [← e1])
      obtain ⟨p, hp⟩ : ∃ p, p = scsT s.data.toList t.data.toList 0 0 := ⟨_, rfl⟩
      rw [← hp] at hsc c1 hmk
      have HP := Lib.hid hp
      have HMK := Lib.hid hmk
      obtain ⟨hp0, hp1⟩ := hsc
      clear e1 hmk htab hp c1x
      have e2 : (s.size : Int) + t.size - (s.size + t.size - p) = p := by omega
      by_cases hbig : p ≤ 40
      · have hgt : decide (40 < p) = false := decide_eq_false (by omega)
        have hok : mixOk s t = true := HMK.out.trans (decide_eq_true hbig)
        have HOK := Lib.hid hok
        clear hok HMK
        go_wp2
        have hlen : (mix s.data.toList t.data.toList).length ≤ 80 := by
          rw [mix_len]
          have := HP.out
          unfold scsT at this; rw [List.drop_zero, List.drop_zero] at this; omega
        have HLEN := Lib.hid hlen; clear hlen
        clear c0 c1 HG
        go_loopg [7, 8, 9] (s.size + t.size) (fun g o a b wr => ∃ (i k : Nat) (out : ByteArray), i ≤ s.size ∧ k ≤ t.size ∧ i + k + g = s.size + t.size ∧ o = .string out ∧ a = .int .i64 i ∧ b = .int .i64 k ∧ Hid (out.data.toList ++ mixT s.data.toList t.data.toList i k = mix s.data.toList t.data.toList) ∧ Below w1.heap.size w1 wr)
        case atStart => exact ⟨0, 0, ⟨#[]⟩, by omega, by omega, by omega, rfl, rfl, rfl, Lib.hid (by unfold mixT; simp), Below.refl _ _⟩
        case round =>
          obtain ⟨i, k, out, hi, hk, hikg, rfl, rfl, rfl, HOUT, hbw⟩ := hrel
          have hol : out.size ≤ 80 := by
            have := congrArg List.length HOUT.out
            rw [List.length_append, list_len] at this
            have := HLEN.out; omega
          cases gk with
          | zero =>
            obtain rfl : i = s.size := by omega
            obtain rfl : k = t.size := by omega
            have ho : (⟨(mix s.data.toList t.data.toList).toArray⟩ : ByteArray) = out := by
              have := HOUT.out
              rw [mixT_out (by omega) (by omega), List.append_nil] at this
              rw [← this]
            have HO2 := Lib.hid ho
            clear ho
            go_wp2
            go_ret2
            refine ⟨?_, below_then hb hbw⟩
            rw [mixB_yes HOK.out, HOK.out, HO2.out]
            rfl
          | succ G =>
            obtain ⟨wo, hwo⟩ : ∃ wo : World, wo = wr := ⟨_, rfl⟩
            subst hwo
            have HTB2 := Lib.hid (HTB.out.kept hbw)
            obtain ⟨g0, hg0⟩ : ∃ g, gs[i]? = some g := ⟨_, List.getElem?_eq_getElem (by rw [HL.out]; omega)⟩
            have HG0 := Lib.hid hg0; clear hg0
            have c0 := (HTB2.out.2.2 i g0 HG0.out).1.2.2
            have c1x := ((HTB2.out.2.2 i g0 HG0.out).2 k (by omega)).1
            obtain ⟨v0, hv0⟩ : ∃ v : Int, v = (s.size : Int) - i + t.size - k - scsT s.data.toList t.data.toList i k := ⟨_, rfl⟩
            have c1 : wo.cell? ⟨g0, k, none⟩ = some (.int .i64 v0) := by rw [hv0]; exact c1x
            clear c1x
            have hs0 := scsT_le s.data.toList t.data.toList i k
            rw [list_len, list_len] at hs0
            obtain ⟨p0, hp0⟩ : ∃ v : Int, v = scsT s.data.toList t.data.toList i k := ⟨_, rfl⟩
            rw [← hp0] at hv0 hs0
            have HP0 : Hid (sT s t i k = p0) := Lib.hid hp0.symm
            clear hp0
            obtain ⟨hs00, hs01⟩ := hs0
            have w1e : IntKind.i64.wrap ((s.size : Int) - i) = (s.size : Int) - i := IntWalk.i64_in _ (by omega)
            have w2e : IntKind.i64.wrap ((s.size : Int) - i + t.size) = (s.size : Int) - i + t.size := IntWalk.i64_in _ (by omega)
            have w3e : IntKind.i64.wrap ((s.size : Int) - i + t.size - k) = (s.size : Int) - i + t.size - k := IntWalk.i64_in _ (by omega)
            have w4v : (s.size : Int) - i + t.size - k - v0 = p0 := by omega
            have w4e : IntKind.i64.wrap ((s.size : Int) - i + t.size - k - v0) = p0 := by rw [w4v]; exact IntWalk.i64_in _ (by omega)
            have w9e : IntKind.i64.wrap (p0 - 1) = p0 - 1 := IntWalk.i64_in _ (by omega)
            have b0 : i < s.size + 1 := by omega
            have b1 : (i : Int) < (s.size : Int) + 1 := by omega
            have b2 : k < t.size + 1 := by omega
            have b3 : (k : Int) < (t.size : Int) + 1 := by omega
            obtain ⟨bF, hbF⟩ : ∃ b, b = fstB s t i k := ⟨_, rfl⟩
            obtain ⟨bS, hbS⟩ : ∃ b, b = sndB s t i k := ⟨_, rfl⟩
            obtain ⟨bE, hbE⟩ : ∃ b, b = eqAt s t i k := ⟨_, rfl⟩
            have HF := Lib.hid hbF; have HS := Lib.hid hbS; have HE := Lib.hid hbE
            clear hv0 hbF hbS hbE
            go_upto_region 9 with fail
            go_cut [45] from 36 to 180 (fun bv wy => bv = .bool true ∧ wy = wo)
            case first =>
              by_cases hia : i < s.size
              · have f1 : (i : Int) < s.size := by omega
                go_wp2_with fail
                go_meet
                exact ⟨rfl, rfl⟩
              · have f1 : ¬ (i : Int) < s.size := by omega
                have f2 : (k : Int) < t.size := by omega
                go_wp2_with fail
                go_meet
                exact ⟨rfl, rfl⟩
            case rest =>
              obtain ⟨rfl, rfl⟩ := hcut
              go_upto_region 10 with fail
              go_cut [10] from 36 to 180 (fun lv wy => lv = .int .i64 p0 ∧ wy = wc)
              case first =>
                go_wp2_with fail
                go_meet
                exact ⟨rfl, rfl⟩
              case rest =>
                obtain ⟨rfl, rfl⟩ := hcut
                clear w4v w4e c0 c1
                go_upto_region 11 with fail
                go_cut [11] from 36 to 180 (fun fv wy => fv = .bool bF ∧ wy = wc)
                case first =>
                  by_cases hia : i < s.size
                  · have w5e : IntKind.i64.wrap ((s.size : Int) - i - 1) = (s.size : Int) - i - 1 := IntWalk.i64_in _ (by omega)
                    have w6e : IntKind.i64.wrap ((s.size : Int) - i - 1 + t.size) = (s.size : Int) - i - 1 + t.size := IntWalk.i64_in _ (by omega)
                    have w7e : IntKind.i64.wrap ((s.size : Int) - i - 1 + t.size - k) = (s.size : Int) - i - 1 + t.size - k := IntWalk.i64_in _ (by omega)
                    obtain ⟨g1, hg1⟩ : ∃ g, gs[i + 1]? = some g := ⟨_, List.getElem?_eq_getElem (by rw [HL.out]; omega)⟩
                    have HG1 := Lib.hid hg1; clear hg1
                    have d0 := (HTB2.out.2.2 (i + 1) g1 HG1.out).1.2.2
                    have d1x := ((HTB2.out.2.2 (i + 1) g1 HG1.out).2 k (by omega)).1
                    obtain ⟨v1, hv1⟩ : ∃ v : Int, v = (s.size : Int) - (i + 1 : Nat) + t.size - k - scsT s.data.toList t.data.toList (i + 1) k := ⟨_, rfl⟩
                    have d1 : wc.cell? ⟨g1, k, none⟩ = some (.int .i64 v1) := by rw [hv1]; exact d1x
                    clear d1x
                    have hs1 := scsT_le s.data.toList t.data.toList (i + 1) k
                    rw [list_len, list_len] at hs1
                    obtain ⟨p1, hp1x⟩ : ∃ v : Int, v = scsT s.data.toList t.data.toList (i + 1) k := ⟨_, rfl⟩
                    rw [← hp1x] at hv1 hs1
                    have HP1 : Hid (sT s t (i + 1) k = p1) := Lib.hid hp1x.symm; clear hp1x
                    obtain ⟨hs10, hs11⟩ := hs1
                    have w8v : (s.size : Int) - i - 1 + t.size - k - v1 = p1 := by omega
                    have w8e : IntKind.i64.wrap ((s.size : Int) - i - 1 + t.size - k - v1) = p1 := by rw [w8v]; exact IntWalk.i64_in _ (by omega)
                    have x1 : IntKind.i64.wrap ((i : Int) + 1) = (i : Int) + 1 := IntWalk.i64_in _ (by omega)
                    have x2 : ((i : Int) + 1).toNat = i + 1 := by omega
                    have x3 : (0 : Int) ≤ (i : Int) + 1 := by omega
                    have x4 : (i : Int) < s.size := by omega
                    have x5 : bF = (p1 == p0 - 1) := by
                      rw [HF.out]; unfold fstB
                      rw [decide_eq_true hia, Bool.true_and, HP1.out, HP0.out]
                      by_cases e : p1 = p0 - 1
                      · rw [decide_eq_true e, beq_iff_eq.2 e]
                      · rw [decide_eq_false e, beq_eq_false_iff_ne.2 e]
                    have X5 := Lib.hid x5
                    clear hv1 x5
                    obtain ⟨bq, hbq⟩ : ∃ bq, bq = (p1 == p0 - 1) := ⟨_, rfl⟩
                    have hbq2 : (p1 == p0 - 1) = bq := hbq.symm
                    have HBQ := Lib.hid hbq
                    clear hbq
                    go_wp2_with fail
                    go_meet
                    exact ⟨by rw [X5.out, ← HBQ.out], rfl⟩
                  · have f1 : ¬ (i : Int) < s.size := by omega
                    have x5 : bF = false := by rw [HF.out]; unfold fstB; rw [decide_eq_false hia]; rfl
                    have X5 := Lib.hid x5
                    clear x5
                    go_wp2_with fail
                    go_meet
                    exact ⟨by rw [X5.out], rfl⟩
                case rest =>
                  obtain ⟨rfl, rfl⟩ := hcut
                  go_upto_region 12 with fail
                  go_cut [12] from 36 to 180 (fun fv wy => fv = .bool bS ∧ wy = wc)
                  case first =>
                    by_cases hkb : k < t.size
                    · have w11e : IntKind.i64.wrap ((s.size : Int) - i + t.size - k - 1) = (s.size : Int) - i + t.size - k - 1 := IntWalk.i64_in _ (by omega)
                      have c0 := (HTB2.out.2.2 i g0 HG0.out).1.2.2
                      have e1x := ((HTB2.out.2.2 i g0 HG0.out).2 (k + 1) (by omega)).1
                      obtain ⟨v2, hv2⟩ : ∃ v : Int, v = (s.size : Int) - i + t.size - (k + 1 : Nat) - scsT s.data.toList t.data.toList i (k + 1) := ⟨_, rfl⟩
                      have e1 : wc.cell? ⟨g0, k + 1, none⟩ = some (.int .i64 v2) := by rw [hv2]; exact e1x
                      clear e1x
                      have hs2 := scsT_le s.data.toList t.data.toList i (k + 1)
                      rw [list_len, list_len] at hs2
                      obtain ⟨p2, hp2x⟩ : ∃ v : Int, v = scsT s.data.toList t.data.toList i (k + 1) := ⟨_, rfl⟩
                      rw [← hp2x] at hv2 hs2
                      have HP2 : Hid (sT s t i (k + 1) = p2) := Lib.hid hp2x.symm; clear hp2x
                      obtain ⟨hs20, hs21⟩ := hs2
                      have w12v : (s.size : Int) - i + t.size - k - 1 - v2 = p2 := by omega
                      have w12e : IntKind.i64.wrap ((s.size : Int) - i + t.size - k - 1 - v2) = p2 := by rw [w12v]; exact IntWalk.i64_in _ (by omega)
                      have y1 : IntKind.i64.wrap ((k : Int) + 1) = (k : Int) + 1 := IntWalk.i64_in _ (by omega)
                      have y2 : ((k : Int) + 1).toNat = k + 1 := by omega
                      have y3 : (0 : Int) ≤ (k : Int) + 1 := by omega
                      have y4 : (k : Int) < t.size := by omega
                      have x5 : bS = (p2 == p0 - 1) := by
                        rw [HS.out]; unfold sndB
                        rw [decide_eq_true hkb, Bool.true_and, HP2.out, HP0.out]
                        by_cases e : p2 = p0 - 1
                        · rw [decide_eq_true e, beq_iff_eq.2 e]
                        · rw [decide_eq_false e, beq_eq_false_iff_ne.2 e]
                      have X5 := Lib.hid x5
                      clear hv2 x5
                      obtain ⟨bq, hbq⟩ : ∃ bq, bq = (p2 == p0 - 1) := ⟨_, rfl⟩
                      have hbq2 : (p2 == p0 - 1) = bq := hbq.symm
                      have HBQ := Lib.hid hbq
                      clear hbq
                      go_wp2_with fail
                      go_meet
                      exact ⟨by rw [X5.out, ← HBQ.out], rfl⟩
                    · have f1 : ¬ (k : Int) < t.size := by omega
                      have x5 : bS = false := by rw [HS.out]; unfold sndB; rw [decide_eq_false hkb]; rfl
                      have X5 := Lib.hid x5
                      clear x5
                      go_wp2_with fail
                      go_meet
                      exact ⟨by rw [X5.out], rfl⟩
                  case rest =>
                    obtain ⟨rfl, rfl⟩ := hcut
                    clear w1e w2e w3e w9e b0 b1 b2 b3
                    have HWC := Lib.hid hbw
                    go_upto_region 13 with fail
                    go_cut [137] from 36 to 180 (fun bv wy => bv = .bool bE ∧ Hid (Still wc wy))
                    case first =>
                      by_cases hia : i < s.size
                      · have f1 : (i : Int) < s.size := by omega
                        have f1b : decide ((i : Int) < s.size) = true := decide_eq_true f1
                        by_cases hkb : k < t.size
                        · have f2 : (k : Int) < t.size := by omega
                          have f2b : decide ((k : Int) < t.size) = true := decide_eq_true f2
                          obtain ⟨bq, hbq⟩ : ∃ bq, bq = ((s[i].toNat : Int) == (t[k].toNat : Int)) := ⟨_, rfl⟩
                          have hbq2 : ((s[i].toNat : Int) == (t[k].toNat : Int)) = bq := hbq.symm
                          have X5 : Hid (bE = bq) := Lib.hid (by
                            rw [HE.out, hbq]; unfold eqAt; rw [dif_pos ⟨hia, hkb⟩]
                            by_cases e : s[i] = t[k]
                            · rw [decide_eq_true e, e]; simp
                            · rw [decide_eq_false e]; symm; rw [beq_eq_false_iff_ne]; intro e2; exact e (UInt8.toNat_inj.1 (by omega)))
                          clear hbq
                          go_quiet (fail)
                          go_wp2_with fail
                          go_meet
                          exact ⟨by rw [X5.out], Lib.hid ((Still.refl _).drewN _)⟩
                        · have f2b : decide ((k : Int) < t.size) = false := decide_eq_false (by omega)
                          have X5 : Hid (bE = false) := Lib.hid (by rw [HE.out]; unfold eqAt; rw [dif_neg (fun h => hkb h.2)])
                          go_quiet (fail)
                          go_wp2_with fail
                          go_meet
                          exact ⟨by rw [X5.out], Lib.hid ((Still.refl _).drewN _)⟩
                      · have f1b : decide ((i : Int) < s.size) = false := decide_eq_false (by omega)
                        have X5 : Hid (bE = false) := Lib.hid (by rw [HE.out]; unfold eqAt; rw [dif_neg (fun h => hia h.1)])
                        go_quiet (fail)
                        go_wp2_with fail
                        go_meet
                        exact ⟨by rw [X5.out], Lib.hid ((Still.refl _).drewN _)⟩
                    case rest =>
                      obtain ⟨rfl, HST⟩ := hcut
                      cases bE with
                      | true =>
                        obtain ⟨h3, h4, hM⟩ := mix_both HE.out.symm
                        have HM := Lib.hid (mix_next h3 HOUT.out hM)
                        have HB4 := Lib.hid (HWC.out.trans (HST.out.below _))
                        clear hM hbw
                        go_wp2_with fail
                        go_roundg (G - 1)
                        case measure => omega
                        case rel => exact ⟨i + 1, k + 1, _, by omega, by omega, by omega, rfl, by go_num, by go_num, HM, HB4.out⟩
                      | false =>
                        obtain ⟨bT, hbT⟩ : ∃ b, b = tkB s t i k := ⟨_, rfl⟩
                        have HT := Lib.hid hbT
                        clear hbT hbw
                        have HB4 := Lib.hid (HWC.out.trans (HST.out.below _))
                        go_upto_region 17 with fail
                        go_cut [162] from 36 to 180 (fun bv wy => bv = .bool bT ∧ Hid (Still wc wy))
                        case first =>
                          cases bF with
                          | false =>
                            have X5 : Hid (bT = false) := Lib.hid (by rw [HT.out]; unfold tkB; rw [← HF.out]; rfl)
                            go_quiet (fail)
                            go_wp2_with fail
                            go_meet
                            exact ⟨by rw [X5.out], Lib.hid ((Still.refl _).drewN _)⟩
                          | true =>
                            cases bS with
                            | false =>
                              have X5 : Hid (bT = true) := Lib.hid (by rw [HT.out]; unfold tkB; rw [← HF.out, ← HS.out]; rfl)
                              go_quiet (fail)
                              go_wp2_with fail
                              go_meet
                              exact ⟨by rw [X5.out], Lib.hid ((Still.refl _).drewN _)⟩
                            | true =>
                              have hia : i < s.size := by
                                have := HF.out; unfold fstB at this; simp at this; exact this.1
                              have hkb : k < t.size := by
                                have := HS.out; unfold sndB at this; simp at this; exact this.1
                              have f1 : (i : Int) < s.size := by omega
                              have f2 : (k : Int) < t.size := by omega
                              obtain ⟨bq, hbq⟩ : ∃ bq, bq = decide ((s[i].toNat : Int) < (t[k].toNat : Int)) := ⟨_, rfl⟩
                              have hbq2 : decide ((s[i].toNat : Int) < (t[k].toNat : Int)) = bq := hbq.symm
                              have hbq3 : decide (s[i].toNat < t[k].toNat) = bq := by
                                rw [hbq, decide_eq_decide]; omega
                              have X5 : Hid (bT = bq) := Lib.hid (by
                                rw [HT.out]; unfold tkB ltAt; rw [← HF.out, ← HS.out, dif_pos ⟨hia, hkb⟩, hbq3]; rfl)
                              clear hbq
                              go_quiet (fail)
                              go_wp2_with fail
                              go_meet
                              exact ⟨by rw [X5.out], Lib.hid ((Still.refl _).drewN _)⟩
                        case rest =>
                          obtain ⟨rfl, HST2⟩ := hcut
                          have HB5 := Lib.hid (HB4.out.trans (HST2.out.below _))
                          cases bT with
                          | true =>
                            obtain ⟨h3, hM⟩ := mix_take HE.out.symm HT.out.symm
                            have HM := Lib.hid (mix_next h3 HOUT.out hM)
                            clear hM
                            go_wp2_with fail
                            go_roundg G
                            case measure => omega
                            case rel => exact ⟨i + 1, k, _, by omega, by omega, by omega, rfl, by go_num, by go_num, HM, HB5.out⟩
                          | false =>
                            obtain ⟨h4, hM⟩ := mix_leave (by omega) HE.out.symm HT.out.symm
                            have HM := Lib.hid (mix_next h4 HOUT.out hM)
                            clear hM
                            go_wp2_with fail
                            go_roundg G
                            case measure => omega
                            case rel => exact ⟨i, k + 1, _, by omega, by omega, by omega, rfl, by go_num, by go_num, HM, HB5.out⟩
      · have hgt : decide (40 < p) = true := decide_eq_true (by omega)
        have hok : mixOk s t = false := HMK.out.trans (decide_eq_false hbig)
        have HOK := Lib.hid hok
        clear hok HMK
        go_wp2
        go_ret2
        refine ⟨?_, hb⟩
        rw [mixB_no HOK.out, HOK.out]
        rfl
end Go.Proofs.Ytokpcdclaifkpaa
