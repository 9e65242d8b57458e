/- The walk of the program's MixTwo. -/
import Derived.Test.YtokpcdclaifkpaaMf
import Derived.Test.YtokpcdclaifkpaaBu
import Derived.Test.YtokpcdclaifkpaaSh
import Derived.Deep.LoopGhost
import Derived.Deep.CutRange
import Derived.BigQuiet
import Derived.Lib.SlBytesConst
namespace Go.Proofs.Ytokpcdclaifkpaa
open Go.RowKit
set_option linter.unusedVariables false

theorem bd_below {T e : TypeId} {B b : Nat} {bs : List Value} {W W' : World} (h : Lib.IsBuilder T e B b bs W) (hb : Below W.heap.size W W') : Lib.IsBuilder T e B b bs W' := by
  have key : ∀ p, Lib.BuilderAt T e B b p bs W → Lib.BuilderAt T e B b p bs W' := fun p h => by
    have hlt := h.lt
    obtain ⟨hB, v, hv, hown, hne⟩ := h
    exact ⟨hB, v, (hb.block b hlt).trans hv, hown.kept (row := none) ⟨hb.os, hb.tape, hb.output, hb.size, fun k hk _ => hb.block k hk⟩ (Classical.em _), hne⟩
  exact h.elim (fun x => .inl (key _ x)) (fun x => .inr (key _ x))
theorem bd_fresh (T e : TypeId) (B : Nat) (w : World) (hB : B ≤ w.heap.size) : Lib.IsBuilder T e B w.heap.size [] (w.alloc (.cells #[.pointer none, .slice none 0 0] T)) :=
  .inl ⟨hB, .slice none 0 0, heap_alloc_new w _, ⟨rfl, .inl ⟨rfl, rfl⟩⟩, by simp [Value.ownBlock]⟩
theorem sT_zero {a b : ByteArray} {i k : Nat} (h : sT a b i k = 0) : mixT a.data.toList b.data.toList i k = [] := by
  unfold sT scsT at h
  have := mix_len (a.data.toList.drop i) (b.data.toList.drop k)
  unfold mixT
  exact List.length_eq_zero_iff.1 (by omega)
theorem byteCells_push (l : List UInt8) (c : UInt8) : Lib.byteCells l ++ [.int .u8 c.toNat] = Lib.byteCells (l ++ [c]) := by simp [Lib.byteCells]
theorem abcd_at {w : World} {g : Nat} {fr : Nat × Nat} (hg : w.heap[g]? = some (.cells #[.int .u8 97, .int .u8 98, .int .u8 99, .int .u8 100] 5 fr)) {j : Nat} (hj : j < 4) : w.cell? ⟨g, j, none⟩ = some (.int .u8 ((97 + j : Nat) : Int)) := by
  rw [Lib.cell_of_heap hg]
  match j, hj with
  | 0, _ => rfl
  | 1, _ => rfl
  | 2, _ => rfl
  | 3, _ => rfl
set_option maxHeartbeats 8000000 in
set_option maxRecDepth 100000 in
theorem i_MixTwo (s t : ByteArray) (w : World) (hs : s.size ≤ maxLen) (ht : t.size ≤ maxLen) :
    Calls Try.prog 50 #[.string s, .string t] w (RetMix s t w) := by
  cases h1 : vt s.data.toList
  · have hok : mixOk s t = false := by unfold mixOk; rw [h1]; rfl
    go_enter Try.func50, Try.ntmps50
    go_wp2_with fail
    refine (i_ValidText _ _ hs).mono ?_; rintro e w1 ⟨rfl, hb1⟩
    go_wp2
    go_ret2
    refine ⟨?_, hb1⟩
    rw [mixB_no hok, hok]
    rfl
  · cases h2 : vt t.data.toList
    · have hok : mixOk s t = false := by unfold mixOk; rw [h1, h2]; rfl
      go_enter Try.func50, Try.ntmps50
      go_wp2_with fail
      refine (i_ValidText _ _ hs).mono ?_; rintro e w1 ⟨rfl, hb1⟩
      go_wp2_with fail
      refine (i_ValidText _ _ ht).mono ?_; rintro e w2 ⟨rfl, hb2⟩
      go_wp2
      go_ret2
      refine ⟨?_, hb1.trans (hb2.mono hb1.size)⟩
      rw [mixB_no hok, hok]
      rfl
    · have hsz := vt_size h1; have htz := vt_size h2
      go_enter Try.func50, Try.ntmps50
      go_wp2_with fail
      refine (i_ValidText _ _ hs).mono ?_; rintro e w1 ⟨rfl, hb1⟩
      go_wp2_with fail
      refine (i_ValidText _ _ ht).mono ?_; rintro e w2 ⟨rfl, hb2⟩
      have hB2 : Below w.heap.size w w2 := hb1.trans (hb2.mono hb1.size)
      go_wp2_with fail
      refine (i_mixes _ _ _ hsz htz).mono ?_; rintro e w3 ⟨gT, ca, gs, rfl, HL, htab, hb3⟩
      have hb : Below w.heap.size w w3 := hB2.trans (hb3.mono hB2.size)
      have hmk : mixOk s t = decide (scsT s.data.toList t.data.toList 0 0 ≤ 40) := by
        unfold mixOk scsT; rw [h1, h2, List.drop_zero, List.drop_zero, Bool.true_and, Bool.true_and, decide_eq_decide]; omega
      have hsc := scsT_le s.data.toList t.data.toList 0 0
      rw [list_len, list_len] at hsc
      obtain ⟨g, hg⟩ : ∃ g, gs[0]? = some g := ⟨_, List.getElem?_eq_getElem (by rw [HL.out]; omega)⟩
      have HG := Lib.hid hg; clear hg
      have HTB := Lib.hid htab; clear htab
      have c0 := (HTB.out.2.2 0 g HG.out).1.2.2
      have c1 := ((HTB.out.2.2 0 g HG.out).2 0 (by omega)).1
      obtain ⟨p, hp⟩ : ∃ p, p = scsT s.data.toList t.data.toList 0 0 := ⟨_, rfl⟩
      rw [← hp] at hsc c1 hmk
      have HP := Lib.hid hp
      have HMK := Lib.hid hmk
      obtain ⟨hp0, hp1⟩ := hsc
      clear hmk hp hb1 hb2 hB2 hb3
      by_cases hbig : p ≤ 40
      · have hgt : decide (40 < p) = false := decide_eq_false (by omega)
        have hok : mixOk s t = true := HMK.out.trans (decide_eq_true hbig)
        have HOK := Lib.hid hok
        clear hok HMK
        have hb0 : Below w3.heap.size w3 (w3.alloc (.cells #[.pointer none, .slice none 0 0] 51)) := (Below.refl _ _).alloc (Nat.le_refl _) _
        have hbd0 := bd_fresh 51 5 w3.heap.size w3 (Nat.le_refl _)
        have hlen : (mix s.data.toList t.data.toList).length ≤ 80 := by
          rw [mix_len]
          have := HP.out
          unfold scsT at this; rw [List.drop_zero, List.drop_zero] at this; omega
        have HLEN := Lib.hid hlen; clear hlen
        have HV1 := Lib.hid h1; have HV2 := Lib.hid h2
        have hss := hb.size
        clear HG h1 h2
        go_wp2
        clear c0 c1
        go_loopg [8, 9] 100 (fun g iv kv wr => ∃ (i k : Nat) (l : List UInt8), i ≤ s.size ∧ k ≤ t.size ∧ iv = .int .i64 i ∧ kv = .int .i64 k ∧ Hid (sT s t i k ≤ g) ∧ Hid (l ++ mixT s.data.toList t.data.toList i k = mix s.data.toList t.data.toList) ∧ Lib.IsBuilder 51 5 w3.heap.size w3.heap.size (Lib.byteCells l) wr ∧ Below w3.heap.size w3 wr)
        case atStart => exact ⟨0, 0, [], Nat.zero_le _, Nat.zero_le _, rfl, rfl, Lib.hid (by have := HP.out; unfold sT; omega), Lib.hid (by unfold mixT; rfl), hbd0, hb0⟩
        case round =>
          obtain ⟨i, k, l, hi, hk, rfl, rfl, HG, HOUT, hbd, hbw⟩ := hrel
          clear hb0 hbd0
          have HTB2 := Lib.hid (HTB.out.kept hbw)
          obtain ⟨g0, hg0⟩ : ∃ g, gs[i]? = some g := ⟨_, List.getElem?_eq_getElem (by rw [HL.out]; omega)⟩
          have HG0 := Lib.hid hg0; clear hg0
          have c0 := (HTB2.out.2.2 i g0 HG0.out).1.2.2
          have c1 := ((HTB2.out.2.2 i g0 HG0.out).2 k (by omega)).1
          have hs0 := scsT_le s.data.toList t.data.toList i k
          rw [list_len, list_len] at hs0
          obtain ⟨v0, hv0⟩ : ∃ v : Int, v = scsT s.data.toList t.data.toList i k := ⟨_, rfl⟩
          rw [← hv0] at c1 hs0
          have HV0 : Hid (sT s t i k = v0) := Lib.hid hv0.symm
          have hgv : v0 ≤ gk := by have := HG.out; rw [HV0.out] at this; exact this
          obtain ⟨hs00, hs01⟩ := hs0
          have b0 : i < s.size + 1 := by omega
          have b1 : (i : Int) < (s.size : Int) + 1 := by omega
          have b2 : k < t.size + 1 := by omega
          have b3 : (k : Int) < (t.size : Int) + 1 := by omega
          have hol : l.length ≤ 80 := by
            have := congrArg List.length HOUT.out
            rw [List.length_append] at this
            have := HLEN.out; omega
          clear hv0
          obtain ⟨GO, hG⟩ : ∃ G : Nat, G = gk := ⟨_, rfl⟩
          subst hG
          obtain ⟨wo, hwo⟩ : ∃ wo : World, wo = wr := ⟨_, rfl⟩
          subst hwo
          by_cases hpos : 0 < v0
          · have hcv := fun (w : World) (C : Array Value) (n c : Nat) => Lib.run_convert_bytes_const (P := Try.prog) w 22 5 C n c Try.underlying22 Try.underlying5
            have hbA : Below wo.heap.size wo (wo.alloc (.cells #[.int .u8 97, .int .u8 98, .int .u8 99, .int .u8 100] 5 (4, 5))) := (Below.refl _ _).alloc (Nat.le_refl _) _
            have hhA : (wo.alloc (.cells #[.int .u8 97, .int .u8 98, .int .u8 99, .int .u8 100] 5 (4, 5))).heap[wo.heap.size]? = some (.cells #[.int .u8 97, .int .u8 98, .int .u8 99, .int .u8 100] 5 (4, 5)) := heap_alloc_new wo _
            have HBA := Lib.hid hbA
            have HHA := Lib.hid hhA
            have HBD := Lib.hid hbd
            clear hbA hhA hbd
            go_wp2
            clear hcv c0 c1
            go_loopg [8, 9, 42] 4 (fun g2 iv kv jv wx => ∃ j : Nat, j + g2 = 4 ∧ iv = .int .i64 i ∧ kv = .int .i64 k ∧ jv = .int .i64 j ∧ Hid (∀ d, d < j → fires s t i k (97 + d) = false) ∧ Hid (Still (wo.alloc (.cells #[.int .u8 97, .int .u8 98, .int .u8 99, .int .u8 100] 5 (4, 5))) wx))
            case atStart => exact ⟨0, by omega, rfl, rfl, rfl, Lib.hid (fun d hd => by omega), Lib.hid (Still.refl _)⟩
            case round =>
              obtain ⟨j, hjg, rfl, rfl, rfl, HNO, HST⟩ := hrel
              cases gk with
              | zero =>
                exfalso
                obtain ⟨j0, hj0, hf0, _⟩ := fire_four HV1.out HV2.out hi hk (by rw [HV0.out]; exact hpos)
                rw [HNO.out j0 (by omega)] at hf0; cases hf0
              | succ g2 =>
                have hj4 : j < 4 := by omega
                have hbx : Below wo.heap.size wo wr := HBA.out.trans (HST.out.below _)
                have hHx : wr.heap[wo.heap.size]? = some (.cells #[.int .u8 97, .int .u8 98, .int .u8 99, .int .u8 100] 5 (4, 5)) := by rw [HST.out.2]; exact HHA.out
                have hcj := abcd_at hHx hj4
                obtain ⟨c, hc⟩ : ∃ c : Nat, c = 97 + j := ⟨_, rfl⟩
                rw [← hc] at hcj
                have HC := Lib.hid hc
                have hc1 : 97 ≤ c := by omega
                have hc2 : c ≤ 100 := by omega
                have e1 : (j : Int) < 4 := by omega
                clear hHx hc
                have HBX := Lib.hid hbx; clear hbx
                obtain ⟨pn, hpn⟩ : ∃ pn, pn = adv s i c := ⟨_, rfl⟩
                obtain ⟨qn, hqn⟩ : ∃ qn, qn = adv t k c := ⟨_, rfl⟩
                have HPN := Lib.hid hpn
                have HQN := Lib.hid hqn
                have hpl := adv_le (c := c) hi; have hql := adv_le (c := c) hk
                rw [← hpn] at hpl; rw [← hqn] at hql
                obtain ⟨hp1, hp2, hp3⟩ := hpl
                obtain ⟨hq1, hq2, hq3⟩ := hql
                clear hpn hqn
                obtain ⟨wi, hwi⟩ : ∃ wi : World, wi = wr := ⟨_, rfl⟩
                subst hwi
                obtain ⟨bA, hbA⟩ : ∃ bA, bA = decide (i < pn) := ⟨_, rfl⟩
                obtain ⟨bB, hbB⟩ : ∃ bB, bB = decide (k < qn) := ⟨_, rfl⟩
                have HA := Lib.hid hbA; have HB := Lib.hid hbB
                clear hbA hbB
                go_upto_region 13 with fail
                go_cut [11, 12, 13, 58] from 43 to 104 (fun cv pv qv bv wy => cv = .int .u8 c ∧ pv = .int .i64 i ∧ qv = .int .i64 k ∧ bv = .bool bA ∧ wy = wi)
                case first =>
                  by_cases h1 : i < s.size
                  · have f1 : (i : Int) < s.size := by omega
                    by_cases h2 : s[i].toNat = c
                    · have f2 : ((s[i].toNat : Int) == (c : Int)) = true := by rw [beq_iff_eq]; omega
                      have f3 : bA = true := by rw [HA.out, HPN.out, adv_yes h1 h2]; simp
                      have F3 := Lib.hid f3
                      clear h2 f3
                      go_wp2_with fail
                      go_meet
                      exact ⟨rfl, rfl, rfl, by rw [F3.out], rfl⟩
                    · have f2 : ((s[i].toNat : Int) == (c : Int)) = false := by rw [beq_eq_false_iff_ne]; omega
                      have f3 : bA = false := by rw [HA.out, HPN.out, adv_no h1 h2]; simp
                      have F3 := Lib.hid f3
                      clear h2 f3
                      go_wp2_with fail
                      go_meet
                      exact ⟨rfl, rfl, rfl, by rw [F3.out], rfl⟩
                  · have f1 : ¬ (i : Int) < s.size := by omega
                    have f3 : bA = false := by rw [HA.out, HPN.out, adv_out h1]; simp
                    have F3 := Lib.hid f3
                    clear f3
                    go_wp2_with fail
                    go_meet
                    exact ⟨rfl, rfl, rfl, by rw [F3.out], rfl⟩
                case rest =>
                  obtain ⟨rfl, rfl, rfl, rfl, rfl⟩ := hcut
                  go_upto_if 58 with fail
                  go_cut [12] from 43 to 104 (fun pv wy => pv = .int .i64 pn ∧ wy = wc)
                  case first =>
                    cases bA with
                    | true =>
                      have f3 : pn = i + 1 := by have := HA.out; simp at this; omega
                      have F3 := Lib.hid f3; clear f3
                      go_wp2_with fail
                      go_meet
                      exact ⟨by rw [F3.out]; go_num, rfl⟩
                    | false =>
                      have f3 : pn = i := by have := HA.out; simp at this; omega
                      have F3 := Lib.hid f3; clear f3
                      go_wp2_with fail
                      go_meet
                      exact ⟨by rw [F3.out], rfl⟩
                  case rest =>
                    obtain ⟨rfl, rfl⟩ := hcut
                    go_upto_region 15 with fail
                    go_cut [71] from 43 to 104 (fun bv wy => bv = .bool bB ∧ wy = wc)
                    case first =>
                      by_cases h1 : k < t.size
                      · have f1 : (k : Int) < t.size := by omega
                        by_cases h2 : t[k].toNat = c
                        · have f2 : ((t[k].toNat : Int) == (c : Int)) = true := by rw [beq_iff_eq]; omega
                          have f3 : bB = true := by rw [HB.out, HQN.out, adv_yes h1 h2]; simp
                          have F3 := Lib.hid f3
                          clear h2 f3
                          go_wp2_with fail
                          go_meet
                          exact ⟨by rw [F3.out], rfl⟩
                        · have f2 : ((t[k].toNat : Int) == (c : Int)) = false := by rw [beq_eq_false_iff_ne]; omega
                          have f3 : bB = false := by rw [HB.out, HQN.out, adv_no h1 h2]; simp
                          have F3 := Lib.hid f3
                          clear h2 f3
                          go_wp2_with fail
                          go_meet
                          exact ⟨by rw [F3.out], rfl⟩
                      · have f1 : ¬ (k : Int) < t.size := by omega
                        have f3 : bB = false := by rw [HB.out, HQN.out, adv_out h1]; simp
                        have F3 := Lib.hid f3
                        clear f3
                        go_wp2_with fail
                        go_meet
                        exact ⟨by rw [F3.out], rfl⟩
                    case rest =>
                      obtain ⟨rfl, rfl⟩ := hcut
                      go_upto_if 71 with fail
                      go_cut [13] from 43 to 104 (fun qv wy => qv = .int .i64 qn ∧ wy = wc)
                      case first =>
                        cases bB with
                        | true =>
                          have f3 : qn = k + 1 := by have := HB.out; simp at this; omega
                          have F3 := Lib.hid f3; clear f3
                          go_wp2_with fail
                          go_meet
                          exact ⟨by rw [F3.out]; go_num, rfl⟩
                        | false =>
                          have f3 : qn = k := by have := HB.out; simp at this; omega
                          have F3 := Lib.hid f3; clear f3
                          go_wp2_with fail
                          go_meet
                          exact ⟨by rw [F3.out], rfl⟩
                      case rest =>
                        obtain ⟨rfl, rfl⟩ := hcut
                        have HTB3 := Lib.hid (HTB2.out.kept HBX.out)
                        obtain ⟨gP, hgP⟩ : ∃ g, gs[pn]? = some g := ⟨_, List.getElem?_eq_getElem (by rw [HL.out]; omega)⟩
                        have HGP := Lib.hid hgP; clear hgP
                        have c0 := (HTB3.out.2.2 i g0 HG0.out).1.2.2
                        have c1 := ((HTB3.out.2.2 i g0 HG0.out).2 k (by omega)).1
                        have d0 := (HTB3.out.2.2 pn gP HGP.out).1.2.2
                        have d1 := ((HTB3.out.2.2 pn gP HGP.out).2 qn (by omega)).1
                        have HVP' : Hid (scsT s.data.toList t.data.toList i k = v0) := HV0
                        rw [HVP'.out] at c1
                        obtain ⟨vP, hvP⟩ : ∃ v : Int, v = scsT s.data.toList t.data.toList pn qn := ⟨_, rfl⟩
                        rw [← hvP] at d1
                        have HVP : Hid (sT s t pn qn = vP) := Lib.hid hvP.symm
                        clear hvP
                        have b4 : pn < s.size + 1 := by omega
                        have b5 : (pn : Int) < (s.size : Int) + 1 := by omega
                        have b6 : qn < t.size + 1 := by omega
                        have b7 : (qn : Int) < (t.size : Int) + 1 := by omega
                        have b8 : IntKind.i64.wrap (v0 - 1) = v0 - 1 := IntWalk.i64_in _ (by omega)
                        go_upto_region 17 with fail
                        by_cases hip : i < pn
                        · have t1 : decide ((i : Int) < (pn : Int)) = true := decide_eq_true (by omega)
                          have HI : Hid ((decide (i < pn) || decide (k < qn)) = true) := Lib.hid (by rw [decide_eq_true hip]; rfl)
                          by_cases he : vP = v0 - 1
                          · have t2 : (vP == v0 - 1) = true := beq_iff_eq.2 he
                            have hf : fires s t i k c = true := by unfold fires; rw [← HPN.out, ← HQN.out, HV0.out, HVP.out, decide_eq_true he, HI.out]; rfl
                            obtain ⟨_, _, _, hfour⟩ := fire_four HV1.out HV2.out hi hk (by rw [HV0.out]; exact hpos)
                            obtain ⟨_, cc, hcc, hmx⟩ := hfour j (by rw [← HC.out]; exact hf) HNO.out
                            rw [← HC.out, ← HPN.out, ← HQN.out] at hmx
                            rw [← HC.out] at hcc
                            have HCC := Lib.hid hcc
                            have HOUT2 : Hid ((l ++ [cc]) ++ mixT s.data.toList t.data.toList pn qn = mix s.data.toList t.data.toList) := Lib.hid (by rw [← HOUT.out, hmx, List.append_assoc]; rfl)
                            have HE := Lib.hid he
                            clear hf hfour hcc hmx he
                            go_quiet (fail)
                            have hbdq := bd_below HBD.out (below_drewN HBX.out nq)
                            have hbl : (Lib.byteCells l).length ≤ 80 := by simp [Lib.byteCells]; omega
                            have hszq := (below_drewN (hbw.trans (HBX.out.mono hbw.size)) nq).size
                            go_wp2_with fail
                            refine (bu_WriteByte w3.heap.size w3.heap.size (Lib.byteCells l) (c : Int) _ hbdq (by omega) hszq).mono ?_; rintro e w8 ⟨rfl, hbd8, hb8⟩
                            rw [← HCC.out, byteCells_push] at hbd8
                            have HBD8 := Lib.hid hbd8
                            have HB8 := Lib.hid ((below_drewN (hbw.trans (HBX.out.mono hbw.size)) nq).trans hb8)
                            clear hbdq hbd8 hb8
                            go_wp2
                            go_roundg (GO - 1)
                            case measure => omega
                            case rel => exact ⟨pn, qn, l ++ [cc], hp2, hq2, rfl, rfl, Lib.hid (by rw [HVP.out]; have := HE.out; omega), HOUT2, HBD8.out, HB8.out⟩
                          · have t2 : (vP == v0 - 1) = false := beq_eq_false_iff_ne.2 he
                            have hf : fires s t i k c = false := by unfold fires; rw [← HPN.out, ← HQN.out, HV0.out, HVP.out, decide_eq_false he, Bool.and_false]
                            have HNO2 : Hid (∀ d, d < j + 1 → fires s t i k (97 + d) = false) := Lib.hid (fun d hd => by
                              by_cases e : d = j
                              · rw [e, ← HC.out]; exact hf
                              · exact HNO.out d (by omega))
                            clear hf he
                            go_quiet (fail)
                            go_wp2
                            go_roundg g2
                            case measure => omega
                            case rel => exact ⟨j + 1, by omega, rfl, rfl, by go_num, HNO2, Lib.hid (HST.out.drewN _)⟩
                        · have t1 : decide ((i : Int) < (pn : Int)) = false := decide_eq_false (by omega)
                          by_cases hkq : k < qn
                          · have t3 : decide ((k : Int) < (qn : Int)) = true := decide_eq_true (by omega)
                            have HI : Hid ((decide (i < pn) || decide (k < qn)) = true) := Lib.hid (by rw [decide_eq_true hkq, Bool.or_true])
                            by_cases he : vP = v0 - 1
                            · have t2 : (vP == v0 - 1) = true := beq_iff_eq.2 he
                              have hf : fires s t i k c = true := by unfold fires; rw [← HPN.out, ← HQN.out, HV0.out, HVP.out, decide_eq_true he, HI.out]; rfl
                              obtain ⟨_, _, _, hfour⟩ := fire_four HV1.out HV2.out hi hk (by rw [HV0.out]; exact hpos)
                              obtain ⟨_, cc, hcc, hmx⟩ := hfour j (by rw [← HC.out]; exact hf) HNO.out
                              rw [← HC.out, ← HPN.out, ← HQN.out] at hmx
                              rw [← HC.out] at hcc
                              have HCC := Lib.hid hcc
                              have HOUT2 : Hid ((l ++ [cc]) ++ mixT s.data.toList t.data.toList pn qn = mix s.data.toList t.data.toList) := Lib.hid (by rw [← HOUT.out, hmx, List.append_assoc]; rfl)
                              have HE := Lib.hid he
                              clear hf hfour hcc hmx he
                              go_quiet (fail)
                              have hbdq := bd_below HBD.out (below_drewN HBX.out nq)
                              have hbl : (Lib.byteCells l).length ≤ 80 := by simp [Lib.byteCells]; omega
                              have hszq := (below_drewN (hbw.trans (HBX.out.mono hbw.size)) nq).size
                              go_wp2_with fail
                              refine (bu_WriteByte w3.heap.size w3.heap.size (Lib.byteCells l) (c : Int) _ hbdq (by omega) hszq).mono ?_; rintro e w8 ⟨rfl, hbd8, hb8⟩
                              rw [← HCC.out, byteCells_push] at hbd8
                              have HBD8 := Lib.hid hbd8
                              have HB8 := Lib.hid ((below_drewN (hbw.trans (HBX.out.mono hbw.size)) nq).trans hb8)
                              clear hbdq hbd8 hb8
                              go_wp2
                              go_roundg (GO - 1)
                              case measure => omega
                              case rel => exact ⟨pn, qn, l ++ [cc], hp2, hq2, rfl, rfl, Lib.hid (by rw [HVP.out]; have := HE.out; omega), HOUT2, HBD8.out, HB8.out⟩
                            · have t2 : (vP == v0 - 1) = false := beq_eq_false_iff_ne.2 he
                              have hf : fires s t i k c = false := by unfold fires; rw [← HPN.out, ← HQN.out, HV0.out, HVP.out, decide_eq_false he, Bool.and_false]
                              have HNO2 : Hid (∀ d, d < j + 1 → fires s t i k (97 + d) = false) := Lib.hid (fun d hd => by
                                by_cases e : d = j
                                · rw [e, ← HC.out]; exact hf
                                · exact HNO.out d (by omega))
                              clear hf he
                              go_quiet (fail)
                              go_wp2
                              go_roundg g2
                              case measure => omega
                              case rel => exact ⟨j + 1, by omega, rfl, rfl, by go_num, HNO2, Lib.hid (HST.out.drewN _)⟩
                          · have t3 : decide ((k : Int) < (qn : Int)) = false := decide_eq_false (by omega)
                            have hf : fires s t i k c = false := by unfold fires; rw [← HPN.out, ← HQN.out, decide_eq_false hip, decide_eq_false hkq]; rfl
                            have HNO2 : Hid (∀ d, d < j + 1 → fires s t i k (97 + d) = false) := Lib.hid (fun d hd => by
                              by_cases e : d = j
                              · rw [e, ← HC.out]; exact hf
                              · exact HNO.out d (by omega))
                            clear hf
                            go_quiet (fail)
                            go_wp2
                            go_roundg g2
                            case measure => omega
                            case rel => exact ⟨j + 1, by omega, rfl, rfl, by go_num, HNO2, Lib.hid (HST.out.drewN _)⟩
          · obtain rfl : v0 = 0 := by omega
            have hm0 := sT_zero HV0.out
            have hl0 : (⟨l.toArray⟩ : ByteArray) = mixB s t := by
              have := HOUT.out
              rw [hm0, List.append_nil] at this
              rw [mixB_yes HOK.out, this]
            have HL0 := Lib.hid hl0
            clear hm0 hl0
            have hbs := hbw.size
            go_wp2_with fail
            refine (Try.Builder_String_any w3.heap.size w3.heap.size l _ hbd (by omega)).mono ?_; rintro e w4 ⟨rfl, hb4⟩
            rw [HL0.out]
            go_wp2
            go_ret2
            refine ⟨?_, hb.trans ((hbw.trans hb4).mono hss)⟩
            rw [HOK.out]
            rfl
      · have hgt : decide (40 < p) = true := decide_eq_true (by omega)
        have hok : mixOk s t = false := HMK.out.trans (decide_eq_false hbig)
        have HOK := Lib.hid hok
        clear hok HMK
        go_wp2
        go_ret2
        refine ⟨?_, hb⟩
        rw [mixB_no HOK.out, HOK.out]
        rfl
end Go.Proofs.Ytokpcdclaifkpaa
