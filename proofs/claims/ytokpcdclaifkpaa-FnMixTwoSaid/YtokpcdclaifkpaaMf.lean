/- Which letter the program's loop takes: the first of the alphabet that fires is the head of the mixture. -/
import Derived.Test.YtokpcdclaifkpaaMt
namespace Go.Proofs.Ytokpcdclaifkpaa
open Go.RowKit
set_option linter.unusedVariables false

/-- Where a text stands behind the letter c, if that comes next. -/
def adv (a : ByteArray) (i c : Nat) : Nat := if h : i < a.size then (if a[i].toNat = c then i + 1 else i) else i
theorem adv_out {a : ByteArray} {i c : Nat} (h : ¬ i < a.size) : adv a i c = i := by unfold adv; rw [dif_neg h]
theorem adv_yes {a : ByteArray} {i c : Nat} (h : i < a.size) (e : a[i].toNat = c) : adv a i c = i + 1 := by unfold adv; rw [dif_pos h, if_pos e]
theorem adv_no {a : ByteArray} {i c : Nat} (h : i < a.size) (e : a[i].toNat ≠ c) : adv a i c = i := by unfold adv; rw [dif_pos h, if_neg e]
theorem adv_le {a : ByteArray} {i c : Nat} (h : i ≤ a.size) : i ≤ adv a i c ∧ adv a i c ≤ a.size ∧ adv a i c ≤ i + 1 := by
  unfold adv; split
  · split <;> omega
  · omega
def sT (a b : ByteArray) (i k : Nat) : Int := scsT a.data.toList b.data.toList i k
def fires (a b : ByteArray) (i k c : Nat) : Bool := (decide (i < adv a i c) || decide (k < adv b k c)) && decide (sT a b (adv a i c) (adv b k c) = sT a b i k - 1)
theorem fires_yes {a b : ByteArray} {i k c p q : Nat} (hp : adv a i c = p) (hq : adv b k c = q) (h : i < p ∨ k < q) (h2 : sT a b p q = sT a b i k - 1) : fires a b i k c = true := by
  unfold fires; rw [hp, hq, decide_eq_true h2, Bool.and_true, Bool.or_eq_true, decide_eq_true_eq, decide_eq_true_eq]; exact h
theorem fires_still {a b : ByteArray} {i k c : Nat} (hp : adv a i c = i) (hq : adv b k c = k) : fires a b i k c = false := by
  unfold fires; rw [hp, hq, decide_eq_false (by omega), decide_eq_false (by omega)]; rfl
theorem fires_not {a b : ByteArray} {i k c p q : Nat} (hp : adv a i c = p) (hq : adv b k c = q) (h2 : sT a b p q ≠ sT a b i k - 1) : fires a b i k c = false := by
  unfold fires; rw [hp, hq, decide_eq_false h2, Bool.and_false]

theorem fire_head {a b : ByteArray} {i k : Nat} (hi : i ≤ a.size) (hk : k ≤ b.size) (h0 : 0 < sT a b i k) :
    ∃ c : UInt8, mixT a.data.toList b.data.toList i k = c :: mixT a.data.toList b.data.toList (adv a i c.toNat) (adv b k c.toNat) ∧ fires a b i k c.toNat = true ∧
      (∀ d, d < c.toNat → fires a b i k d = false) ∧ ((∃ h : i < a.size, a[i] = c) ∨ (∃ h : k < b.size, b[k] = c)) := by
  by_cases hia : i < a.size
  · by_cases hkb : k < b.size
    · by_cases hxy : a[i] = b[k]
      · have e1 := adv_yes hia rfl
        have e2 : adv b k a[i].toNat = k + 1 := adv_yes hkb (by rw [hxy])
        refine ⟨a[i], ?_, fires_yes e1 e2 (by omega) ?_, ?_, .inl ⟨hia, rfl⟩⟩
        · rw [e1, e2]; exact mixT_eq hia hkb hxy
        · unfold sT; rw [scsT_eq hia hkb hxy]; omega
        · intro d hd; exact fires_still (adv_no hia (by omega)) (adv_no hkb (by rw [← hxy]; omega))
      · have hne : a[i].toNat ≠ b[k].toNat := fun e => hxy (UInt8.toNat_inj.1 e)
        have hsc := scsT_ne hia hkb hxy
        cases hf : firstT a b i k hia hkb with
        | true =>
          have e1 := adv_yes hia rfl
          have e2 : adv b k a[i].toNat = k := adv_no hkb (by omega)
          have hf' := hf
          unfold firstT at hf'
          rw [Bool.and_eq_true, decide_eq_true_eq, Bool.or_eq_true, Bool.not_eq_true', decide_eq_false_iff_not, decide_eq_true_eq] at hf'
          refine ⟨a[i], ?_, fires_yes e1 e2 (by omega) hf'.1, ?_, .inl ⟨hia, rfl⟩⟩
          · rw [e1, e2]; exact mixT_first hia hkb hxy hf
          · intro d hd
            by_cases hdb : b[k].toNat = d
            · refine fires_not (adv_no hia (by omega)) (adv_yes hkb hdb) ?_
              rcases hf'.2 with h | h
              · exact h
              · omega
            · exact fires_still (adv_no hia (by omega)) (adv_no hkb hdb)
        | false =>
          have e1 : adv a i b[k].toNat = i := adv_no hia hne
          have e2 := adv_yes hkb rfl
          have hs : scsT a.data.toList b.data.toList i (k + 1) = scsT a.data.toList b.data.toList i k - 1 := by
            by_cases e : scsT a.data.toList b.data.toList i (k + 1) = scsT a.data.toList b.data.toList i k - 1
            · exact e
            · exfalso
              have e3 : scsT a.data.toList b.data.toList (i + 1) k = scsT a.data.toList b.data.toList i k - 1 := by omega
              unfold firstT at hf
              rw [decide_eq_true e3, decide_eq_false e] at hf
              simp at hf
          refine ⟨b[k], ?_, fires_yes e1 e2 (by omega) hs, ?_, .inr ⟨hkb, rfl⟩⟩
          · rw [e1, e2]; exact mixT_second hia hkb hxy hf
          · intro d hd
            by_cases hda : a[i].toNat = d
            · refine fires_not (adv_yes hia hda) (adv_no hkb (by omega)) ?_
              intro e3
              unfold firstT at hf
              have e3' : scsT a.data.toList b.data.toList (i + 1) k = scsT a.data.toList b.data.toList i k - 1 := e3
              rw [decide_eq_true e3', decide_eq_true (p := a[i].toNat < b[k].toNat) (by omega)] at hf
              simp at hf
            · exact fires_still (adv_no hia hda) (adv_no hkb (by omega))
    · have hb : b.size ≤ k := by omega
      have e1 := adv_yes hia rfl
      have e2 : adv b k a[i].toNat = k := adv_out hkb
      refine ⟨a[i], ?_, fires_yes e1 e2 (by omega) ?_, ?_, .inl ⟨hia, rfl⟩⟩
      · rw [e1, e2]; exact mixT_col hia hb
      · unfold sT; rw [scsT_col hb, scsT_col hb]; omega
      · intro d hd; exact fires_still (adv_no hia (by omega)) (adv_out hkb)
  · have ha : a.size ≤ i := by omega
    by_cases hkb : k < b.size
    · have e1 : adv a i b[k].toNat = i := adv_out hia
      have e2 := adv_yes hkb rfl
      refine ⟨b[k], ?_, fires_yes e1 e2 (by omega) ?_, ?_, .inr ⟨hkb, rfl⟩⟩
      · rw [e1, e2]; exact mixT_row ha hkb
      · unfold sT; rw [scsT_row ha, scsT_row ha]; omega
      · intro d hd; exact fires_still (adv_out hia) (adv_no hkb (by omega))
    · exfalso; unfold sT at h0; rw [scsT_row ha] at h0; omega

/-- With valid letters: one of the four letters fires; the first that does is the mixture's head. -/
theorem fire_four {a b : ByteArray} {i k : Nat} (hva : vt a.data.toList = true) (hvb : vt b.data.toList = true) (hi : i ≤ a.size) (hk : k ≤ b.size) (h0 : 0 < sT a b i k) :
    ∃ j : Nat, j < 4 ∧ fires a b i k (97 + j) = true ∧ ∀ j', fires a b i k (97 + j') = true → (∀ d, d < j' → fires a b i k (97 + d) = false) →
      j' < 4 ∧ ∃ c : UInt8, c.toNat = 97 + j' ∧ mixT a.data.toList b.data.toList i k = c :: mixT a.data.toList b.data.toList (adv a i (97 + j')) (adv b k (97 + j')) := by
  obtain ⟨c, h1, h2, h3, h4⟩ := fire_head hi hk h0
  have hc : 97 ≤ c.toNat ∧ c.toNat ≤ 100 := by
    have ho : okc c = true := by
      rcases h4 with ⟨h, e⟩ | ⟨h, e⟩
      · rw [← e]; exact vt_okc hva _ h
      · rw [← e]; exact vt_okc hvb _ h
    unfold okc at ho; rw [Bool.and_eq_true, decide_eq_true_eq, decide_eq_true_eq] at ho; omega
  have hcj : c.toNat = 97 + (c.toNat - 97) := by omega
  refine ⟨c.toNat - 97, by omega, by rw [← hcj]; exact h2, fun j' hj hno => ?_⟩
  have hj' : j' = c.toNat - 97 := by
    rcases Nat.lt_trichotomy j' (c.toNat - 97) with h | h | h
    · rw [h3 (97 + j') (by omega)] at hj; cases hj
    · exact h
    · have := hno (c.toNat - 97) h; rw [← hcj, h2] at this; cases this
  refine ⟨by omega, c, by omega, ?_⟩
  rw [hj', ← hcj]; exact h1
end Go.Proofs.Ytokpcdclaifkpaa
