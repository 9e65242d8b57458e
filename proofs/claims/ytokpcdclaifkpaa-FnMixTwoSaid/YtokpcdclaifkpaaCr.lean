/- The walks of CommonRow, the reference's and the program's. -/
import Derived.Test.YtokpcdclaifkpaaMx
namespace Go.Proofs.Ytokpcdclaifkpaa
open Go.RowKit
set_option linter.unusedVariables false

def commonI (a b : ByteArray) : Int := if vt a.data.toList && vt b.data.toList then lcs a.data.toList b.data.toList else -1
theorem commonI_yes {a b : ByteArray} (h1 : vt a.data.toList = true) (h2 : vt b.data.toList = true) : commonI a b = lcsT a.data.toList b.data.toList 0 0 := by simp [commonI, h1, h2, lcsT]
theorem commonI_no {a b : ByteArray} (h : vt a.data.toList = false ∨ vt b.data.toList = false) : commonI a b = -1 := by rcases h with h | h <;> simp [commonI, h]

set_option maxHeartbeats 1000000 in
theorem s_CommonRow (s t : ByteArray) (w : World) (hs : s.size ≤ maxLen) (ht : t.size ≤ maxLen) :
    Calls Try.prog 38 #[.string s, .string t] w fun e w' => e = .returned (.int .i64 (commonI s t)) ∧ Below w.heap.size w w' := by
  cases h1 : vt s.data.toList
  · go_enter Try.func38, Try.ntmps38
    go_wp2_with (go_at_call 56; refine (s_validText _ _ (by assumption)).mono ?_; rintro e w' ⟨rfl, rfl⟩)
    go_ret
    exact ⟨ret_int (commonI_no (.inl h1)).symm, Below.refl _ _⟩
  · cases h2 : vt t.data.toList
    · go_enter Try.func38, Try.ntmps38
      go_wp2_with (go_at_call 56; refine (s_validText _ _ (by assumption)).mono ?_; rintro e w' ⟨rfl, rfl⟩)
      go_ret
      exact ⟨ret_int (commonI_no (.inr h2)).symm, Below.refl _ _⟩
    · have hsz := vt_size h1; have htz := vt_size h2
      go_enter Try.func38, Try.ntmps38
      go_wp2_with fail
      refine (s_validText _ _ hs).mono ?_; rintro e w' ⟨rfl, rfl⟩
      go_wp2_with fail
      refine (s_validText _ _ ht).mono ?_; rintro e w' ⟨rfl, rfl⟩
      go_wp2_with fail
      refine (s_common _ _ _ hsz htz).mono ?_; rintro e w1 ⟨gT, ca, gs, rfl, HL, htab, hb⟩
      obtain ⟨g, hg⟩ : ∃ g, gs[0]? = some g := ⟨_, List.getElem?_eq_getElem (by rw [HL.out]; omega)⟩
      have HG := Lib.hid hg; clear hg
      have c0 := (htab.2.2 0 g HG.out).1.2.2
      have c1 := ((htab.2.2 0 g HG.out).2 0 (by omega)).1
      go_wp2
      go_ret
      exact ⟨ret_int (commonI_yes h1 h2).symm, hb⟩

set_option maxHeartbeats 1000000 in
theorem i_CommonRow (s t : ByteArray) (w : World) (hs : s.size ≤ maxLen) (ht : t.size ≤ maxLen) :
    Calls Try.prog 37 #[.string s, .string t] w fun e w' => e = .returned (.int .i64 (commonI s t)) ∧ Below w.heap.size w w' := by
  have hb0 := Below.refl w.heap.size w
  cases h1 : vt s.data.toList
  · go_enter Try.func37, Try.ntmps37
    go_wp2_with (go_at_call 18; refine (i_VT _ _ (by assumption) (by assumption)).mono ?_; rintro e w' ⟨rfl, hb⟩)
    go_ret
    exact ⟨ret_int (commonI_no (.inl h1)).symm, by assumption⟩
  · cases h2 : vt t.data.toList
    · go_enter Try.func37, Try.ntmps37
      go_wp2_with (go_at_call 18; refine (i_VT _ _ (by assumption) (by assumption)).mono ?_; rintro e w' ⟨rfl, hb⟩)
      go_ret
      exact ⟨ret_int (commonI_no (.inr h2)).symm, by assumption⟩
    · have hsz := vt_size h1; have htz := vt_size h2
      have hx := scsT_le s.data.toList t.data.toList 0 0
      rw [list_len, list_len] at hx
      have he : commonI s t = s.size + t.size - scsT s.data.toList t.data.toList 0 0 := by
        rw [commonI_yes h1 h2]
        have := scs_lcs _ s.data.toList t.data.toList (Nat.le_refl _)
        rw [list_len, list_len] at this
        unfold lcsT scsT; simp only [List.drop_zero]; omega
      have HE := Lib.hid he; clear he
      go_enter Try.func37, Try.ntmps37
      go_wp2_with fail
      refine (i_VT _ _ hs hb0).mono ?_; rintro e w1 ⟨rfl, hb1⟩
      go_wp2_with fail
      refine (i_VT _ _ ht hb1).mono ?_; rintro e w2 ⟨rfl, hb2⟩
      go_wp2_with fail
      refine (i_mixes _ _ _ hsz htz).mono ?_; rintro e w3 ⟨gT, ca, gs, rfl, HL, htab, hb⟩
      obtain ⟨g, hg⟩ : ∃ g, gs[0]? = some g := ⟨_, List.getElem?_eq_getElem (by rw [HL.out]; omega)⟩
      have HG := Lib.hid hg; clear hg
      have c0 := (htab.2.2 0 g HG.out).1.2.2
      have c1 := ((htab.2.2 0 g HG.out).2 0 (by omega)).1
      go_wp2
      go_ret
      exact ⟨ret_int HE.out.symm, hb2.trans (hb.mono hb2.size)⟩
end Go.Proofs.Ytokpcdclaifkpaa
