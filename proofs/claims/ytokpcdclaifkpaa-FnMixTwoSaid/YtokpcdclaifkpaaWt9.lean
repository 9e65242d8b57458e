/- Walk of the law FnMixTwo over drawn texts: the mixture has both texts as rows, is as long as both less what is common, and is the same both ways. -/
import Derived.Test.YtokpcdclaifkpaaWt7
import Derived.Test.YtokpcdclaifkpaaMw
import Derived.Test.YtokpcdclaifkpaaMi
namespace Go.Proofs.Ytokpcdclaifkpaa
open Go.RowKit
set_option linter.unusedVariables false

theorem row_skip {c : UInt8} {s w : List UInt8} (h : rowRest s w = []) : rowRest (c :: s) w = [] := by
  cases w with
  | nil => exact rowRest_nil _
  | cons y w =>
    rw [rowRest_cons]
    by_cases e : c = y
    · rw [if_pos e]; exact rowRest_drop s (y :: w) 1 h
    · rw [if_neg e]; exact h
theorem row_take {c : UInt8} {s w : List UInt8} (h : rowRest s w = []) : rowRest (c :: s) (c :: w) = [] := by rw [rowRest_cons, if_pos rfl]; exact h
theorem mix_row : ∀ a b : List UInt8, rowRest (mix a b) a = [] := by
  intro a
  induction a with
  | nil => intro b; exact rowRest_nil _
  | cons x xs ih =>
    intro b
    induction b with
    | nil => rw [mix_nil']; exact rowRest_self _
    | cons y ys ihb =>
      rw [mix_cons]
      by_cases e : x = y
      · rw [if_pos e]; exact row_take (ih ys)
      · rw [if_neg e]
        cases h : takeA x y xs ys with
        | true => rw [if_pos rfl]; exact row_take (ih _)
        | false => rw [if_neg (by decide)]; exact row_skip ihb
theorem scs_comm : ∀ a b : List UInt8, scs a b = scs b a := by
  intro a
  induction a with
  | nil => intro b; rw [scs_nil, scs_nil']
  | cons x xs ih =>
    intro b
    induction b with
    | nil => rw [scs_nil, scs_nil']
    | cons y ys ihb =>
      rw [scs_cons, scs_cons]
      by_cases e : x = y
      · rw [if_pos e, if_pos e.symm, ih]
      · rw [if_neg e, if_neg (fun k => e k.symm), ih, ihb, Nat.min_comm]
theorem takeA_flip {x y : UInt8} (xs ys : List UInt8) (h : x ≠ y) : takeA y x ys xs = !takeA x y xs ys := by
  have hd := scs_diff xs ys h
  have hne : x.toNat ≠ y.toNat := fun e => h (UInt8.toNat_inj.1 e)
  unfold takeA
  rw [scs_comm ys (x :: xs), scs_comm (y :: ys) (x :: xs), scs_comm (y :: ys) xs]
  by_cases hf : scs xs (y :: ys) + 1 = scs (x :: xs) (y :: ys) <;> by_cases hs : scs (x :: xs) ys + 1 = scs (x :: xs) (y :: ys) <;> by_cases hl : x.toNat < y.toNat
  · rw [decide_eq_true hf, decide_eq_true hs, decide_eq_true hl, decide_eq_false (p := y.toNat < x.toNat) (by omega)]; rfl
  · rw [decide_eq_true hf, decide_eq_true hs, decide_eq_false hl, decide_eq_true (p := y.toNat < x.toNat) (by omega)]; rfl
  · rw [decide_eq_true hf, decide_eq_false hs]; rfl
  · rw [decide_eq_true hf, decide_eq_false hs]; rfl
  · rw [decide_eq_false hf, decide_eq_true hs]; rfl
  · rw [decide_eq_false hf, decide_eq_true hs]; rfl
  · omega
  · omega
theorem mix_comm : ∀ a b : List UInt8, mix a b = mix b a := by
  intro a
  induction a with
  | nil => intro b; rw [mix_nil, mix_nil']
  | cons x xs ih =>
    intro b
    induction b with
    | nil => rw [mix_nil, mix_nil']
    | cons y ys ihb =>
      rw [mix_cons, mix_cons]
      by_cases e : x = y
      · rw [if_pos e, if_pos e.symm, ih, e]
      · rw [if_neg e, if_neg (show ¬ y = x from fun k => e k.symm), takeA_flip xs ys e]
        cases h : takeA x y xs ys with
        | true => rw [if_pos rfl, if_neg (show ¬ (!true) = true by decide), ih]
        | false => rw [if_neg (show ¬ false = true by decide), if_pos (show (!false) = true by decide), ihb]
theorem mix_mem : ∀ (a b : List UInt8) (c : UInt8), c ∈ mix a b → c ∈ a ∨ c ∈ b := by
  intro a
  induction a with
  | nil => intro b c h; exact .inr h
  | cons x xs ih =>
    intro b
    induction b with
    | nil => intro c h; rw [mix_nil'] at h; exact .inl h
    | cons y ys ihb =>
      intro c h
      rw [mix_cons] at h
      by_cases e : x = y
      · rw [if_pos e, List.mem_cons] at h
        rcases h with rfl | h
        · exact .inl (by simp)
        · rcases ih _ _ h with h | h
          · exact .inl (by simp [h])
          · exact .inr (by simp [h])
      · rw [if_neg e] at h
        cases ht : takeA x y xs ys with
        | true =>
          rw [ht, if_pos rfl, List.mem_cons] at h
          rcases h with rfl | h
          · exact .inl (by simp)
          · rcases ih _ _ h with h | h
            · exact .inl (by simp [h])
            · exact .inr h
        | false =>
          rw [ht, if_neg (by decide), List.mem_cons] at h
          rcases h with rfl | h
          · exact .inr (by simp)
          · rcases ihb _ h with h | h
            · exact .inl h
            · exact .inr (by simp [h])
theorem mix_vt {a b : List UInt8} (ha : vt a = true) (hb : vt b = true) (hl : scs a b ≤ 40) : vt (mix a b) = true := by
  unfold vt at ha hb ⊢
  rw [Bool.and_eq_true, List.all_eq_true] at ha hb ⊢
  refine ⟨fun c hc => ?_, by rw [mix_len]; exact decide_eq_true hl⟩
  rcases mix_mem _ _ _ hc with h | h
  · exact ha.1 _ h
  · exact hb.1 _ h
theorem mixOk_parts {a b : ByteArray} (h : mixOk a b = true) : vt a.data.toList = true ∧ vt b.data.toList = true ∧ scs a.data.toList b.data.toList ≤ 40 := by
  unfold mixOk at h; rw [Bool.and_eq_true, Bool.and_eq_true, decide_eq_true_eq] at h; exact ⟨h.1.1, h.1.2, h.2⟩
theorem mixOk_comm (a b : ByteArray) : mixOk b a = mixOk a b := by
  unfold mixOk; rw [scs_comm, Bool.and_comm (vt b.data.toList)]
theorem mixB_comm (a b : ByteArray) : mixB b a = mixB a b := by
  cases h : mixOk a b with
  | false => rw [mixB_no h, mixB_no ((mixOk_comm a b).trans h)]
  | true => rw [mixB_yes h, mixB_yes ((mixOk_comm a b).trans h), mix_comm]
theorem mixB_data {a b : ByteArray} (h : mixOk a b = true) : (mixB a b).data.toList = mix a.data.toList b.data.toList := by rw [mixB_yes h]
theorem mixB_size {a b : ByteArray} (h : mixOk a b = true) : (mixB a b).size ≤ 40 ∧ ((mixB a b).size : Int) = a.size + b.size - commonI a b := by
  obtain ⟨h1, h2, h3⟩ := mixOk_parts h
  have e := mixB_data h
  have e2 := congrArg List.length e
  rw [list_len, mix_len] at e2
  have e3 := scs_lcs _ a.data.toList b.data.toList (Nat.le_refl _)
  rw [list_len, list_len] at e3
  rw [commonI_yes h1 h2]; unfold lcsT; simp only [List.drop_zero]
  omega
theorem mixB_rowA {a b : ByteArray} (h : mixOk a b = true) : isRowB (mixB a b) a = true := by
  obtain ⟨h1, h2, h3⟩ := mixOk_parts h
  unfold isRowB; rw [mixB_data h, mix_vt h1 h2 h3, h1, mix_row]; rfl
theorem mixB_rowB {a b : ByteArray} (h : mixOk a b = true) : isRowB (mixB a b) b = true := by
  obtain ⟨h1, h2, h3⟩ := mixOk_parts h
  unfold isRowB; rw [mixB_data h, mix_vt h1 h2 h3, h2, mix_comm, mix_row]; rfl
end Go.Proofs.Ytokpcdclaifkpaa
