/- Plain Lean: two short periods have a common one (Fine and Wilf). -/
namespace Go.Proofs.Ytokpcdclaifkpaa

/-- The first n values of f repeat after p. -/
def Per {α : Type} (f : Nat → α) (n p : Nat) : Prop := ∀ i, i + p < n → f i = f (i + p)

theorem Per.less {α : Type} {f : Nat → α} {n m p : Nat} (h : Per f n p) (hm : m ≤ n) : Per f m p := fun i hi => h i (by omega)

theorem Per.mod {α : Type} {f : Nat → α} {n g : Nat} (h : Per f n g) (hg : 0 < g) (i : Nat) (hi : i < n) : f i = f (i % g) := by
  induction i using Nat.strongRecOn with
  | _ i ih =>
    by_cases hlt : i < g
    · rw [Nat.mod_eq_of_lt hlt]
    · have e := h (i - g) (by omega)
      rw [Nat.sub_add_cancel (by omega)] at e
      rw [← e, ih (i - g) (by omega) (by omega), Nat.mod_eq_sub_mod (a := i) (by omega)]

/-- A period of the whole and a divisor of it that is one of the beginning: one of the whole. -/
theorem Per.extend {α : Type} {f : Nat → α} {n m p g : Nat} (hp : Per f n p) (hg : Per f m g) (h0 : 0 < g) (hd : g ∣ p) (hpm : p ≤ m) (h1 : 0 < p) : Per f n g := by
  have key : ∀ i, i < n → f i = f (i % g) := by
    intro i hi
    have e := hp.mod h1 i hi
    have hlt : i % p < m := by have := Nat.mod_lt i h1; omega
    rw [e, hg.mod h0 _ hlt, Nat.mod_mod_of_dvd i hd]
  intro i hi
  rw [key i (by omega), key (i + g) hi, Nat.add_mod_right]

theorem fineWilf {α : Type} (f : Nat → α) : ∀ (s p q n : Nat), p + q ≤ s → 0 < p → 0 < q → Per f n p → Per f n q → p + q ≤ n + Nat.gcd p q → Per f n (Nat.gcd p q) := by
  intro s
  induction s with
  | zero => intro p q n h hp; omega
  | succ s ih =>
    intro p q n h hp hq h1 h2 hn
    have main : ∀ p q : Nat, p + q ≤ s + 1 → 0 < p → p < q → Per f n p → Per f n q → p + q ≤ n + Nat.gcd p q → Per f n (Nat.gcd p q) := by
      intro p q h hp hlt h1 h2 hn
      have eg : Nat.gcd p (q - p) = Nat.gcd p q := by
        have := Nat.gcd_add_self_right p (q - p)
        rw [Nat.sub_add_cancel (by omega)] at this
        exact this.symm
      have hgp : Nat.gcd p q ∣ p := Nat.gcd_dvd_left p q
      have hgq : Nat.gcd p q ∣ q - p := by rw [← eg]; exact Nat.gcd_dvd_right p (q - p)
      have hg0 : 0 < Nat.gcd p q := Nat.gcd_pos_of_pos_left q hp
      have hle : Nat.gcd p q ≤ q - p := Nat.le_of_dvd (by omega) hgq
      have a1 : Per f (n - p) p := h1.less (by omega)
      have a2 : Per f (n - p) (q - p) := by
        intro i hi
        have e1 := h2 i (by omega)
        have e2 := h1 (i + (q - p)) (by omega)
        rw [e1, e2]; congr 1; omega
      have := ih p (q - p) (n - p) (by omega) hp (by omega) a1 a2 (by rw [eg]; omega)
      rw [eg] at this
      exact h1.extend this hg0 hgp (by omega) hp
    rcases Nat.lt_trichotomy p q with hlt | rfl | hgt
    · exact main p q h hp hlt h1 h2 hn
    · rw [Nat.gcd_self]; exact h1
    · have := main q p (by omega) hq hgt h2 h1 (by rw [Nat.gcd_comm]; omega)
      rwa [Nat.gcd_comm] at this
end Go.Proofs.Ytokpcdclaifkpaa
