/- Tables of ints: a slice of rows that a call has made; the longest common row of letters and the shortest mixture, as plain functions. -/
import Derived.Test.YtokpcdclaifkpaaCo
import Derived.Test.YtokpcdclaifkpaaZ
namespace Go.Proofs.Ytokpcdclaifkpaa
open Go.RowKit
set_option linter.unusedVariables false

/-- The slice at gT holds the rows gs, each of m cells, which read as T; all lie from lo on. -/
def Tab (W : World) (lo gT : Nat) (gs : List Nat) (m : Nat) (T : Nat → Nat → Int) : Prop :=
  lo ≤ gT ∧ gs.Nodup ∧ ∀ i g, gs[i]? = some g → (lo ≤ g ∧ g ≠ gT ∧ W.cell? ⟨gT, i, none⟩ = some (.slice (some ⟨g, 0, none⟩) m m)) ∧ ∀ j, j < m → W.cell? ⟨g, j, none⟩ = some (.int .i64 (T i j)) ∧ W.frozen? ⟨g, j, none⟩ = false
def upd (T : Nat → Nat → Int) (i j : Nat) (v : Int) : Nat → Nat → Int := fun i' j' => if i' = i ∧ j' = j then v else T i' j'

theorem nodup_get {gs : List Nat} (h : gs.Nodup) {i j g : Nat} (hi : gs[i]? = some g) (hj : gs[j]? = some g) : i = j := by
  obtain ⟨h1, e1⟩ := List.getElem?_eq_some_iff.1 hi
  obtain ⟨h2, e2⟩ := List.getElem?_eq_some_iff.1 hj
  rcases Nat.lt_trichotomy i j with hlt | rfl | hlt
  · exact absurd (e1.trans e2.symm) (List.pairwise_iff_getElem.1 h i j h1 h2 hlt)
  · rfl
  · exact absurd (e2.trans e1.symm) (List.pairwise_iff_getElem.1 h j i h2 h1 hlt)
theorem Tab.congr {W : World} {lo gT : Nat} {gs : List Nat} {m : Nat} {T T' : Nat → Nat → Int} (h : Tab W lo gT gs m T) (he : ∀ i j, i < gs.length → j < m → T i j = T' i j) : Tab W lo gT gs m T' :=
  ⟨h.1, h.2.1, fun i g hg => ⟨(h.2.2 i g hg).1, fun j hj => by
    rw [← he i j (List.getElem?_eq_some_iff.1 hg).1 hj]; exact (h.2.2 i g hg).2 j hj⟩⟩
theorem Tab.kept {W W' : World} {lo gT : Nat} {gs : List Nat} {m : Nat} {T : Nat → Nat → Int} (h : Tab W lo gT gs m T) (hb : Below W.heap.size W W') : Tab W' lo gT gs m T :=
  ⟨h.1, h.2.1, fun i g hg => ⟨⟨(h.2.2 i g hg).1.1, (h.2.2 i g hg).1.2.1, (hb.cell (p := ⟨gT, i, none⟩) (cell_lt (h.2.2 i g hg).1.2.2)).trans (h.2.2 i g hg).1.2.2⟩,
    fun j hj => ⟨(hb.cell (p := ⟨g, j, none⟩) (cell_lt ((h.2.2 i g hg).2 j hj).1)).trans ((h.2.2 i g hg).2 j hj).1, (hb.frozen (p := ⟨g, j, none⟩) (cell_lt ((h.2.2 i g hg).2 j hj).1)).trans ((h.2.2 i g hg).2 j hj).2⟩⟩⟩
theorem Tab.still {W W' : World} {lo gT : Nat} {gs : List Nat} {m : Nat} {T : Nat → Nat → Int} (h : Tab W lo gT gs m T) (hs : Still W W') : Tab W' lo gT gs m T := h.kept hs.1
theorem Tab.store {W : World} {lo gT : Nat} {gs : List Nat} {m : Nat} {T : Nat → Nat → Int} (h : Tab W lo gT gs m T) {i j g : Nat} (hg : gs[i]? = some g) (hj : j < m) (v : Int) :
    Tab (W.setCell ⟨g, j, none⟩ (.int .i64 v)) lo gT gs m (upd T i j v) := by
  refine ⟨h.1, h.2.1, fun i' g' hg' => ⟨⟨(h.2.2 i' g' hg').1.1, (h.2.2 i' g' hg').1.2.1, ?_⟩, fun j' hj' => ⟨?_, ?_⟩⟩⟩
  · rw [World.cell?_setCell_other _ _ _ _ (by simp only [ne_eq, Addr.mk.injEq, not_and]; intro e; exact absurd e (h.2.2 i g hg).1.2.1)]
    exact (h.2.2 i' g' hg').1.2.2
  · by_cases e : i' = i ∧ j' = j
    · obtain ⟨rfl, rfl⟩ := e
      rw [hg] at hg'; cases hg'
      rw [World.cell?_setCell_same _ _ _ ((h.2.2 i' g hg).2 j' hj).1]
      simp [upd]
    · rw [World.cell?_setCell_other _ _ _ _ ?_]
      · rw [upd, if_neg e]; exact ((h.2.2 i' g' hg').2 j' hj').1
      · intro e2
        have e3 : g = g' := congrArg Addr.block e2
        have e4 : j = j' := congrArg Addr.off e2
        subst e3
        exact e ⟨nodup_get h.2.1 hg' hg, e4.symm⟩
  · rw [World.frozen?_setCell]; exact ((h.2.2 i' g' hg').2 j' hj').2

theorem wpList_append_row {ops : Array Oper} {rest : List Oper} {o : Oper} {a : Act} {Q : Exit → Act → World → Prop} {w : World} (hgd : o.guard = none) (s x : Operand)
    (ho : o.op = .call { callee := .builtin .append, args := #[s, x], argTypes := #[47, 47] })
    (lo : Nat) (v : Value) (n : Nat) (xs : List Value) (z : Value) (hz : z.oneCell' = true) (hown : w.ownsRow lo 27 1 v n xs) (hs : a.eval s = v)
    (hx : a.eval x = .slice (some ⟨w.heap.size, 0, none⟩) 1 1) (hn : n ≤ 1048576) (hlo : lo ≤ w.heap.size)
    (h : ∀ v' w', w'.ownsRow lo 27 1 v' (n + 1) (xs ++ [z]) → (w.alloc (.cells #[z] 27)).grownBy w' v.ownBlock → wpList Try.prog ops Q rest (a.put o.dst v') w') :
    wpList Try.prog ops Q (o :: rest) a (w.alloc (.cells #[z] 27)) := by
  obtain ⟨i0, hi, hz0, hz1, hz2⟩ := info_parts info_row
  refine wpList_append_own _ hgd s x 47 ho lo 27 i0 (.slice none 0 0) 1 24 Try.underlying47 hi hz0 hz1 hz2 rfl (by decide) v n _ hs (hown.alloc _) ⟨w.heap.size, 0, none⟩ 1 1 [z] hx rfl (cell_one_new _ _ _) (by simpa using hz) (by unfold maxLen; omega) (by omega) (by simp; omega) ?_
  intro v' w' h1 h2 _
  exact h v' w' h1 h2
/-- A block of ints is not the block of a row of rows. -/
theorem Zrow.ne {W : World} {g m lo : Nat} (h : Zrow W g m) {v : Value} {n : Nat} {xs : List Value} (ho : W.ownsRow lo 27 1 v n xs) : v.ownBlock ≠ some g := by
  obtain ⟨cur, h1, _⟩ := h
  rcases ho.2 with ⟨rfl, _⟩ | ⟨g', cap, cur', rfl, _, hh, _⟩
  · simp [Value.ownBlock]
  · simp only [Value.ownBlock]
    intro e; cases e; rw [h1] at hh; cases hh
theorem Tab.of_owns {W : World} {lo n m : Nat} {v : Value} {gs : List Nat} (ho : W.ownsRow lo 27 1 v n (rowsV gs m)) (hn : 0 < n) (hd : gs.Nodup) (hg : ∀ g, g ∈ gs → lo ≤ g ∧ Zrow W g m) :
    gs.length = n ∧ ∃ gT cap, v = .slice (some ⟨gT, 0, none⟩) n cap ∧ gT < W.heap.size ∧ Tab W lo gT gs m (fun _ _ => 0) := by
  have hown := ho
  have hl : gs.length = n := by have := ho.1; simpa [rowsV] using this
  refine ⟨hl, ?_⟩
  rcases ho.2 with ⟨_, h0⟩ | ⟨gT, cap, cur, rfl, hlo, hh, _, _, _, _⟩
  · omega
  · refine ⟨gT, cap, rfl, (Array.getElem?_eq_some_iff.1 hh).1, hlo, hd, fun i g hi => ?_⟩
    have hm := List.mem_of_getElem? hi
    obtain ⟨h1, h2⟩ := hg g hm
    refine ⟨⟨h1, fun e => h2.ne hown (by rw [e]; rfl), ?_⟩, fun j hj => h2.cell hj⟩
    have := hown.cells (g := gT) rfl i (.slice (some ⟨g, 0, none⟩) m m) (by simp [rowsV, hi])
    rw [show (⟨gT, i, none⟩ : Addr) = (⟨gT, 0, none⟩ : Addr).add i from by cases i <;> simp [Addr.add]]
    exact this

/-- The longest common row of letters. -/
def lcsGo (f : List UInt8 → Nat) (x : UInt8) : List UInt8 → Nat
  | [] => 0
  | y :: ys => if x = y then f ys + 1 else max (f (y :: ys)) (lcsGo f x ys)
def lcs : List UInt8 → List UInt8 → Nat
  | [] => fun _ => 0
  | x :: xs => lcsGo (lcs xs) x
theorem lcs_nil (b : List UInt8) : lcs [] b = 0 := rfl
theorem lcs_nil' (a : List UInt8) : lcs a [] = 0 := by cases a <;> rfl
theorem lcs_cons (x y : UInt8) (xs ys : List UInt8) : lcs (x :: xs) (y :: ys) = if x = y then lcs xs ys + 1 else max (lcs xs (y :: ys)) (lcs (x :: xs) ys) := rfl
/-- The shortest mixture. -/
def scsGo (n : Nat) (f : List UInt8 → Nat) (x : UInt8) : List UInt8 → Nat
  | [] => n
  | y :: ys => if x = y then 1 + f ys else 1 + min (f (y :: ys)) (scsGo n f x ys)
def scs : List UInt8 → List UInt8 → Nat
  | [] => fun b => b.length
  | x :: xs => scsGo (xs.length + 1) (scs xs) x
theorem scs_nil (b : List UInt8) : scs [] b = b.length := rfl
theorem scs_nil' (a : List UInt8) : scs a [] = a.length := by cases a <;> rfl
theorem scs_cons (x y : UInt8) (xs ys : List UInt8) : scs (x :: xs) (y :: ys) = if x = y then 1 + scs xs ys else 1 + min (scs xs (y :: ys)) (scs (x :: xs) ys) := rfl
theorem scs_lcs (n : Nat) : ∀ a b : List UInt8, a.length + b.length ≤ n → scs a b + lcs a b = a.length + b.length := by
  induction n with
  | zero =>
    intro a b h
    obtain rfl : a = [] := List.length_eq_zero_iff.1 (by omega)
    rw [scs_nil, lcs_nil]; simp
  | succ n ih =>
    intro a b h
    cases a with
    | nil => rw [scs_nil, lcs_nil]; simp
    | cons x xs =>
      cases b with
      | nil => rw [scs_nil', lcs_nil']; simp
      | cons y ys =>
        simp only [List.length_cons] at h ⊢
        by_cases e : x = y
        · have := ih xs ys (by omega)
          rw [scs_cons, lcs_cons, if_pos e, if_pos e]; omega
        · have h1 := ih xs (y :: ys) (by simp only [List.length_cons]; omega)
          have h2 := ih (x :: xs) ys (by simp only [List.length_cons]; omega)
          simp only [List.length_cons] at h1 h2
          rw [scs_cons, lcs_cons, if_neg e, if_neg e]; omega
end Go.Proofs.Ytokpcdclaifkpaa
