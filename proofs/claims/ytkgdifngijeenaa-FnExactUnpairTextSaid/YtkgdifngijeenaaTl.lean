/- A region that draws its order, reads cells, makes one block and then, in one forced order, goes on: one walk in the order of the text serves every order. -/
import Derived.Test.YtkgdifngijeenaaRows
import Derived.StillTail
import Derived.Deep.RegionHeld
namespace Go.Proofs.Ytkgdifngijeenaa
set_option linter.unusedVariables false

section
variable {P : Program} {ops : Array Oper} {Q : Exit → Act → World → Prop} {S : World → Prop} {md : Region.Mode}

/-- Whatever order is picked from here on; S holds behind each operation below number n. -/
def wpAnyT (P : Program) (md : Region.Mode) (ops : Array Oper) (Q : Exit → Act → World → Prop) (S : World → Prop) (n : Nat) : Nat → Array Bool → Act → World → Prop
  | 0, listed, a, w => Region.ready md ops listed = [] ∧ Q .normal a w
  | f + 1, listed, a, w =>
    (Region.ready md ops listed = [] → Q .normal a w) ∧
    ∀ i ∈ Region.ready md ops listed, wpOp P ops Q i (fun a' w' => (i < n → S w') ∧ wpAnyT P md ops Q S n f (listed.setIfInBounds i true) a' w') a w
theorem any_of_T {n : Nat} : ∀ (f : Nat) (listed : Array Bool) (a : Act) (w : World), wpAnyT P md ops Q S n f listed a w → wpAny P md ops Q f listed a w
  | 0, _, _, _, h => h
  | f + 1, _, _, _, h => ⟨h.1, fun i hi => wpOp_mono (fun a' w' h' => any_of_T f _ a' w' h'.2) (h.2 i hi)⟩
theorem T_first {n i : Nat} {oi : Oper} {v : Value} (hi : ops[i]? = some oi) (hsel : ∀ (j : Nat) (o : Oper) cs b, ops[j]? = some o → o.op ≠ .select cs b)
    (hs : Region.sinkB md ops n = true) (hc : Region.chainB md ops n = true) (hn : n < ops.size) (hin : i < n)
    (hQ : ∀ c a w, Q (.panic c) (a.put oi.dst v) w → Q (.panic c) a w) :
    ∀ (f : Nat) (listed : Array Bool) (a : Act) (w : World), HeadInv md ops n listed →
      (∀ j oj, ops[j]? = some oj → j ≠ i → listed.getD j true = false → (∀ e ∈ oj.after, Region.binds md e = true → e.on ≠ i) → oi.apart ops oj = true) →
      i ∈ Region.ready md ops listed → YieldsIf P ops S oi v a → S w →
      wpAnyT P md ops Q S n f (listed.setIfInBounds i true) (a.put oi.dst v) w → wpAnyT P md ops Q S n (f + 1) listed a w := by
  intro f
  induction f with
  | zero =>
    intro listed a w inv _ hr hy hS H
    refine ⟨(fun h => by rw [h] at hr; cases hr), fun j hj => ?_⟩
    by_cases hji : j = i
    · subst hji; exact hy.wpOp hi hS ⟨fun _ => hS, H⟩
    · have h1 := ready_mono hj hji
      rw [H.1] at h1; cases h1
  | succ f ih =>
    intro listed a w inv hfree hr hy hS H
    have hun := (mem_ready.1 hr).1
    refine ⟨(fun h => by rw [h] at hr; cases hr), fun j hj => ?_⟩
    have hjn : j < n := by
      rcases Nat.lt_or_ge j n with h | h
      · exact h
      · exact absurd hj (tail_waits hs hc hn inv _ i rfl hin hun j h)
    by_cases hji : j = i
    · subst hji; exact hy.wpOp hi hS ⟨fun _ => hS, H⟩
    · have h1 := H.2 j (ready_mono hj hji)
      obtain ⟨hjun, oj, hoj, hall⟩ := mem_ready.1 hj
      have hnot : ∀ e ∈ oj.after, Region.binds md e = true → e.on ≠ i := fun e he hb heq => by
        have h2 := hall e he hb
        rw [heq, getD_both hun] at h2; cases h2
      have h2 := wpOp_putIf hoj (hfree j oj hoj hji hjun hnot) (fun cs b => hsel i oi cs b hi) (fun cs b => hsel j oj cs b hoj) hQ hy h1
      have hfree' : ∀ k ok, ops[k]? = some ok → k ≠ i → (listed.setIfInBounds j true).getD k true = false →
          (∀ e ∈ ok.after, Region.binds md e = true → e.on ≠ i) → oi.apart ops ok = true := fun k ok hk hki hku hno => by
        refine hfree k ok hk hki ?_ hno
        by_cases hjk : j = k
        · subst hjk; exact hjun
        · rw [getD_set_ne true hjk] at hku; exact hku
      refine wpOp_mono (fun a' w' h3 => ⟨h3.2.1, ih (listed.setIfInBounds j true) a' w' (inv.set hj hjn) hfree' (ready_mono hr (Ne.symm hji)) h3.1 (h3.2.1 hjn) ?_⟩) h2
      rw [Array.setIfInBounds_comm _ _ hji]
      exact h3.2.2

/-- The operations of l, one behind the other, each yields its value in every world that meets S. -/
def wpHeld (P : Program) (ops : Array Oper) (S : World → Prop) (L : Act → Prop) : List Oper → Act → Prop
  | [], a => L a
  | o :: l, a => ∃ v, YieldsIf P ops S o v a ∧ wpHeld P ops S L l (a.put o.dst v)
theorem wpHeld_cons {o : Oper} {l : List Oper} {a : Act} {v : Value} {L : Act → Prop} (hy : YieldsIf P ops S o v a) (h : wpHeld P ops S L l (a.put o.dst v)) : wpHeld P ops S L (o :: l) a := ⟨v, hy, h⟩
theorem wpHeld_nil {a : Act} {L : Act → Prop} (h : L a) : wpHeld P ops S L [] a := h
/-- Number k may come up, then number k + 1, and so on, f of them; what is left comes up one by one. -/
def lexFrom (md : Region.Mode) (ops : Array Oper) (g : Nat) : Nat → Nat → Array Bool → Bool
  | 0, k, listed => Region.seqB md ops g k listed
  | f + 1, k, listed => (Region.ready md ops listed).contains k && Region.free md ops listed k && lexFrom md ops g f (k + 1) (listed.setIfInBounds k true)
theorem T_lex {n g m : Nat} {L : Act → Prop} {w : World} (hsel : Region.noSelect ops = true) (hs : Region.sinkB md ops n = true) (hc : Region.chainB md ops n = true) (hn : n < ops.size) (hmn : m ≤ n)
    (hQ : ∀ c a d v w, Q (.panic c) (Act.put a d v) w → Q (.panic c) a w) (hS : S w)
    (hL : ∀ listed a, HeadInv md ops n listed → Region.seqB md ops g m listed = true → L a → wpAnyT P md ops Q S n g listed a w) :
    ∀ (l : List Oper) (k : Nat) (listed : Array Bool) (a : Act), (∀ j, j < l.length → l[j]? = ops[k + j]?) → k + l.length = m → HeadInv md ops n listed →
    lexFrom md ops g l.length k listed = true → wpHeld P ops S L l a → wpAnyT P md ops Q S n (l.length + g) listed a w
  | [], k, listed, a, _, hk, inv, hB, h => by
    have : k = m := by simpa using hk
    subst this
    have hB' : Region.seqB md ops g k listed = true := hB
    rw [List.length_nil, Nat.zero_add]
    exact hL listed a inv hB' h
  | o :: l, k, listed, a, hl, hk, inv, hB, h => by
    have h0 : ops[k]? = some o := by simpa using (hl 0 (by simp)).symm
    simp only [List.length_cons, lexFrom, Bool.and_eq_true] at hB
    obtain ⟨⟨hr, hf⟩, hB'⟩ := hB
    have hkn : k < n := by simp only [List.length_cons] at hk; omega
    have hr' : k ∈ Region.ready md ops listed := by simpa using hr
    obtain ⟨v, hy, hK⟩ := h
    rw [List.length_cons, show l.length + 1 + g = (l.length + g) + 1 by omega]
    exact T_first h0 (Region.noSelect_spec hsel) hs hc hn hkn (fun c a w => hQ c a o.dst v w) (l.length + g) listed a w inv (Region.free_spec h0 hf) hr' hy hS
      (T_lex hsel hs hc hn hmn hQ hS hL l (k + 1) _ _ (fun j hj => by have := hl (j + 1) (by simp; omega); simpa [Nat.add_assoc, Nat.add_comm 1 j] using this) (by simp only [List.length_cons] at hk; omega) (inv.set hr' hkn) hB' hK)

/-- The first m operations read; number m makes a block; the rest comes up in order. -/
def heldTailB (l : List Oper) (m : Nat) : Bool :=
  Region.noSelect l.toArray && decide (m + 1 < l.toArray.size) && Region.sinkB .any l.toArray (m + 1) && Region.chainB .any l.toArray (m + 1) && lexFrom .any l.toArray (l.toArray.size - m) m 0 (Array.replicate l.toArray.size false)
/-- One operation, behind which S holds, and then the rest in order. -/
def wpOne (P : Program) (ops : Array Oper) (Q : Exit → Act → World → Prop) (S : World → Prop) (l : List Oper) (a : Act) (w : World) : Prop :=
  match l with
  | [] => False
  | o :: rest => ∀ K : Act → World → Prop, (∀ a w, S w → wpList P ops Q rest a w → K a w) → if Region.wanted o (yielded ops a.tmps) = true then Oper.wp P o a w K Q else K (a.put o.dst undef) w
theorem any_held_tail {l : List Oper} {a : Act} {w : World} (m : Nat) (hB : heldTailB l m = true) (hQ : ∀ c a d v w, Q (.panic c) (Act.put a d v) w → Q (.panic c) a w) (hS : S w)
    (h : wpHeld P l.toArray S (fun a' => wpOne P l.toArray Q S (l.drop m) a' w) (l.take m) a) :
    wpAny P .any l.toArray Q l.toArray.size (Array.replicate l.toArray.size false) a w := by
  simp only [heldTailB, Bool.and_eq_true, decide_eq_true_eq] at hB
  obtain ⟨⟨⟨⟨hsel, hlt⟩, hs⟩, hc⟩, hlex⟩ := hB
  have hlt' : m + 1 < l.length := by simpa using hlt
  have hl1 : (l.take m).length = m := by rw [List.length_take]; omega
  have inv : HeadInv .any l.toArray (m + 1) (Array.replicate l.toArray.size false) :=
    ⟨by simp, (fun j oj _ hl => by rw [getD_replicate_false] at hl; cases hl), fun t _ ht => getD_in (by simpa using ht) (getD_replicate_false _ _)⟩
  have hsz : l.toArray.size = l.length := by simp
  have head := T_lex (P := P) (Q := Q) (S := S) (md := .any) (m := m) (n := m + 1) (g := l.toArray.size - m) (w := w) hsel hs hc hlt (Nat.le_succ m) hQ hS ?_ (l.take m) 0 _ a
    (fun j hj => by rw [hl1] at hj; rw [Nat.zero_add, List.getElem?_take_of_lt hj]; simp) (by rw [hl1]; omega) inv (by rw [hl1]; exact hlex) h
  · have all := any_of_T _ _ _ _ head
    rw [hl1, show m + (l.toArray.size - m) = l.toArray.size by omega] at all
    exact all
  · intro listed a' inv' hseq hone
    obtain ⟨o, rest, hd⟩ : ∃ o rest, l.drop m = o :: rest := by
      cases hd : l.drop m with
      | nil => have := congrArg List.length hd; rw [List.length_drop, List.length_nil] at this; omega
      | cons o rest => exact ⟨o, rest, rfl⟩
    rw [hd] at hone
    have hom : l.toArray[m]? = some o := by
      have : (l.drop m)[0]? = some o := by rw [hd]; rfl
      rw [List.getElem?_drop, Nat.add_zero] at this; simpa using this
    have hrl : rest.length = l.toArray.size - m - 1 := by
      have := congrArg List.length hd; rw [List.length_drop, List.length_cons] at this; omega
    rw [show l.toArray.size - m = rest.length + 1 by omega] at hseq ⊢
    simp only [Region.seqB, Bool.and_eq_true, decide_eq_true_eq] at hseq
    refine ⟨(fun h => by rw [hseq.1] at h; cases h), fun i hi => ?_⟩
    rw [hseq.1] at hi
    obtain rfl : i = m := by simpa using hi
    refine wpOp_step hom (fun K' hK => hone K' (fun a2 w2 hS2 hl2 => hK a2 w2 ⟨fun _ => hS2, ?_⟩))
    -- what is left: each comes up alone
    have hrest : ∀ (r : List Oper) (k : Nat) (lst : Array Bool) (a : Act) (w : World), i < k → (∀ j, r[j]? = l.toArray[k + j]?) → Region.seqB .any l.toArray r.length k lst = true → wpList P l.toArray Q r a w → wpAnyT P .any l.toArray Q S (i + 1) r.length lst a w := by
      intro r
      induction r with
      | nil => intro k lst a w _ _ hB h; exact ⟨by simpa [Region.seqB] using hB, h⟩
      | cons o r ih =>
        intro k lst a w hk hr hB h
        have h0 : l.toArray[k]? = some o := by simpa using (hr 0).symm
        simp only [List.length_cons, Region.seqB, Bool.and_eq_true, decide_eq_true_eq] at hB
        refine ⟨(fun h1 => by rw [hB.1] at h1; cases h1), fun j hj => ?_⟩
        rw [hB.1] at hj
        obtain rfl : j = k := by simpa using hj
        have hw : wpOp P l.toArray Q j (wpList P l.toArray Q r) a w := by unfold wpOp; simp only [h0]; exact h
        exact wpOp_mono (fun a' w' h' => ⟨fun h => by omega, ih (j + 1) _ a' w' (by omega) (fun t => by have := hr (t + 1); simpa [Nat.add_assoc, Nat.add_comm 1 t] using this) hB.2 h'⟩) hw
    exact hrest rest (i + 1) _ a2 w2 (by omega) (fun j => by
      have : (l.drop i)[j + 1]? = rest[j]? := by rw [hd]; rfl
      rw [← this, List.getElem?_drop]; simp [Nat.add_assoc, Nat.add_comm 1 j]) hseq.2 hl2
theorem region_held_tail {id : Nat} {l : List Oper} {a : Act} {w : World} (m : Nat) (hm : P.follows .mixedOrders = true) (hB : heldTailB l m = true) (hQ : ∀ c a d v w, Q (.panic c) (Act.put a d v) w → Q (.panic c) a w) (hS : S w.drew)
    (h : wpHeld P l.toArray S (fun a' => wpOne P l.toArray Q S (l.drop m) a' w.drew) (l.take m) a) : (Code.region id l.toArray true).wp P Q a w :=
  wp_region_any hm (any_held_tail m hB hQ hS h)
end
end Go.Proofs.Ytkgdifngijeenaa
