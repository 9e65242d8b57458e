/- A range over a slice from its end (slices.Backward), and the walks of turn and turned, the reference's and the program's. -/
import Derived.Test.YtkgdifngijeenaaDp
import Derived.Test.YtkgdifngijeenaaTl
import Derived.RangeFuncBox
import Derived.RangeFuncLeaves
import Derived.RangeFuncCalls
import Derived.Shelf.Abstract
import Derived.OwnWalkIn
import Derived.TacticsInMore
import Derived.LoopNIn
import Derived.LoopIn
import Derived.OrdersIn
namespace Go.Proofs.Ytkgdifngijeenaa
open Go.RowKit Go.Shelf
set_option linter.unusedVariables false
attribute [local go_sem] Oper.semAt_some

/-! An operation that defers nothing, walked outside of a round, is walked in a round of the wide fence. -/
def noDefer (l : List Oper) : Bool := l.all fun o => match o.op with | .defer _ => false | _ => true
theorem noDefer_spec {l : List Oper} (h : noDefer l = true) {i : Nat} {o : Oper} (hi : l.toArray[i]? = some o) (c : Call) : o.op ≠ .defer c := by
  have hm : o ∈ l := by rw [List.getElem?_toArray] at hi; exact List.mem_of_getElem? hi
  have := List.all_eq_true.1 h o hm
  intro e; rw [e] at this; cases this
theorem oper_round {P : Program} {n l : Nat} {o : Oper} {a : Act} {w : World} {K K' : Act → World → Prop} {Q : Exit → Act → World → Prop} (hd : ∀ c, o.op ≠ .defer c) (hK : ∀ a w, K a w → K' a w) (h : o.wp P a w K Q) :
    o.wpIn (Fence.wide.inRound l) n P a w K' Q := by
  refine ⟨fun _ _ => trivial, ?_⟩
  have he : o.semAt (Fence.wide.inRound l).round a.eval = execOp a.eval o := Oper.semAt_eq _ _ _ hd
  rw [he]
  unfold Oper.wp at h
  generalize (execOp a.eval o).run P w = r at h ⊢
  cases r with
  | ok x w' =>
    cases x with
    | value v => exact hK _ _ h
    | skip => exact hK _ _ h
    | defer d => exact hK _ _ h
    | enter f args =>
      refine ⟨(fun h => by cases h), CallsIn.inRound l (CallsIn.mono (callsIn_wide.2 h) ?_)⟩
      intro e w'' he
      cases e with
      | returned v => exact hK _ _ he
      | panicked c => exact he
      | outgrown => exact he
    | row r args =>
      refine ⟨(fun h => by cases h), ?_⟩
      intro c cs _
      obtain ⟨v, w2, hv, hs⟩ := h c cs
      exact ⟨v, w2, hK _ _ hv, stepsIn_wide.2 hs⟩
    | _ => exact h.elim
  | halt x w' =>
    cases x with
    | panic v => exact h
    | _ => exact h.elim
theorem op_round {P : Program} {n r : Nat} {l : List Oper} {i : Nat} {a : Act} {w : World} {K K' : Act → World → Prop} {Q : Exit → Act → World → Prop} (hd : noDefer l = true) (hout : ¬ LetsOut Q) (hK : ∀ a w, K a w → K' a w) (h : wpOp P l.toArray Q i K a w) :
    wpOpIn (Fence.wide.inRound r) n P l.toArray Q i K' a w := by
  unfold wpOp at h; unfold wpOpIn
  cases ho : l.toArray[i]? with
  | none => rw [ho] at h; exact hK _ _ h
  | some o =>
    rw [ho] at h
    simp only at h ⊢
    split
    · rename_i hw; rw [if_pos hw] at h; exact oper_round (noDefer_spec hd ho) hK (h.resolve_right (fun h => hout h.2))
    · rename_i hw; rw [if_neg hw] at h; exact ⟨fun _ _ => trivial, hK _ _ h⟩
theorem any_round {P : Program} {n r : Nat} {l : List Oper} {Q : Exit → Act → World → Prop} (hd : noDefer l = true) (hout : ¬ LetsOut Q) : ∀ (fuel : Nat) (listed : Array Bool) (a : Act) (w : World), wpAny P .any l.toArray Q fuel listed a w →
    wpAnyIn (Fence.wide.inRound r) n P .any l.toArray Q fuel listed a w := by
  intro fuel
  induction fuel with
  | zero => intro listed a w h; exact h
  | succ fuel ih => intro listed a w h; exact ⟨h.1, fun i hi => op_round hd hout (fun a w h => ih _ a w h) (h.2 i hi)⟩
/-- A region that reads, makes a block and then, in one forced order, goes on, met in a round. -/
theorem held_round {P : Program} {n r id : Nat} {Q : Exit → Act → World → Prop} {S : World → Prop} {a : Act} {w : World} {l : List Oper} (m : Nat) (hd : noDefer l = true) (hout : ¬ LetsOut Q) (hm : P.follows .mixedOrders = true) (hB : heldTailB l m = true)
    (hQ : ∀ c a d v w, Q (.panic c) (Act.put a d v) w → Q (.panic c) a w) (h : ∀ w1, Still w w1 → S w1 ∧ wpHeld P l.toArray S (fun a' => wpOne P l.toArray Q S (l.drop m) a' w1) (l.take m) a) : (Code.region id l.toArray true).wpIn (Fence.wide.inRound r) n P Q a w :=
  have h := h w.drew ⟨(Below.refl _ _).drew, rfl⟩
  wpIn_region_any hm (any_round hd hout _ _ _ _ (any_held_tail m hB hQ h.1 h.2))
/-- The same outside of a round. -/
theorem held_tail_abs {P : Program} {id : Nat} {Q : Exit → Act → World → Prop} {S : World → Prop} {a : Act} {w : World} {l : List Oper} (m : Nat) (hm : P.follows .mixedOrders = true) (hB : heldTailB l m = true)
    (hQ : ∀ c a d v w, Q (.panic c) (Act.put a d v) w → Q (.panic c) a w) (h : ∀ w1, Still w w1 → S w1 ∧ wpHeld P l.toArray S (fun a' => wpOne P l.toArray Q S (l.drop m) a' w1) (l.take m) a) : (Code.region id l.toArray true).wp P Q a w :=
  have h := h w.drew ⟨(Below.refl _ _).drew, rfl⟩
  region_held_tail m hm hB hQ h.1 h.2

/-! The numbers of a slice from its end. -/
abbrev PtX := { x : Nat × Int // 0 ≤ x.2 ∧ x.2 ≤ 60 }
def uptoX {α : Type} (f : Nat → α) (k : Nat) : List α := (List.range k).map f
theorem uptoX_succ {α : Type} (f : Nat → α) (k : Nat) : uptoX f (k + 1) = uptoX f k ++ [f k] := by simp [uptoX, List.range_succ]
theorem uptoX_len {α : Type} (f : Nat → α) (k : Nat) : (uptoX f k).length = k := by simp [uptoX]
def backX (xs : List Int) (hx : ∀ i : Nat, 0 ≤ xs[i]?.getD 0 ∧ xs[i]?.getD 0 ≤ 60) (n j : Nat) : PtX := ⟨(n - 1 - j, xs[n - 1 - j]?.getD 0), hx _⟩
def encX (x : PtX) : Array Value := #[.int .i64 (x.1.1 : Int), .int .i64 x.1.2]

/-- What lay below n₀ has not turned, nor has block B. -/
def KpB (n₀ B : Nat) (W W' : World) : Prop := Below n₀ W W' ∧ W'.heap[B]? = W.heap[B]?
theorem KpB.t {n₀ B : Nat} {X Y Z : World} (h : KpB n₀ B X Y) (k : KpB n₀ B Y Z) : KpB n₀ B X Z := ⟨h.1.trans k.1, k.2.trans h.2⟩
set_option maxRecDepth 100000 in
set_option maxHeartbeats 2000000 in
/-- The closure of slices.Backward. -/
theorem back1_in (n : Nat) (hn : 1 ≤ n) (l Bs n₀ b off len cap : Nat) (xs : List Int) (hx : ∀ i : Nat, 0 ≤ xs[i]?.getD 0 ∧ xs[i]?.getD 0 ≤ 60) (hlen : len ≤ 1048576) (hb : b < n₀) (J Jx : List PtX → World → Prop)
    (hY : ∀ pre x W, J pre W → pre.length < len → YieldAt Fence.wide (n - 1) Try.prog l (encX x) W fun e W' =>
      (e = .returned (.bool true) ∧ J (pre ++ [x]) W' ∧ KpB n₀ Bs W W') ∨ (e = .returned (.bool false) ∧ Jx (pre ++ [x]) W'))
    (W : World) (hBs : W.cell? ⟨Bs, 0, none⟩ = some (.slice (some ⟨b, off, none⟩) len cap)) (hc : ∀ j, j < len → W.cell? ⟨b, off + j, none⟩ = some (.int .i64 (xs[j]?.getD 0))) (h0 : J [] W) :
    CallsIn Fence.wide n Try.prog 71 #[.func (.yield l) #[] #[], .pointer (some ⟨Bs, 0, none⟩)] W fun e W' => (∃ v, e = .returned v) ∧
      ((∃ ys, ys = uptoX (backX xs hx len) len ∧ J ys W') ∨ (∃ pre, (∃ k, k ≤ len ∧ pre = uptoX (backX xs hx len) k) ∧ Jx pre W')) := by
  refine callsIn_of_wp Try.func71 rfl trivial ?_ rfl
  simp only [Try.ntmps71, List.size_toArray, List.length_cons, List.length_nil, Nat.reduceAdd, Nat.reduceSub, Array.replicate_succ, Array.replicate_zero, List.push_toArray, List.append_toArray, List.nil_append, List.cons_append]
  gi_wp2
  gi_loopw [3] (fun i wr => ∃ k : Nat, k ≤ len ∧ i = .int .i64 ((len : Int) - 1 - k) ∧ J (uptoX (backX xs hx len) k) wr ∧ KpB n₀ Bs W wr)
    (fun i _ => ((intOf i) + 1).toNat)
  case atStart => exact ⟨0, Nat.zero_le _, by simp, h0, Below.refl _ _, rfl⟩
  case round =>
    obtain ⟨k, hk, rfl, hJs, hnx⟩ := hrel
    have hbs := (World.cell?_of_block (a := ⟨Bs, 0, none⟩) hnx.2).trans hBs
    by_cases hlt : k < len
    · obtain ⟨i, hi⟩ : ∃ i, i = len - 1 - k := ⟨_, rfl⟩
      have hcx := (hnx.1.cell (p := ⟨b, off + i, none⟩) hb).trans (hc i (by omega))
      have ei : ((len : Int) - 1 - k) = (i : Int) := by omega
      obtain ⟨fn, tmps, assign, body, hy, hR⟩ := hY _ (backX xs hx len k) wr hJs (by rw [uptoX_len]; exact hlt)
      have ee : encX (backX xs hx len k) = #[.int .i64 (i : Int), .int .i64 (xs[i]?.getD 0)] := by rw [hi]; rfl
      rw [ee] at hy
      rw [ei]
      have hil : i < len := by omega
      have HI := Lib.hid hi
      have HE := Lib.hid ei
      clear ei ee hi
      gi_wp2
      refine hR.mono ?_
      rintro e W3 (⟨rfl, hJ3, hk3⟩ | ⟨rfl, hJx3⟩)
      · gi_wp2
        go_roundw
        case rel => exact ⟨k + 1, by omega, by rw [← HE.out]; congr 1; omega, by rw [uptoX_succ]; exact hJ3, hnx.t hk3⟩
        case measure => simp [intOf]
      · gi_wp2
        refine bodyPost_ret (results_none rfl _ _ _) rfl ?_
        exact ⟨⟨_, rfl⟩, .inr ⟨_, ⟨k + 1, by omega, (uptoX_succ _ _).symm⟩, hJx3⟩⟩
    · obtain rfl : k = len := by omega
      gi_wp2
      go_end0
      exact ⟨⟨_, rfl⟩, .inl ⟨_, rfl, hJs⟩⟩
theorem back_stops (n : Nat) (hn : 1 ≤ n) (Bs n₀ b off len cap : Nat) (xs : List Int) (hx : ∀ i : Nat, 0 ≤ xs[i]?.getD 0 ∧ xs[i]?.getD 0 ≤ 60) (hlen : len ≤ 1048576) (w : World) (hBs : Bs < w.heap.size) (hn₀ : n₀ ≤ w.heap.size) (hb : b < n₀)
    (hc : w.cell? ⟨Bs, 0, none⟩ = some (.slice (some ⟨b, off, none⟩) len cap)) (hcs : ∀ j, j < len → w.cell? ⟨b, off + j, none⟩ = some (.int .i64 (xs[j]?.getD 0))) :
    SeqStopsK Fence.wide n Try.prog 71 #[.pointer (some ⟨Bs, 0, none⟩)] encX (KpB n₀ Bs) (fun ys => ys = uptoX (backX xs hx len) len)
      (fun pre => ∃ k, k ≤ len ∧ pre = uptoX (backX xs hx len) k) len w := fun l J Jx W hW _ _ hY h0 =>
  back1_in n hn l Bs n₀ b off len cap xs hx hlen hb J Jx hY W ((hW.cell (p := ⟨Bs, 0, none⟩) hBs).trans hc) (fun j hj => (hW.cell (p := ⟨b, off + j, none⟩) (by show b < _; omega)).trans (hcs j hj)) h0
theorem back_call (pa : Option Addr) (n ca : Nat) (w : World) :
    Calls Try.prog 69 #[.slice pa n ca] w fun e w' => e = .returned (.func (.func 71) #[] #[.pointer (some ⟨w.heap.size, 0, none⟩)]) ∧ w' = w.alloc (.cells #[.slice pa n ca] 22) := by
  go_enter Try.func69, Try.ntmps69
  go_wp2
  go_ret
  exact ⟨rfl, rfl⟩
end Go.Proofs.Ytkgdifngijeenaa
