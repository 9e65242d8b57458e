/- The walks of ValidText, the reference's and the program's: both compute the plain test vt. -/
import Derived.Test.YtknocepgfjebpaaDoorRows
import Derived.WalkKit
import Derived.WalkSpells
import Derived.WalkLawsBesides
import Derived.Lib.OthersKept
import Derived.Lib.Hide
namespace Go.Proofs.YtknocepgfjebpaaDoor
open Go.RowKit
set_option linter.unusedVariables false

def okc (c : UInt8) : Bool := decide (97 ≤ (c.toNat : Int)) && decide ((c.toNat : Int) ≤ 100)
def vt (l : List UInt8) : Bool := l.all okc && decide (l.length ≤ 40)

theorem ret_bool {a b : Bool} (h : a = b) : Ending.returned (.bool a) = .returned (.bool b) := by rw [h]
theorem ret_int {k : IntKind} {a b : Int} (h : a = b) : Ending.returned (.int k a) = .returned (.int k b) := by rw [h]

theorem take_snoc (s : ByteArray) (k : Nat) (h : k < s.size) : s.data.toList.take (k + 1) = s.data.toList.take k ++ [s[k]] := by
  rw [List.take_succ_eq_append_getElem (by simpa using h)]; rfl
theorem okc_yes (c : UInt8) (h : 97 ≤ (c.toNat : Int)) (h2 : (c.toNat : Int) ≤ 100) : okc c = true := by simp [okc, h, h2]
theorem okc_no (c : UInt8) (h : (c.toNat : Int) < 97 ∨ 100 < (c.toNat : Int)) : okc c = false := by
  unfold okc; rcases h with h | h
  · rw [decide_eq_false (by omega)]; rfl
  · rw [decide_eq_false (p := (c.toNat : Int) ≤ 100) (by omega), Bool.and_false]
theorem all_snoc (s : ByteArray) (k : Nat) (h : k < s.size) (ha : (s.data.toList.take k).all okc = true) (hc : okc s[k] = true) : (s.data.toList.take (k + 1)).all okc = true := by
  rw [take_snoc s k h]; simp only [List.all_append, ha, List.all_cons, hc, List.all_nil, Bool.and_true]
theorem vt_no (s : ByteArray) (k : Nat) (h : k < s.size) (hc : (s[k].toNat : Int) < 97 ∨ 100 < (s[k].toNat : Int)) : vt s.data.toList = false := by
  have hm : s[k] ∈ s.data.toList := by show s.data[k] ∈ _; simp
  unfold vt
  cases ha : s.data.toList.all okc with
  | false => rfl
  | true => rw [List.all_eq_true] at ha; have := ha _ hm; rw [okc_no _ hc] at this; cases this
theorem vt_end (s : ByteArray) (k : Nat) (h : ¬ k < s.size) (ha : (s.data.toList.take k).all okc = true) : decide ((s.size : Int) ≤ 40) = vt s.data.toList := by
  rw [List.take_of_length_le (by simp; omega)] at ha
  unfold vt; rw [ha, Bool.true_and]; simp; omega

set_option maxHeartbeats 400000 in
theorem s_validText (s : ByteArray) (w : World) (hs : s.size ≤ maxLen) :
    Calls Tryd.prog 10 #[.string s] w fun e w' => e = .returned (.bool (vt s.data.toList)) ∧ w = w' := by
  unfold maxLen at hs
  go_enter Tryd.func10, Tryd.ntmps10
  go_wp2
  go_loop [3] (fun i => ∃ k : Nat, k ≤ s.size ∧ i = .int .i64 k ∧ (s.data.toList.take k).all okc = true) (fun i => s.size - (intOf i).toNat)
  case atStart => exact ⟨0, Nat.zero_le _, rfl, rfl⟩
  case round =>
    obtain ⟨k, hk, rfl, hall⟩ := hrel
    have HA := Lib.hid hall; clear hall
    by_cases hlt : k < s.size
    · go_wp2
      · go_ret; exact ⟨ret_bool (vt_no s k hlt ‹_›).symm, rfl⟩
      · go_round
        case rel => exact ⟨k + 1, by omega, by go_num, all_snoc s k hlt HA.out (by rename_i h; exact okc_yes _ h.1 h.2)⟩
        case measure => simp [intOf]; omega
      · go_ret; exact ⟨ret_bool (vt_no s k hlt (.inl ‹_›)).symm, rfl⟩
    · go_wp2
      go_ret; exact ⟨ret_bool (vt_end s k hlt HA.out), rfl⟩


set_option maxHeartbeats 400000 in
theorem i_ValidText (s : ByteArray) (w : World) (hs : s.size ≤ maxLen) :
    Calls Tryd.prog 20 #[.string s] w fun e w' => e = .returned (.bool (vt s.data.toList)) ∧ Below w.heap.size w w' := by
  unfold maxLen at hs
  go_enter Tryd.func20, Tryd.ntmps20
  go_wp2
  go_loopw [] (fun wr => ∃ k : Nat, wr = w.iter s k ∧ k ≤ s.size ∧ (s.data.toList.take k).all okc = true) (fun wr => s.size - wr.iterPos w.heap.size)
  case atStart => exact ⟨0, rfl, Nat.zero_le _, rfl⟩
  case round =>
    obtain ⟨k, rfl, hk, hall⟩ := hrel
    have HA := Lib.hid hall; clear hall
    by_cases hlt : k < s.size
    · by_cases hv : 97 ≤ (s[k].toNat : Int) ∧ (s[k].toNat : Int) ≤ 100
      · have hnx : ∀ ty, (Instr.next (.pointer (some ⟨w.heap.size, 0, none⟩)) true ty).run Tryd.prog (w.iter s k) = _ := fun ty => run_next_ascii w s k ty hlt (by omega)
        obtain ⟨hv1, hv2⟩ := hv
        go_wp2
        go_roundw
        case rel => exact ⟨k + 1, rfl, by omega, all_snoc s k hlt HA.out (okc_yes _ hv1 hv2)⟩
        case measure => simp [World.iterPos, World.iter_heap]; omega
      · have hnx : ∀ ty, (Instr.next (.pointer (some ⟨w.heap.size, 0, none⟩)) true ty).run Tryd.prog (w.iter s k) = _ := fun ty => run_next_any w s k ty hlt
        go_wp2
        · go_ret; exact ⟨ret_bool (vt_no s k hlt ‹_›).symm, (Below.refl _ w).alloc (Nat.le_refl _) _⟩
        · go_ret; exact ⟨ret_bool (vt_no s k hlt (.inl ‹_›)).symm, (Below.refl _ w).alloc (Nat.le_refl _) _⟩
    · have hnx : ∀ ty, (Instr.next (.pointer (some ⟨w.heap.size, 0, none⟩)) true ty).run Tryd.prog (w.iter s k) = _ := fun ty => run_next_end w s k ty hlt
      go_wp2
      go_ret; exact ⟨ret_bool (vt_end s k hlt HA.out), (Below.refl _ w).alloc (Nat.le_refl _) _⟩
end Go.Proofs.YtknocepgfjebpaaDoor
