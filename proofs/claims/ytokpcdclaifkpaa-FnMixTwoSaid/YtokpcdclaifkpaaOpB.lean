/- Slices of bytes that come in: what is known of their cells. -/
import Derived.Test.YtokpcdclaifkpaaDr
import Derived.ProofKit
import Derived.OpenShut
namespace Go.Proofs.Ytokpcdclaifkpaa
open Go.ChangeShapes Go.WideShapes Go.ChangeAt Go.RowKit
set_option linter.unusedVariables false

theorem u8_range {n : Int} (h : (Lit.int .u8 n).wf = true) : 0 ≤ n ∧ n ≤ 255 := by simpa [Lit.wf, IntKind.min, IntKind.max, IntKind.signed, IntKind.bits] using h
theorem cells_u8 : Try.prog.cellsOf 5 = 1 := by kernel_rfl
theorem CodeAt.of_trod {H : Type} {enc : TypeId × Value → H} {W : World} {base : Nat} {held : Bool} {pa : Option Addr} {n cap : Nat} {d : DataW H} {ps : List MemPlace}
    (h : DataW.Trod enc Try.prog W base (fun _ => true) held 22 (.slice pa n cap) d ps) : CodeAt W pa n cap := by
  obtain ⟨fuel, hf⟩ := h
  rcases open_ints Try.underlying22 Try.underlying5 cells_u8 hf with ⟨hcs, hx⟩ | ⟨a, len', cap', zs, hcs, _, hl, hm, hz, hx, hcell, hwz⟩
  · simp [Value.cells] at hcs
    obtain ⟨rfl, rfl, rfl⟩ := hcs
    exact ⟨Nat.le_refl _, Nat.zero_le _, fun i hi => by omega⟩
  · simp [Value.cells] at hcs
    obtain ⟨rfl, rfl, rfl⟩ := hcs
    simp at hz
    refine ⟨hl, hm, fun i hi => ?_⟩
    obtain ⟨b, off, rfl, hc⟩ := ints_at hcell (by omega)
    have hci := hc i (by omega)
    have hr := u8_range (hwz (zs.getD i 0) (by rw [List.getD_eq_getElem?_getD, List.getElem?_eq_getElem (by omega)]; exact List.getElem_mem _))
    exact ⟨b, off, zs.getD i 0, rfl, cell_lt hci, hr.1, hr.2, hci⟩
end Go.Proofs.Ytokpcdclaifkpaa
