/- a place that is an argument -/
import Derived.Test.YtjmjackeeiglmaaPz
namespace Go.Proofs.Ytjmjackeeiglmaa
open Go.Dec Go.RowKit Go.ChangeShapes Go.WideShapes Go.ChangeAt Go.Deep
set_option maxHeartbeats 400000
theorem open_place {H : Type} {enc : TypeId × Value → H} {W : World} {r : Reach} {b0 : Nat} {v : Value} {d : DataW H} {p : List MemPlace} (hval : Value.okWide Try.prog W r b0 32 v) (h : DataW.Trod enc Try.prog W 0 (fun _ => true) true 32 v d p) :
    ∃ (y : Pl) (fs : Sl), v = .agg #[.int .i64 y.kind, .int .i64 y.id, fs.v] ∧ Rd W ci 1 fs y.frm ∧ y.frm.length ≤ maxLen := by
  obtain ⟨cs, rfl, hs⟩ := okWide_struct under32_ hval
  obtain ⟨fuel, hf⟩ := h
  obtain ⟨y, fs, hy, hrd, hl, _⟩ := place_cells fuel _ _ (by simp [Value.cells, hs, cells32_]) hf
  refine ⟨y, fs, ?_, hrd, hl⟩
  rw [← hy]
  simp [Value.cells]
theorem bytes32 : Try.prog.bytesOf 32 = 40 := by kernel_rfl
end Go.Proofs.Ytjmjackeeiglmaa
