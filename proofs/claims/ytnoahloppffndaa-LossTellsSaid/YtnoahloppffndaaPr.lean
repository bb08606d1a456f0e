import Derived.Test.YtnoahloppffndaaPd
namespace Go.Proofs.Ytnoahloppffndaa
open Go.Dec Go.RowKit
set_option maxHeartbeats 400000
set_option maxRecDepth 10000

theorem fewp_c (w : World) (a : Ap) (s : Sl) (h : Rd w cb 1 s a.types) : callC Try.prog 9 #[pfv (pfOf a s)] (fun (r : Bool) => .bool r) w fun r w' => (r = true → a.types.length ≤ 12) ∧ Quiet w w' := by
  have hsl := h.len
  refine D9 _ _ _ _ _ _ _ _ _ _ _ _ _ _ _ _ _ _ _ _ _ _ w _ ?_
  unfold F9
  refine nwL fun b1 w1 hb1 q1 _ _ _ => ?_
  have A : AtC w1 (Addr.mk b1 0 none) (pf (pfOf a s)) := IsPf.at hb1
  refine ⟨fun i w' => 0 ≤ i ∧ i ≤ 13 ∧ w1 = w', fun i _ => (13 - i).toNat, ⟨by omega, by omega, rfl⟩, ?_⟩
  rintro i w2 ⟨i0, i1, rfl⟩
  refine A.ld (j := 12) rfl ⟨fun hi => A.ld (j := 12) rfl ?_, fun hi => A.ld (j := 12) rfl (jp_and (fun _ J hJ => A.ld (j := 0) rfl hJ) ⟨fun g => ?_, q1⟩)⟩
  · rw [Bool.and_eq_true] at hi
    have h1 : i < (s.len : Int) := of_decide_eq_true hi.1
    have h2 := of_decide_eq_true hi.2
    obtain ⟨x, hx⟩ := getq (l := a.types) i0 (by omega)
    refine (h.keepQ q1).ixx i0 hx fun p hat _ => hat.ld0 rfl ⟨fun _ => ⟨fun g => (by cases g), q1⟩, fun _ => ?_⟩
    rw [w64 (by omega) (by omega)]
    exact ⟨⟨by omega, by omega, rfl⟩, by (try dsimp only); omega⟩
  · rw [Bool.and_eq_true] at g
    have g : (s.len : Int) ≤ 12 := of_decide_eq_true g.1
    omega
end Go.Proofs.Ytnoahloppffndaa
