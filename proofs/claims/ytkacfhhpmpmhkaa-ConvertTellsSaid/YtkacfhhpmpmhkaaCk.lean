import Derived.Test.YtkacfhhpmpmhkaaCj
namespace Go.Proofs.Ytkacfhhpmpmhkaa
open Go.Dec Go.RowKit
set_option maxHeartbeats 1600000
set_option maxRecDepth 10000

theorem tells_c (w : World) (s t z : Sl) (L : List Ch) (u : ByteArray) (T : List ByteArray) (n : Int) (a : Ap) (h : Rd w ch 3 s L) (h' : Rd w cb 1 t T) (hz : Rd w cb 1 z a.types) :
    callC Try.prog 6 #[s.v, .string u, t.v, .int .i64 n, pfv (pfOf a z)] (fun (r : Bool) => .bool r) w fun r w' => r = true ∧ Quiet w w' := by
  refine D6 _ _ _ _ _ _ _ _ _ _ _ _ _ _ _ _ _ _ _ _ _ _ _ _ _ _ w _ ?_
  unfold F6
  refine nwL fun b9 W hb q0 _ _ _ => ?_
  have hb : IsPf W b9 (pfOf a z) := hb
  have hA : ∀ w', Quiet W w' → AtC w' (Addr.mk b9 0 none) (pf (pfOf a z)) := fun w' q => (hb.keepQ q).at
  replace h := h.keepQ q0
  replace h' := h'.keepQ q0
  replace hz := hz.keepQ q0
  refine (small_c W).use ?_
  rintro _ w2 ⟨rfl, q⟩
  refine (few_c w2 s t L u T (h.keepQ q) (h'.keepQ q)).use ?_
  rintro r11 w3 ⟨hf, rfl⟩
  refine jn.mk (fun r w' => (r = false → r11 = true ∧ a.types.length ≤ 12) ∧ Quiet W w') ⟨fun g => ⟨fun e => (by cases e), q⟩, fun g => pf_ld (hA _ q) ((fewp_c w2 a z (hz.keepQ q)).use ?_)⟩ ?_
  · rintro r36 w4 ⟨h36, q4⟩
    exact ⟨fun e => ⟨by simpa using g, h36 (by simpa using e)⟩, q.tr q4⟩
  rintro c37 w5 ⟨h37, q5⟩
  refine ⟨fun _ => ⟨rfl, q0.tr q5⟩, fun g => ?_⟩
  obtain ⟨g1, g2⟩ := h37 g
  obtain ⟨lL, lT⟩ := hf g1
  clear q
  have q := q5
  refine (path_c w5 s t L u T n (h.keepQ q) (h'.keepQ q) (by omega)).use ?_
  rintro ⟨r39, i39⟩ w6 ⟨a39, h39, _, p39, q6⟩
  replace q := q.tr q6
  refine (rpath_c w6 s t L u T n (h.keepQ q) (h'.keepQ q) (by omega)).use ?_
  rintro ⟨r40, i40⟩ w7 ⟨a40, h40, p40, q7⟩
  replace q := q.tr q7
  dsimp only at h39 p39 h40 p40 ⊢
  obtain ⟨rfl, rfl⟩ := p39.uniq p40
  have hlen := p39.len_le
  refine jn_any' (W := W) true ?_ fun w' q => ⟨rfl, q0.tr q⟩
  show tk _ _
  unfold tk
  have qd : Quiet w7 w7.drew := Only.drew _ _
  refine ⟨fun _ => ⟨fun _ => ?_, fun g => by simp at g⟩, fun g => (by cases g)⟩
  refine (ints_c w7.drew r39 r40 _ _ (h39.keepQ (q7.tr qd)) (h40.keepQ qd) (by rw [nz_len]; omega)).use ?_
  rintro _ w9 ⟨rfl, q9⟩
  replace q := (q.tr qd).tr q9
  refine ⟨fun _ => pf_ld (hA _ q) (pf_ld (hA _ q) ((fits_c w9 a z u n (hz.keepQ q) (by omega)).use ?_)), fun g => by simp at g⟩
  rintro _ w10 ⟨rfl, q10⟩
  replace q := q.tr q10
  refine ⟨pf_cj (hA _ q), (rfits_c w10 a z u n (hz.keepQ q) (by omega)).use ?_⟩
  rintro _ w11 ⟨rfl, q11⟩
  exact ⟨by simp, q.tr q11⟩
theorem tells (W : World) (s : Sl) (L : List Ch) (h : Rd W ch 3 s L) (_ : ∀ ad, s.a = some ad → 0 < L.length → ad.block < W.heap.size) (_ : L.length ≤ maxLen) (u : ByteArray) (_ : u.size ≤ maxLen) (t : Sl) (T : List ByteArray) (h' : Rd W cb 1 t T) (_ : ∀ ad, t.a = some ad → 0 < T.length → ad.block < W.heap.size) (_ : T.length ≤ maxLen) (n : Int) (_ : -9223372036854775808 ≤ n) (_ : n ≤ 9223372036854775807) (x : Pf) (l : List ByteArray) (hx : Rd W cb 1 x.types l) (_ : x.types.len ≤ x.types.cap) :
    callC Try.prog 6 #[s.v, .string u, t.v, .int .i64 n, pfv x] (fun (r : Bool) => .bool r) W fun r w' => r = true ∧ Below W.heap.size W w' :=
  (tells_c W s t x.types L u T n (apOf x l) h h' hx).use fun _ _ h => ⟨h.1, bq h.2⟩
end Go.Proofs.Ytkacfhhpmpmhkaa
