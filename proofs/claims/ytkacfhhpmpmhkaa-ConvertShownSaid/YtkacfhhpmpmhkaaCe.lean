import Derived.Test.YtkacfhhpmpmhkaaCd
namespace Go.Proofs.Ytkacfhhpmpmhkaa
open Go.Dec Go.RowKit
set_option maxHeartbeats 800000
set_option maxRecDepth 10000

/-- the first place in which two lists differ says which is less -/
theorem lx_at : ∀ {a p : List Nat} {k x y : Nat}, lx a p → a.take k = p.take k → a[k]? = some x → p[k]? = some y → x ≤ y
  | _ :: a, _ :: p, 0, x, y, h, _, hx, hy => by
    simp only [List.getElem?_cons_zero, Option.some.injEq] at hx hy
    subst hx hy
    rcases h with h | ⟨h, _⟩ <;> omega
  | _ :: a, _ :: p, k + 1, x, y, h, ht, hx, hy => by
    simp only [List.take_succ_cons, List.cons.injEq] at ht
    rcases h with h | ⟨_, h⟩
    · omega
    · exact lx_at h ht.2 (by simpa using hx) (by simpa using hy)
  | [], _, _, _, _, h, _, _, _ => h.elim
  | _ :: _, [], _, _, _, h, _, _, _ => h.elim
theorem nz_take (a : List Nat) (k : Nat) : (nz a).take k = nz (a.take k) := by simp [nz, List.map_take]
theorem nz_at {a : List Nat} {k : Nat} {x : Int} (h : (nz a)[k]? = some x) : ∃ m : Nat, a[k]? = some m ∧ x = m := by
  simp only [nz, List.getElem?_map] at h
  cases e : a[k]? with
  | none => rw [e] at h; cases h
  | some m =>
    rw [e] at h
    injection h with h
    exact ⟨m, rfl, h.symm⟩
theorem best_c (w : World) (s t z : Sl) (L : List Ch) (u : ByteArray) (T : List ByteArray) (n : Int) (way : List Int) (h : Rd w ch 3 s L) (h' : Rd w cb 1 t T) (hz : Rd w ci 1 z way) :
    callC Try.prog 3 #[s.v, .string u, t.v, .int .i64 n, z.v] (fun (r : Bool) => .bool r) w fun r w' => r = true ∧ Quiet w w' := by
  have hzl := hz.len
  refine D3 _ _ _ _ _ w _ ?_
  unfold F3
  refine (small_c w).use ?_
  rintro _ w1 ⟨rfl, q⟩
  refine (few_c w1 s t L u T (h.keepQ q) (h'.keepQ q)).use ?_
  rintro r10 w2 ⟨hf, rfl⟩
  refine ⟨fun _ => ⟨rfl, q⟩, fun g => ?_⟩
  rw [Bool.or_eq_false_iff, Bool.not_eq_false', decide_eq_false_iff_not] at g
  obtain ⟨lL, lT⟩ := hf g.1
  have hw14 : way.length ≤ 14 := by omega
  refine (path_c w1 s t L u T n (h.keepQ q) (h'.keepQ q) (by omega)).use ?_
  rintro ⟨r, is⟩ w3 ⟨a, hr, hc, hp, q3⟩
  dsimp only at hr hc hp ⊢
  replace q := q.tr q3
  have hrl := hr.len
  rw [nz_len] at hrl
  have hal := hp.len_le
  refine jn.mk (fun _ w' => Quiet w3 w') ⟨fun hi => ?_, fun hi => ⟨fun g => ?_, fun _ => Only.refl _ _⟩⟩ fun _ w4 q4 => ?_
  · obtain ⟨n0, _, hb⟩ := hp.yes hi
    obtain ⟨⟨v, hv, hl⟩, _⟩ := hb
    refine (lead_c w3 s r L u (nz a) n (h.keepQ q) hr (by rw [nz_len]; omega)).use ?_
    rintro _ w5 ⟨rfl, rfl⟩
    have hlead : leadP L n u (nz a) = (v, true) := lead_iff.2 ⟨n0, a, rfl, hl⟩
    rw [hlead]
    refine jn_orW (W := w3) (v := false) (Only.refl _ _) (fun _ => ?_) fun w7 q7 => ⟨fun g => (by cases g), fun _ => q7⟩
    refine (has_c w3 t T v (h'.keepQ q) (by omega)).use ?_
    rintro _ w6 ⟨rfl, rfl⟩
    exact ⟨by simp [hv], Only.refl _ _⟩
  · rw [hp.no hi] at hrl
    have g := of_decide_eq_true g
    simp at hrl
    omega
  replace q := q.tr q4
  refine (lead_c w4 s z L u way n (h.keepQ q) (hz.keepQ q) (by omega)).use ?_
  rintro _ w8 ⟨rfl, rfl⟩
  refine jn_orW (W := w4) (v := !decide ((leadP L n u way).1 ∈ T)) (Only.refl _ _) (fun _ => ?_) fun w10 q10 => ?_
  · refine (has_c w4 t T _ (h'.keepQ q) (by omega)).use ?_
    rintro _ w6 ⟨rfl, rfl⟩
    exact ⟨rfl, Only.refl _ _⟩
  replace q := q.tr q10
  refine ⟨fun _ => ⟨rfl, q⟩, fun g => ?_⟩
  rw [Bool.or_eq_false_iff, Bool.not_eq_false', Bool.not_eq_false', decide_eq_true_eq] at g
  obtain ⟨g1, g2⟩ := g
  obtain ⟨n0, p, rfl, hl⟩ := (lead_iff (v := (leadP L n u way).1)).1 (by rw [← g1])
  obtain ⟨rfl, hb, hle⟩ := hp.finds n0 (by omega) hl g2
  rw [nz_len] at hzl
  have hlen := sle_len hle
  refine ⟨fun g => ?_, fun _ => ?_⟩
  · simp at g
    omega
  have hr := hr.keepQ (q4.tr q10)
  have hz := hz.keepQ q
  refine ⟨fun i w' => 0 ≤ i ∧ i ≤ a.length ∧ a.take i.toNat = p.take i.toNat ∧ Quiet w10 w', fun i _ => (a.length - i).toNat, ⟨by omega, by omega, by simp, Only.refl _ _⟩, ?_⟩
  rintro i w11 ⟨i0, i1, hn, q11⟩
  refine ⟨fun hi => ?_, fun _ => ⟨rfl, q.tr q11⟩⟩
  rw [Bool.and_eq_true, decide_eq_true_eq, decide_eq_true_eq] at hi
  have heq : a.length = p.length := by omega
  obtain ⟨x, hx⟩ := getq (l := nz a) i0 (by rw [nz_len]; omega)
  obtain ⟨y, hy⟩ := getq (l := nz p) i0 (by rw [nz_len]; omega)
  obtain ⟨x', hx', ex⟩ := nz_at hx
  obtain ⟨y', hy', ey⟩ := nz_at hy
  refine jn_any' (W := w10) (decide (y < x)) ?_ fun w13 q13 => ?_
  · show tk _ _
    unfold tk
    replace q11 := q11.tr (Only.drew (fun _ => False) _)
    exact (hr.keepQ q11).ixx i0 hx fun p hat _ => hat.ld0 rfl ((hz.keepQ q11).ixx i0 hy fun p hat _ => hat.ld0 rfl ⟨rfl, q11⟩)
  refine ⟨fun g => ?_, fun g => ?_⟩
  · have g := of_decide_eq_true g
    have : x' ≤ y' := by
      rcases hle with rfl | h | ⟨_, h⟩
      · rw [hx'] at hy'
        injection hy' with hy'
        omega
      · omega
      · exact lx_at h hn hx' hy'
    omega
  refine jn_any' (W := w10) (decide (x < y)) ?_ fun w15 q15 => ⟨fun _ => ⟨rfl, q.tr q15⟩, fun g' => ?_⟩
  · show tk _ _
    unfold tk
    replace q13 := q13.tr (Only.drew (fun _ => False) _)
    exact (hr.keepQ q13).ixx i0 hx fun p hat _ => hat.ld0 rfl ((hz.keepQ q13).ixx i0 hy fun p hat _ => hat.ld0 rfl ⟨rfl, q13⟩)
  have g := of_decide_eq_false g
  have g' := of_decide_eq_false g'
  rw [w64 (by omega) (by omega)]
  refine ⟨⟨by omega, by omega, ?_, q15⟩, by (try dsimp only); omega⟩
  rw [toNat_succ i0, take_next hx', take_next hy', hn, show x' = y' by omega]
theorem best (W : World) (s : Sl) (L : List Ch) (h : Rd W ch 3 s L) (_ : ∀ ad, s.a = some ad → 0 < L.length → ad.block < W.heap.size) (_ : L.length ≤ maxLen) (u : ByteArray) (_ : u.size ≤ maxLen) (t : Sl) (T : List ByteArray) (h' : Rd W cb 1 t T) (_ : ∀ ad, t.a = some ad → 0 < T.length → ad.block < W.heap.size) (_ : T.length ≤ maxLen) (n : Int) (_ : -9223372036854775808 ≤ n) (_ : n ≤ 9223372036854775807) (z : Sl) (way : List Int) (hz : Rd W ci 1 z way) (_ : ∀ ad, z.a = some ad → 0 < way.length → ad.block < W.heap.size) (_ : way.length ≤ maxLen) :
    callC Try.prog 3 #[s.v, .string u, t.v, .int .i64 n, z.v] (fun (r : Bool) => .bool r) W fun r w' => r = true ∧ Below W.heap.size W w' :=
  (best_c W s t z L u T n way h h' hz).use fun _ _ h => ⟨h.1, bq h.2⟩
end Go.Proofs.Ytkacfhhpmpmhkaa
