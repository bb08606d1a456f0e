import Derived.Test.YtkacfhhpmpmhkaaCe
namespace Go.Proofs.Ytkacfhhpmpmhkaa
open Go.Dec Go.RowKit
set_option maxHeartbeats 800000
set_option maxRecDepth 10000

theorem nz_drop (a : List Nat) (k : Nat) : (nz a).drop k = nz (a.drop k) := by simp [nz, List.map_drop]
theorem once_c (w : World) (s t : Sl) (L : List Ch) (u : ByteArray) (T : List ByteArray) (n : Int) (h : Rd w ch 3 s L) (h' : Rd w cb 1 t T) :
    callC Try.prog 4 #[s.v, .string u, t.v, .int .i64 n] (fun (r : Bool) => .bool r) w fun r w' => r = true ∧ Quiet w w' := by
  refine D4 _ _ _ _ w _ ?_
  unfold F4
  refine (small_c w).use ?_
  rintro _ w1 ⟨rfl, q⟩
  refine (few_c w1 s t L u T (h.keepQ q) (h'.keepQ q)).use ?_
  rintro r10 w2 ⟨hf, rfl⟩
  refine ⟨fun _ => ⟨rfl, q⟩, fun g => ?_⟩
  rw [Bool.not_eq_false'] at g
  obtain ⟨lL, lT⟩ := hf g
  refine (path_c w1 s t L u T n (h.keepQ q) (h'.keepQ q) (by omega)).use ?_
  rintro ⟨r, is⟩ w3 ⟨a, hr, hc, hp, q3⟩
  dsimp only at hr hc hp ⊢
  replace q := q.tr q3
  have hrl := hr.len
  rw [nz_len] at hrl
  have hal := hp.len_le
  refine ⟨fun _ => ⟨rfl, q⟩, fun g => ?_⟩
  rw [Bool.not_eq_false'] at g
  obtain ⟨n0, _, hb⟩ := hp.yes g
  have h := h.keepQ q
  have h' := h'.keepQ q
  -- the types before: each begins a rest that is longer
  refine ⟨fun (l : Sl × Int) w' => 0 ≤ l.2 ∧ l.2 ≤ a.length + 1 ∧ Quiet w3 w' ∧ ∃ F S, OwnF w' F 9 1 l.1 (S.flatMap cb) ∧ Fresh w3 w' F ∧ S.length = l.2.toNat ∧ ∀ x ∈ S, ∃ b, Best L n x T b ∧ a.length < b.length + l.2.toNat, fun l _ => (a.length + 1 - l.2).toNat, ⟨by simp, by (try dsimp only); omega, Only.refl _ _, _, [], OwnF.nil _ _ _ _, Fresh.none _, rfl, by simp⟩, ?_⟩
  rintro ⟨sn, i⟩ w4 ⟨i0, i1, q4, F, S, ho, fF, hSl, hS⟩
  dsimp only at i0 i1 ho hSl hS ⊢
  refine ⟨fun hi => ?_, fun _ => ⟨rfl, q.tr q4⟩⟩
  have hi : i ≤ (r.len : Int) := of_decide_eq_true hi
  have hia : i.toNat ≤ a.length := by omega
  have hsp : a.take i.toNat ++ a.drop i.toNat = a := List.take_append_drop _ _
  obtain ⟨x, hx1, hx2⟩ : ∃ x, Leads L n u (a.take i.toNat) x ∧ Best L n x T (a.drop i.toNat) := by
    obtain ⟨⟨v, hv, hl⟩, _⟩ := id hb
    rw [← hsp] at hl hb
    obtain ⟨x, h1, _⟩ := hl.split
    exact ⟨x, h1, hb.rest h1⟩
  have hdl : (a.drop i.toNat).length = a.length - i.toNat := List.length_drop
  refine rn_upto ap24 (hr.keepQ q4) hc i0 (by rw [nz_len]; omega) fun r16 hr16 _ _ => ?_
  rw [nz_take] at hr16
  refine (lead_c w4 s r16 L u (nz (a.take i.toNat)) n (h.keepQ q4) hr16 (by rw [nz_len, List.length_take]; omega)).use ?_
  rintro _ w6 ⟨rfl, rfl⟩
  rw [show leadP L n u (nz (a.take i.toNat)) = (x, true) from lead_iff.2 ⟨n0, _, rfl, hx1⟩]
  dsimp only
  have hsl := (ho.rd cb1 (by decide)).len
  refine jn_orW (W := w4) (v := false) (Only.refl _ _) (fun _ => ?_) fun w8 q8 => ?_
  · refine (has_c w4 sn S x (ho.rd cb1 (by decide)) (by omega)).use ?_
    rintro _ w7 ⟨rfl, rfl⟩
    refine ⟨decide_eq_false fun hxS => ?_, Only.refl _ _⟩
    obtain ⟨b, hb1, hb2⟩ := hS x hxS
    rw [hb1.uniq hx2, hdl] at hb2
    omega
  refine jn.mk (fun r w' => r = false ∧ Quiet w4 w') ⟨fun g => (by cases g), fun _ => ?_⟩ ?_
  · refine (has_c w8 t T x (h'.keepQ (q4.tr q8)) (by omega)).use ?_
    rintro _ w9 ⟨rfl, rfl⟩
    refine ⟨?_, q8⟩
    have : decide (x ∈ T) = decide (i = (r.len : Int)) := decide_eq_decide.2 (by
      rw [hx2.in_, ← List.length_eq_zero_iff, hdl]
      omega)
    rw [this]
    simp
  rintro _ w10 ⟨rfl, q10⟩
  refine ⟨fun g => (by cases g), fun _ => ?_⟩
  refine (ho.keepQ q10).push (news := cb x) ap23 rfl rfl (by unfold maxLen; omega) (by omega) fun r28 w12 F' ho' _ st' => ?_
  have f' := (fF.keep q10).stp st'
  refine (path_c w12 s t L x T n (h.keepQ f'.q) (h'.keepQ f'.q) (by omega)).use ?_
  rintro ⟨r29, is29⟩ w13 ⟨a29, hr29, hc29, hp29, q13⟩
  dsimp only at hr29 hc29 hp29 ⊢
  obtain ⟨⟨v, hv, hl⟩, _⟩ := id hx2
  obtain ⟨e29, hb29, _⟩ := hp29.finds n0 (by omega) hl hv
  have ea : a29 = a.drop i.toNat := hb29.uniq hx2
  subst ea
  subst e29
  refine jn.mk (fun r w' => r = false ∧ Quiet w13 w') ⟨fun g => (by cases g), fun _ => ?_⟩ ?_
  · refine rn_from ap24 (hr.keepQ (f'.q.tr q13)) hc i0 (by rw [nz_len]; omega) fun r32 hr32 _ _ => ?_
    rw [nz_drop] at hr32
    refine (ints_c w13 r29 r32 _ _ hr29 hr32 (by rw [nz_len]; omega)).use ?_
    rintro _ w15 ⟨rfl, q15⟩
    exact ⟨by simp, q15⟩
  rintro _ w16 ⟨rfl, q16⟩
  refine ⟨fun g => (by cases g), fun _ => ?_⟩
  have q1316 := q13.tr q16
  rw [w64 (by omega) (by omega)]
  refine ⟨⟨by (try dsimp only); omega, by (try dsimp only); omega, f'.q.tr q1316, F', S ++ [x], ?_, f'.keep q1316, ?_, ?_⟩, by (try dsimp only); omega⟩
  · rw [List.flatMap_append]
    simpa using ho'.keepQ q1316
  · rw [List.length_append, hSl, toNat_succ i0]
    rfl
  · rw [toNat_succ i0]
    intro y hy
    rcases List.mem_append.1 hy with e | e
    · obtain ⟨b, h1, h2⟩ := hS y e
      exact ⟨b, h1, by omega⟩
    · rw [List.mem_singleton.1 e]
      exact ⟨_, hx2, by rw [hdl]; omega⟩
theorem once (W : World) (s : Sl) (L : List Ch) (h : Rd W ch 3 s L) (_ : ∀ ad, s.a = some ad → 0 < L.length → ad.block < W.heap.size) (_ : L.length ≤ maxLen) (u : ByteArray) (_ : u.size ≤ maxLen) (t : Sl) (T : List ByteArray) (h' : Rd W cb 1 t T) (_ : ∀ ad, t.a = some ad → 0 < T.length → ad.block < W.heap.size) (_ : T.length ≤ maxLen) (n : Int) (_ : -9223372036854775808 ≤ n) (_ : n ≤ 9223372036854775807) :
    callC Try.prog 4 #[s.v, .string u, t.v, .int .i64 n] (fun (r : Bool) => .bool r) W fun r w' => r = true ∧ Below W.heap.size W w' :=
  (once_c W s t L u T n h h').use fun _ _ h => ⟨h.1, bq h.2⟩
end Go.Proofs.Ytkacfhhpmpmhkaa
