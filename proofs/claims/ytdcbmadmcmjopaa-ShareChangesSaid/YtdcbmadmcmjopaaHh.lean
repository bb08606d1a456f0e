import Derived.Test.YtdcbmadmcmjopaaHg
namespace Go.Proofs.Ytdcbmadmcmjopaa
open Go.Dec Go.RowKit
set_option maxHeartbeats 1600000
set_option maxRecDepth 10000

theorem tells (W : World) (a : Int) (_ : -9223372036854775808 ≤ a) (_ : a ≤ 9223372036854775807) (k : Int) (hk : -9223372036854775808 ≤ k) (_ : k ≤ 9223372036854775807) (n : Int) (_ : -9223372036854775808 ≤ n) (_ : n ≤ 9223372036854775807) (d : Int) (_ : -9223372036854775808 ≤ d) (_ : d ≤ 9223372036854775807) (t : Sl) (l : List Pt) (h : Rd W pt 2 t l) (_ : ∀ ad, t.a = some ad → 0 < l.length → ad.block < W.heap.size) (_ : l.length ≤ maxLen) (hc : t.len ≤ t.cap) :
    callC Try.prog 3 #[.int .i64 a, .int .i64 k, .int .i64 n, .int .i64 d, t.v] (fun (r : Bool) => .bool r) W fun r w' => r = true ∧ Below W.heap.size W w' := by
  have htl := h.len
  refine callC.use (R := fun r w' => r = true ∧ Quiet W w') ?_ fun _ _ h => ⟨h.1, bq h.2⟩
  refine D3 _ _ _ _ _ W _ ?_
  unfold F3
  refine (small_c W).use ?_
  rintro _ w1 ⟨rfl, q1⟩
  refine ⟨fun g => ⟨rfl, q1⟩, fun g => ?_⟩
  have g : ¬ (30 < (t.len : Int)) := of_decide_eq_false g
  have hl : l.length ≤ 30 := by omega
  refine (split_c w1 a k n d hk).use ?_
  rintro r11 w2 ⟨hn, hs, q2⟩
  refine (rsplit_c w2 a k n d).use ?_
  rintro r12 w3 ⟨hn', hs', q3⟩
  have key : ∃ L : List Pt, Rd w3 pt 2 r11.1 L ∧ Rd w3 pt 2 r12.1 L ∧ r11.2 = r12.2 ∧ L.length ≤ 1000000 := by
    by_cases ok : okSplit a k n
    · obtain ⟨e1, F, o1, _⟩ := hs ok
      obtain ⟨e2, F', o2, _⟩ := hs' ok
      have hn20 := ok.2.1
      exact ⟨_, (o1.rd pt_len (by decide)).keepQ q3, o2.rd pt_len (by decide), by rw [e1, e2], by rw [spl_len]; omega⟩
    · rw [hn ok, hn' ok]
      exact ⟨[], Rd.nil _ _ _, Rd.nil _ _ _, rfl, by decide⟩
  obtain ⟨L, hL1, hL2, eL, hLl⟩ := key
  have q13 := (q1.tr q2).tr q3
  refine (join_c w3 t l k (h.keepQ q13) hc (by omega)).use ?_
  rintro r13 w4 ⟨j1, q4⟩
  refine (rjoin_c w4 t l k (h.keepQ (q13.tr q4)) hc (by omega)).use ?_
  rintro r14 w5 ⟨j2, q5⟩
  have ej := JoinR.uniq j1 j2
  have q35 := q4.tr q5
  refine jn_t (W := w5) rfl ?_ fun w7 q7 => ?_
  · refine (same_c w5 r11.1 r12.1 L L (hL1.keepQ q35) (hL2.keepQ q35) hLl).use ?_
    rintro r17 w6 ⟨rfl, q6⟩
    exact ⟨decide_eq_true rfl, q6⟩
  refine jn_t (W := w7) (by rw [eL, ej, decide_eq_true rfl, decide_eq_true rfl, decide_eq_true rfl]; rfl) ?_ fun w10 q10 => ⟨rfl, ((q13.tr q35).tr q7).tr q10⟩
  refine (fits_c w7 t l k a (h.keepQ ((q13.tr q35).tr q7)) (by omega)).use ?_
  rintro r27 w8 ⟨f1, q8⟩
  refine (rfits_c w8 t l k a (h.keepQ (((q13.tr q35).tr q7).tr q8)) (by omega)).use ?_
  rintro r28 w9 ⟨f2, q9⟩
  refine ⟨?_, q8.tr q9⟩
  rw [beq_iff_eq, Bool.eq_iff_iff]
  exact f1.trans f2.symm

theorem joins (W : World) (a : Int) (ha : -9223372036854775808 ≤ a) (ha' : a ≤ 9223372036854775807) (b : Int) (hb : 0 ≤ b) (hb' : b ≤ 255) (c : Int) (hc : 0 ≤ c) (hc' : c ≤ 255) (d : Int) (_ : -9223372036854775808 ≤ d) (_ : d ≤ 9223372036854775807)
    (t : Sl) (u : List Int) (h : Rd W c8 1 t u) (_ : ∀ ad, t.a = some ad → 0 < u.length → ad.block < W.heap.size) (_ : u.length ≤ maxLen) (hu : ∀ x ∈ u, 0 ≤ x ∧ x ≤ 255) (o : Int) (ho : -9223372036854775808 ≤ o) (ho' : o ≤ 9223372036854775807) :
    callC Try.prog 4 #[.int .i64 a, .int .u8 b, .int .u8 c, .int .i64 d, t.v, .int .i64 o] (fun (r : Bool) => .bool r) W fun r w' => r = true ∧ Below W.heap.size W w' := by
  have htl := h.len
  refine callC.use (R := fun r w' => r = true ∧ Quiet W w') ?_ fun _ _ h => ⟨h.1, bq h.2⟩
  refine D4 _ _ _ _ _ _ W _ ?_
  unfold F4
  refine (small_c W).use ?_
  rintro _ w1 ⟨rfl, q1⟩
  refine ⟨fun g => ⟨rfl, q1⟩, fun g => ?_⟩
  have g : ¬ (30 < (t.len : Int)) := of_decide_eq_false g
  refine (numbers_c w1 a b c ⟨ha, ha'⟩ ⟨hb, hb'⟩ ⟨hc, hc'⟩).use ?_
  rintro ⟨x, k, n⟩ w2 ⟨⟨hx, hk, hn⟩, q2⟩
  dsimp only at hx hk hn ⊢
  refine use_same (mod_c w2 o ho ho') ?_
  generalize hoe : o % 2147483647 = e
  have hef : Fld e := by rw [← hoe]; exact mod_fld _
  have hxf : Fld x := by rw [hx]; exact mod_fld _
  refine (split_c w2 x k n d (by omega)).use ?_
  rintro r13 w4 ⟨_, hs, q4⟩
  obtain ⟨e13, F, o13, _⟩ := hs ⟨hxf, ⟨by omega, hn⟩, hk.1, hk.2⟩
  have hr := o13.rd pt_len (by decide)
  have hrl := hr.len
  rw [spl_len] at hrl
  refine ⟨fun g1 => ?_, fun _ => ?_⟩
  · rw [e13, hrl] at g1
    simp at g1
    omega
  refine (chosen_c w4 r13.1 t _ u hr (h.keepQ ((q1.tr q2).tr q4)) (by rw [spl_len]; omega) (by omega) hu).use ?_
  rintro r17 w5 ⟨m, G, o17, hm, hmn, hml, f17⟩
  have hmr := o17.rd pt_len (by decide)
  have hmrl := hmr.len
  have hw : WrongP m k = 0 := wrong_ok (by omega) (fun s hs => spl_in (by omega) s (hm s hs)) (sub_nd hm hmn)
  have hP := splF_P x (k := k.toNat) d (by omega)
  have hT : Thru (splF x k.toNat d) m := fun s hs => spl_thru _ _ _ _ s (hm s hs)
  have h0 := splF_0 x k.toNat d
  have Q5 := ((q1.tr q2).tr q4).tr f17.q
  refine (join_c w5 r17 m k hmr o17.cap (by omega)).use ?_
  rintro r18 w6 ⟨j18, q6⟩
  refine ⟨fun g2 => ?_, fun g2 => ?_⟩
  · have g2 : k ≤ (m.length : Int) := by have := of_decide_eq_true g2; omega
    obtain ⟨j1, j2, j3⟩ := join_on j18 hw g2 hP hT
    have j1 : r18.1 = x := fld_eq (h0 ▸ j2) j1 hxf
    refine jn_t (W := w6) (by rw [j1, j3, decide_eq_true rfl, decide_eq_true rfl]; rfl) ?_ fun w8 q8 => ?_
    · refine (fits_c w6 r17 m k x (hmr.keepQ q6) (by omega)).use ?_
      rintro r26 w7 ⟨f1, q7⟩
      exact ⟨f1.2 (fits_on hw hP hT hxf (cg.of h0)), q7⟩
    refine jn_t (W := w8) rfl ?_ fun w10 q10 => ⟨rfl, ((Q5.tr q6).tr q8).tr q10⟩
    refine (fits_c w8 r17 m k e (hmr.keepQ (q6.tr q8)) (by omega)).use ?_
    rintro r30 w9 ⟨f1, q9⟩
    refine ⟨?_, q9⟩
    rw [beq_iff_eq, Bool.eq_iff_iff, f1, decide_eq_true_eq]
    refine ⟨fun hf => fld_eq (h0 ▸ fits_eq hw g2 hP hT hf) hef hxf, fun he => ?_⟩
    rw [he]
    exact fits_on hw hP hT hxf (cg.of h0)
  · have g2 : (m.length : Int) < k := by have := of_decide_eq_false g2; omega
    have j1 := join_few j18 hw g2
    refine jn_t (W := w6) (by rw [j1]; rfl) ?_ fun w8 q8 => ?_
    · refine (fits_c w6 r17 m k x (hmr.keepQ q6) (by omega)).use ?_
      rintro r26 w7 ⟨f1, q7⟩
      exact ⟨f1.2 (fits_few hw g2 hxf), q7⟩
    refine jn_t (W := w8) rfl ?_ fun w10 q10 => ⟨rfl, ((Q5.tr q6).tr q8).tr q10⟩
    refine (fits_c w8 r17 m k e (hmr.keepQ (q6.tr q8)) (by omega)).use ?_
    rintro r30 w9 ⟨f1, q9⟩
    exact ⟨f1.2 (fits_few hw g2 hef), q9⟩
end Go.Proofs.Ytdcbmadmcmjopaa
