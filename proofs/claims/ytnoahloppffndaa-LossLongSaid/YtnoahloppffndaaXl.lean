import Derived.Test.YtnoahloppffndaaXe
import Derived.Test.YtnoahloppffndaaPr
namespace Go.Proofs.Ytnoahloppffndaa
open Go.Dec Go.RowKit
set_option maxHeartbeats 1600000
set_option maxRecDepth 10000

theorem certF_con : ∀ (l : List Wy) (n : Nat), ∀ x ∈ certF l n, (n : Int) ≤ x.con
  | [], _, x, h => by cases h
  | y :: l, n, x, h => by
    rw [certF] at h
    split at h
    · have := certF_con l (n + 1) x h
      omega
    · rcases List.mem_cons.1 h with e | e
      · rw [e]
        exact Int.le_refl _
      · have := certF_con l (n + 1) x e
        omega
/-- where the line of a construct stands -/
theorem cert_split {l : List Wy} {c : Nat} {x : Wy} (hx : l[c]? = some x) : certP l = certF (l.take c) 0 ++ (if x.how = 0 then certF (l.drop (c + 1)) (c + 1) else ⟨(c : Int), x.how, x.finds⟩ :: certF (l.drop (c + 1)) (c + 1)) := by
  obtain ⟨hc, e⟩ := List.getElem?_eq_some_iff.1 hx
  have h1 : certP l = certF (l.take c ++ l.drop c) 0 := by rw [List.take_append_drop]; rfl
  rw [h1, certF_app, List.length_take, Nat.zero_add, show min c l.length = c by omega, List.drop_eq_getElem_cons hc, e]
  rfl
theorem cert_named {l : List Wy} {c : Nat} {x : Wy} (hx : l[c]? = some x) : (x.how ≠ 0 → (certP l)[(certF (l.take c) 0).length]? = some ⟨(c : Int), x.how, x.finds⟩ ∧ (certF (l.take (c + 1)) 0).length = (certF (l.take c) 0).length + 1) ∧
    (x.how = 0 → (∀ y, (certP l)[(certF (l.take c) 0).length]? = some y → y.con ≠ c) ∧ (certF (l.take (c + 1)) 0).length = (certF (l.take c) 0).length) := by
  have hs := cert_split hx
  have hc := (List.getElem?_eq_some_iff.1 hx).1
  have hT : certF (l.take (c + 1)) 0 = certF (l.take c) 0 ++ certF [x] c := by
    rw [take_next hx, certF_app, List.length_take, Nat.zero_add, show min c l.length = c by omega]
  constructor
  · intro h
    rw [hs, if_neg h, hT]
    refine ⟨by rw [List.getElem?_append_right (Nat.le_refl _), Nat.sub_self]; rfl, ?_⟩
    rw [List.length_append, certF, if_neg h]
    rfl
  · intro h
    rw [hs, if_pos h, hT]
    refine ⟨fun y hy => ?_, ?_⟩
    · rw [List.getElem?_append_right (Nat.le_refl _), Nat.sub_self] at hy
      have := certF_con _ _ y (List.mem_of_getElem? hy)
      omega
    · rw [List.length_append, certF, if_pos h]
      rfl
theorem best0 (a : Ap) : bestW a 0 = ⟨0, 0⟩ := rfl
theorem best1 (a : Ap) : (bestW a 1).how ≠ 0 := by
  show (pickO [_, _, _]).how ≠ 0
  simp only [pickO]
  repeat' split
  all_goals decide
theorem long_c (w : World) (a : Ap) (s : Sl) (h : Rd w cb 1 s a.types) (hs : s.len ≤ s.cap) :
    callC Try.prog 6 #[pfv (pfOf a s)] (fun (r : Bool) => .bool r) w fun r w' => r = true ∧ Quiet w w' := by
  refine D6 _ _ _ _ _ _ _ _ _ _ _ _ _ _ _ _ _ _ _ _ _ _ w _ ?_
  unfold F6
  refine nwL fun b9 W hb9 q0 _ _ _ => ?_
  have hb9 : IsPf W b9 (pfOf a s) := hb9
  have hA : ∀ w', Quiet W w' → AtC w' (Addr.mk b9 0 none) (pf (pfOf a s)) := fun w' q => (hb9.keepQ q).at
  replace h := h.keepQ q0
  refine (small_c W).use ?_
  rintro _ w2 ⟨rfl, q⟩
  refine pf_ld (hA _ q) ((fewp_c w2 a s (h.keepQ q)).use ?_)
  rintro r33 w3 ⟨_, q3⟩
  replace q := q.tr q3
  refine jn_orW (W := W) (v := !decide (CheckA a = 0)) q (fun _ => pf_ld (hA _ q) ((check_c w3 a s (h.keepQ q) hs).use ?_)) fun w5 q => ⟨fun _ => ⟨rfl, q0.tr q⟩, fun g => ?_⟩
  · rintro _ w4 ⟨rfl, q4⟩
    exact ⟨rfl, q.tr q4⟩
  simp only [Bool.or_eq_false_iff, Bool.not_eq_false', decide_eq_true_eq] at g
  have hC := g.2
  refine pf_ld (hA _ q) ((compile_c w5 a s (h.keepQ q) hs).use ?_)
  rintro ⟨r83, e83⟩ w6 ⟨he, _, ho, q6⟩
  dsimp only at he ho ⊢
  rw [hC] at he
  subst he
  obtain ⟨F, ob, _⟩ := ho hC
  have rb := ob.rd wy_len (by decide)
  clear ho ob
  replace q := q.tr q6
  refine pf_ld (hA _ q) ((certified_c w6 a s (h.keepQ q) hs).use ?_)
  rintro ⟨r106, e106⟩ w7 ⟨he, hr, _, q7⟩
  dsimp only at he hr ⊢
  subst he
  have hl := hr hC
  clear hr
  replace q := q.tr q7
  replace rb := rb.keepQ q7
  have rbl := rb.len
  rw [bestL_len] at rbl
  have hll := hl.len
  have hb1 : (bestL a)[1]? = some (bestW a 1) := bestL_at a (by decide)
  have hb0 : (bestL a)[0]? = some (bestW a 0) := bestL_at a (by decide)
  have h0 : (certP (bestL a))[0]? = some ⟨1, (bestW a 1).how, (bestW a 1).finds⟩ := ((cert_named hb1).1 (best1 a)).1
  have hpos := (List.getElem?_eq_some_iff.1 h0).1
  have hcl : (certP (bestL a)).length ≤ 9 := by
    have := certF_len (bestL a) 0
    rw [bestL_len] at this
    exact this
  refine ⟨fun g => ?_, fun _ => ?_⟩
  · rw [decide_eq_true hC, rbl] at g
    simp at g
    omega
  refine ⟨fun (c : Int × Int) w' => 0 ≤ c.2 ∧ c.2 ≤ 9 ∧ c.1 = ((certF ((bestL a).take c.2.toNat) 0).length : Int) ∧ Quiet w7 w', fun c _ => (9 - c.2).toNat, ⟨by simp, by simp, by simp [certF], Only.refl _ _⟩, ?_⟩
  rintro ⟨at_, i⟩ w8 ⟨i0, i1, ha, q8⟩
  dsimp only at i0 i1 ha ⊢
  have hl8 := hl.keepQ q8
  have rb8 := rb.keepQ q8
  refine ⟨fun hi => ?_, fun hi => ?_⟩
  rotate_left
  · have hi : ¬ i < (r83.len : Int) := of_decide_eq_false hi
    rw [List.take_of_length_le (by rw [bestL_len]; omega)] at ha
    have e1 : (at_ : Int) = (r106.len : Int) := by
      rw [ha, hll]
      rfl
    refine jp_and (v := true) (fun _ J hJ => hl8.ixx (i := 0) (by omega) h0 fun p hat _ => hat.ld (j := 0) rfl (by simpa using hJ)) ?_
    refine jp_and (v := true) (fun _ J hJ => rb8.ixx (i := 0) (by omega) hb0 fun p hat _ => hat.ld (j := 0) rfl (by rw [best0]; simpa using hJ)) ⟨?_, q0.tr (q.tr q8)⟩
    simp [e1]
  have hi : i < (r83.len : Int) := of_decide_eq_true hi
  have hi9 : i.toNat < 9 := by omega
  have hic : ((i.toNat : Nat) : Int) = i := Int.toNat_of_nonneg i0
  have hx : (bestL a)[i.toNat]? = some (bestW a i) := by rw [bestL_at a hi9, hic]
  obtain ⟨n1, n2⟩ := cert_named hx
  have hle : (certF ((bestL a).take i.toNat) 0).length ≤ (certP (bestL a)).length := by
    rw [cert_split hx, List.length_append]
    omega
  -- whether the construct has a line
  have hnamed : jp (fun J118 => cnd (decide (at_ < (r106.len : Int))) (ix r106 (min at_ (IntKind.i64.wrap ((r106.len : Int) - 1))) 3 fun p120 => ld (Value.int .i64) (p120.add 0) w8 fun x121 => J118 (decide (x121 = i))) (J118 false)) fun r => r = !decide ((bestW a i).how = 0) := by
    refine jp.val (!decide ((bestW a i).how = 0)) ⟨fun e => ?_, fun e => ?_⟩ rfl
    · have e : at_ < (r106.len : Int) := of_decide_eq_true e
      rw [w64 (by omega) (by omega), show min at_ ((r106.len : Int) - 1) = at_ by omega]
      obtain ⟨y, hy⟩ := getq (l := certP (bestL a)) (i := at_) (by omega) (by omega)
      refine hl8.ixx (by omega) hy fun p hat _ => hat.ld (j := 0) rfl ?_
      rw [show at_.toNat = (certF ((bestL a).take i.toNat) 0).length by omega] at hy
      by_cases e0 : (bestW a i).how = 0
      · have := (n2 e0).1 y hy
        rw [hic] at this
        simp [e0, this]
      · have := (n1 e0).1
        rw [hy] at this
        injection this with this
        rw [this]
        simp [e0, hic]
    · have e : ¬ at_ < (r106.len : Int) := of_decide_eq_false e
      by_cases e0 : (bestW a i).how = 0
      · simp [e0]
      · have := (List.getElem?_eq_some_iff.1 (n1 e0).1).1
        omega
  refine jn.mk (fun r w' => r = ((certF ((bestL a).take (i.toNat + 1)) 0).length : Int) ∧ Quiet w7 w') ?_ ?_
  rotate_left
  · rintro _ w9 ⟨rfl, q9⟩
    rw [w64 (by omega) (by omega)]
    refine ⟨⟨by (try dsimp only); omega, by (try dsimp only); omega, ?_, q9⟩, by (try dsimp only); omega⟩
    rw [toNat_succ i0]
  obtain ⟨R, hR1, hR2⟩ := hnamed
  refine ⟨R, hR1, fun c122 hc => ?_⟩
  obtain rfl := hR2 c122 hc
  refine rb8.ixx i0 hx fun p hat _ => hat.ld (j := 0) rfl ⟨fun g => by simp at g, fun _ => ⟨fun g => ?_, fun g => ?_⟩⟩
  · have e0 : (bestW a i).how = 0 := by simpa using g
    exact ⟨by rw [ha, (n2 e0).2], q8⟩
  · have e0 : (bestW a i).how ≠ 0 := by simpa using g
    obtain ⟨m1, m2⟩ := n1 e0
    rw [← show at_.toNat = (certF ((bestL a).take i.toNat) 0).length by omega] at m1
    refine jn_any' (W := w7) false ?_ fun w11 q11 => ⟨fun g => (by cases g), fun _ => ?_⟩
    · show tk _ _
      unfold tk
      replace q8 := q8.tr (Only.drew (fun _ => False) _)
      have hl8 := hl.keepQ q8
      have rb8 := rb.keepQ q8
      refine hl8.ixx (by omega) m1 fun p hat _ => hat.ld (j := 1) rfl (rb8.ixx i0 hx fun p hat _ => hat.ld (j := 0) rfl ⟨fun g => by simp at g, fun _ => ?_⟩)
      exact hl8.ixx (by omega) m1 fun p hat _ => hat.ld (j := 2) rfl (rb8.ixx i0 hx fun p hat _ => hat.ld (j := 1) rfl ⟨by simp, q8⟩)
    · rw [w64 (by omega) (by omega)]
      exact ⟨by omega, q11⟩
theorem long (W : World) (x : Pf) (ty : List ByteArray) (h : Rd W cb 1 x.types ty) (hs : x.types.len ≤ x.types.cap) :
    callC Try.prog 6 #[pfv x] (fun (r : Bool) => .bool r) W fun r w' => r = true ∧ Below W.heap.size W w' :=
  (long_c W (apOf x ty) x.types h hs).use fun _ _ h => ⟨h.1, bq h.2⟩
end Go.Proofs.Ytnoahloppffndaa
