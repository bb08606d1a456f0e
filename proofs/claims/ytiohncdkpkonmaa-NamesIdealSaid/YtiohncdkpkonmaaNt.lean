import Derived.Test.YtiohncdkpkonmaaNm
namespace Go.Proofs.Ytiohncdkpkonmaa
open Go.Dec Go.RowKit
set_option maxHeartbeats 400000

theorem few_c (W w : World) (s : Sl) (l : List ByteArray) (n : Int) (h : Arg W cs 1 s l) (hb : Below W.heap.size W w) (hn : 0 ≤ n) (hm : n ≤ 1000) (hl : l.length ≤ 9223372036854775807) :
    callC Try.prog 8 #[s.v, .int .i64 n] (fun (r : Bool) => .bool r) w fun r w' => (r = true → (l.length : Int) ≤ n ∧ ∀ p ∈ l, p.size ≤ 200) ∧ w = w' := by
  have hsl := h.len
  refine D8 _ _ w _ ?_
  unfold F8
  refine ⟨fun i w' => 0 ≤ i ∧ i ≤ l.length ∧ (∀ (j : Nat) p, (j : Int) < i → l[j]? = some p → p.size ≤ 200) ∧ w = w', fun i _ => (l.length - i).toNat, ⟨by omega, by omega, fun j p hj => by omega, rfl⟩, ?_⟩
  rintro i w' ⟨i0, i1, hs, rfl⟩
  refine ⟨fun hc => ?_, fun hc => ?_⟩
  · have hc' : i < l.length ∧ i ≤ n := by simpa [hsl] using hc
    obtain ⟨x, hx⟩ := getq i0 hc'.1
    refine h.ixx i0 hx fun p hat => (hat w hb).ld0 rfl ⟨fun hb => ⟨fun e => (by cases e), rfl⟩, fun hb => ?_⟩
    have hb' : x.size ≤ 200 := by simp at hb; omega
    rw [w64 (by omega) (by omega)]
    refine ⟨⟨by omega, by omega, fun j p hj hp => ?_, rfl⟩, by (try dsimp only); omega⟩
    by_cases e : (j : Int) < i
    · exact hs j p e hp
    · have : j = i.toNat := by omega
      subst this
      rw [hx] at hp
      injection hp with hp
      subst hp
      exact hb'
  · have hc' : ¬ (i < l.length ∧ i ≤ n) := by simpa [hsl] using hc
    refine ⟨fun hr => ?_, rfl⟩
    have hr' : (l.length : Int) ≤ n := by simpa [hsl] using hr
    refine ⟨hr', fun p hp => ?_⟩
    obtain ⟨j, hj, rfl⟩ := List.getElem_of_mem hp
    exact hs j _ (by omega) (List.getElem?_eq_getElem hj)

theorem strings_c (w : World) (s t : Sl) (a b : List ByteArray) (ha : Rd w cs 1 s a) (hb : Rd w cs 1 t b) (hl : a.length ≤ 1000000) :
    callC Try.prog 20 #[s.v, t.v] (fun (r : Bool) => .bool r) w fun r w' => r = decide (a = b) ∧ Quiet w w' := by
  have hsl := ha.len
  have htl := hb.len
  refine D20 _ _ w _ ?_
  unfold F20
  refine ⟨fun hc => ?_, fun hc => ?_⟩
  · have : a ≠ b := fun e => by simp [hsl, htl, e] at hc
    simp [this, Only.refl]
  have hlen : a.length = b.length := by rw [hsl, htl] at hc; simp at hc; omega
  refine ⟨fun i w' => 0 ≤ i ∧ i ≤ a.length ∧ a.take i.toNat = b.take i.toNat ∧ Quiet w w', fun i _ => (a.length - i).toNat, ⟨by omega, by omega, by simp, Only.refl _ _⟩, ?_⟩
  rintro i w1 ⟨i0, i1, he, q1⟩
  refine ⟨fun hi => ?_, fun hi => ?_⟩
  · have hlt : i < a.length := by simpa [hsl] using hi
    obtain ⟨x, hx⟩ := getq i0 hlt
    obtain ⟨y, hy⟩ := getq (l := b) i0 (by omega)
    refine jn.mk (fun c w' => c = !decide (x = y) ∧ Quiet w w') ?_ ?_
    · show tk w1 _
      unfold tk
      have q2 : Quiet w w1.drew := q1.tr (Only.drew _ _)
      refine (ha.keepQ q2).ixx i0 hx fun p hat _ => hat.ld0 rfl ((hb.keepQ q2).ixx i0 hy fun p' hat' _ => hat'.ld0 rfl ?_)
      exact ⟨by rw [beqS_eq], q2⟩
    · rintro c w3 ⟨rfl, q3⟩
      refine ⟨fun hc => ?_, fun hc => ?_⟩
      · have hne : x ≠ y := by simpa using hc
        have : a ≠ b := fun e => by rw [e, hy] at hx; injection hx with hx; exact hne hx.symm
        simp [this, q3]
      · have heq : x = y := by simpa using hc
        rw [w64 (by omega) (by omega)]
        refine ⟨⟨by omega, by omega, ?_, q3⟩, by (try dsimp only); omega⟩
        rw [show (i + 1).toNat = i.toNat + 1 by omega, take_next hx, take_next hy, he, heq]
  · have hge : a.length ≤ i.toNat := by simp [hsl] at hi; omega
    rw [List.take_of_length_le hge, List.take_of_length_le (by omega)] at he
    simp [he, q1]

/-! ### open -/
def openP (l : List ByteArray) : Option (List ByteArray) × Int := if l.any (fun s => decide (65536 < s.size)) = true then (none, 1) else if l.Nodup then (some l, 0) else (none, 5)
theorem big_of {l : List ByteArray} {x : ByteArray} {i : Nat} (hx : l[i]? = some x) (h : 65536 < x.size) : openP l = (none, 1) := by
  unfold openP
  rw [if_pos]
  rw [List.any_eq_true]
  exact ⟨x, List.mem_of_getElem? hx, decide_eq_true h⟩
theorem any_take {l : List ByteArray} (h : ∀ (j : Nat) x, j < l.length → l[j]? = some x → x.size ≤ 65536) : l.any (fun s => decide (65536 < s.size)) = false := by
  rw [List.any_eq_false]
  intro x hx
  obtain ⟨j, hj, rfl⟩ := List.getElem_of_mem hx
  have := h j _ hj (List.getElem?_eq_getElem hj)
  simp
  omega
theorem nodup_take_next {l : List ByteArray} {j : Nat} {x : ByteArray} (h : l[j]? = some x) : (l.take (j + 1)).Nodup ↔ (l.take j).Nodup ∧ x ∉ l.take j := by
  rw [take_next h, List.nodup_append]
  constructor
  · rintro ⟨h1, _, h3⟩
    exact ⟨h1, fun e => h3 x e x (by simp) rfl⟩
  · rintro ⟨h1, h2⟩
    refine ⟨h1, by simp, fun a ha b hb e => ?_⟩
    simp at hb
    subst hb
    subst e
    exact h2 ha

theorem open_c (w : World) (s : Sl) (l : List ByteArray) (h : Rd w cs 1 s l) (hl : l.length ≤ 100000) :
    callC Try.prog 9 #[s.v] (fun (r : Option Addr × Int) => .tuple #[.pointer r.1, .int .i64 r.2]) w fun r w' => r.2 = (openP l).2 ∧ Quiet w w' ∧
      match (openP l).1 with
      | none => r.1 = none
      | some L => ∃ nb F, r.1 = some ⟨nb, 0, none⟩ ∧ IsN w' F nb L ∧ Fresh w w' F := by
  have hsl := h.len
  refine D9 _ w _ ?_
  unfold F9
  refine (new_c w).use ?_
  rintro r1 w1 ⟨nb, F0, rfl, n0, f0⟩
  refine ⟨fun (c : Int × Int) w' => 0 ≤ c.2 ∧ c.2 ≤ l.length ∧ (∀ (j : Nat) x, (j : Int) < c.2 → l[j]? = some x → x.size ≤ 65536) ∧ ∃ F L, IsN w' F nb L ∧ Fresh w w' F ∧ (L.length : Int) ≤ c.2 ∧ ((c.1 = 0 ∧ L = l.take c.2.toNat ∧ (l.take c.2.toNat).Nodup) ∨ (c.1 = 5 ∧ ¬ (l.take c.2.toNat).Nodup)), fun c _ => (l.length - c.2).toNat, ⟨by simp, by simp, fun j x hj => by simp at hj; omega, F0, [], n0, f0, by simp, .inl ⟨rfl, by simp, by simp⟩⟩, ?_⟩
  rintro ⟨err, i⟩ w2 ⟨i0, i1, hs, F, L, hN, hF, hLl, hE⟩
  dsimp only at i0 i1 hs hLl hE ⊢
  refine ⟨fun hi => ?_, fun hi => ?_⟩
  · have hlt : i < l.length := by simpa [hsl] using hi
    obtain ⟨x, hx⟩ := getq i0 hlt
    refine jn.mk (fun (c : Int) w' => x.size ≤ 65536 ∧ ∃ F L, IsN w' F nb L ∧ Fresh w w' F ∧ (L.length : Int) ≤ i + 1 ∧ ((c = 0 ∧ L = l.take (i.toNat + 1) ∧ (l.take (i.toNat + 1)).Nodup) ∨ (c = 5 ∧ ¬ (l.take (i.toNat + 1)).Nodup))) ?_ ?_
    · refine (h.keepQ hF.q).ixx i0 hx fun p hat _ => hat.ld0 rfl ⟨fun hc => ?_, fun hc => ?_⟩
      · have : 65536 < x.size := by simp at hc; omega
        rw [big_of hx this]
        exact ⟨rfl, hF.q, rfl⟩
      have hsz : ¬ 65536 < x.size := by simp at hc; omega
      refine (of_c w2 F nb L x hN (by omega)).use ?_
      rintro r9 w4 ⟨rfl, F', hN', st'⟩
      have hol := ofP_len L x
      have hnx := nodup_take_next hx
      have fin : ∀ c : Int, ((c = 0 ∧ (ofP L x).1 = l.take (i.toNat + 1) ∧ (l.take (i.toNat + 1)).Nodup) ∨ (c = 5 ∧ ¬ (l.take (i.toNat + 1)).Nodup)) → x.size ≤ 65536 ∧ ∃ F L, IsN w4 F nb L ∧ Fresh w w4 F ∧ (L.length : Int) ≤ i + 1 ∧ ((c = 0 ∧ L = l.take (i.toNat + 1) ∧ (l.take (i.toNat + 1)).Nodup) ∨ (c = 5 ∧ ¬ (l.take (i.toNat + 1)).Nodup)) := fun c hc => ⟨by omega, F', _, hN', hF.stp st', by omega, hc⟩
      have htl : (l.take i.toNat).length = i.toNat := by rw [List.length_take]; omega
      rcases hE with ⟨rfl, rfl, hnd⟩ | ⟨rfl, hnd⟩
      · have e : ofP (l.take i.toNat) x = match pos (l.take i.toNat) x with | some j => (l.take i.toNat, (j : Int)) | none => (l.take i.toNat ++ [x], ((l.take i.toNat).length : Int)) := by
          unfold ofP
          rw [if_neg hsz]
          cases pos (l.take i.toNat) x <;> rfl
        cases hp : pos (l.take i.toNat) x with
        | none =>
          rw [hp] at e
          dsimp only at e
          have hxn := pos_none.1 hp
          refine ⟨fun hc => ?_, fun _ => fin 0 (.inl ⟨rfl, by rw [e, take_next hx], hnx.2 ⟨hnd, hxn⟩⟩)⟩
          rw [e] at hc
          simp [htl] at hc
          omega
        | some j =>
          have hj := pos_lt hp
          have hxm := List.mem_of_getElem? (pos_some hp)
          rw [hp] at e
          dsimp only at e
          refine ⟨fun _ => fin 5 (.inr ⟨rfl, fun e => (hnx.1 e).2 hxm⟩), fun hc => ?_⟩
          rw [e] at hc
          simp at hc
          omega
      · exact ⟨fun _ => fin 5 (.inr ⟨rfl, fun e => hnd (hnx.1 e).1⟩), fun _ => fin 5 (.inr ⟨rfl, fun e => hnd (hnx.1 e).1⟩)⟩
    · rintro c w3 ⟨hsz, F', L', h1, h2, h3, h4⟩
      rw [w64 (by omega) (by omega)]
      refine ⟨⟨by (try dsimp only); omega, by (try dsimp only); omega, fun j y hj hy => ?_, F', L', h1, h2, h3, ?_⟩, by (try dsimp only); omega⟩
      · by_cases e : (j : Int) < i
        · exact hs j y e hy
        · have : j = i.toNat := by (try dsimp only at hj); omega
          subst this
          rw [hx] at hy
          injection hy with hy
          subst hy
          exact hsz
      · rw [show (c, i + 1).2.toNat = i.toNat + 1 by (try dsimp only); omega]
        exact h4
  · have hge : l.length ≤ i.toNat := by simp [hsl] at hi; omega
    have hany := any_take fun j x hj hx => hs j x (by omega) hx
    rw [List.take_of_length_le hge] at hE
    unfold openP
    rw [if_neg (by rw [hany]; decide)]
    rcases hE with ⟨rfl, rfl, hnd⟩ | ⟨rfl, hnd⟩
    · rw [if_pos hnd]
      exact ⟨fun hc => absurd hc (by simp), fun _ => ⟨rfl, hF.q, nb, F, rfl, hN, hF⟩⟩
    · rw [if_neg hnd]
      exact ⟨fun _ => ⟨rfl, hF.q, rfl⟩, fun hc => absurd hc (by simp)⟩

theorem ropen_c (w : World) (s : Sl) (l : List ByteArray) (h : Rd w cs 1 s l) (hl : l.length ≤ 100000) :
    callC Try.prog 11 #[s.v] (fun (r : Option Addr × Int) => .tuple #[.pointer r.1, .int .i64 r.2]) w fun r w' => r.2 = (openP l).2 ∧ Quiet w w' ∧
      match (openP l).1 with
      | none => r.1 = none
      | some L => ∃ nb F, r.1 = some ⟨nb, 0, none⟩ ∧ IsR w' F nb L ∧ Fresh w w' F := by
  have hsl := h.len
  refine D11 _ w _ ?_
  unfold F11
  refine ⟨fun i w' => 0 ≤ i ∧ i ≤ l.length ∧ (∀ (j : Nat) x, (j : Int) < i → l[j]? = some x → x.size ≤ 65536) ∧ w = w', fun i _ => (l.length - i).toNat, ⟨by omega, by omega, fun j x hj => by omega, rfl⟩, ?_⟩
  rintro i w1 ⟨i0, i1, hs, rfl⟩
  refine ⟨fun hi => ?_, fun hi => ?_⟩
  · have hlt : i < l.length := by simpa [hsl] using hi
    obtain ⟨x, hx⟩ := getq i0 hlt
    refine h.ixx i0 hx fun p hat _ => hat.ld0 rfl ⟨fun hc => ?_, fun hc => ?_⟩
    · have : 65536 < x.size := by simp at hc; omega
      rw [big_of hx this]
      exact ⟨rfl, Only.refl _ _, rfl⟩
    have hsz : ¬ 65536 < x.size := by simp at hc; omega
    rw [w64 (by omega) (by omega)]
    refine ⟨⟨by omega, by omega, fun j y hj hy => ?_, rfl⟩, by (try dsimp only); omega⟩
    by_cases e : (j : Int) < i
    · exact hs j y e hy
    · have : j = i.toNat := by omega
      subst this
      rw [hx] at hy
      injection hy with hy
      subst hy
      omega
  have hge : l.length ≤ i.toNat := by simp [hsl] at hi; omega
  have hany := any_take fun j x hj hx => hs j x (by omega) hx
  clear hi i0 i1
  have hop : openP l = if l.Nodup then (some l, 0) else (none, 5) := by
    unfold openP
    rw [if_neg (by rw [hany]; decide)]
  refine (rnew_c w).use ?_
  rintro r6 w2 ⟨nb, F0, rfl, n0, f0⟩
  refine ⟨fun i w' => 0 ≤ i ∧ i ≤ l.length ∧ (l.take i.toNat).Nodup ∧ ∃ F, IsR w' F nb (l.take i.toNat) ∧ Fresh w w' F, fun i _ => (l.length - i).toNat, ⟨by omega, by omega, by simp, F0, by simpa using n0, f0⟩, ?_⟩
  rintro i w3 ⟨i0, i1, hnd, F, hN, hF⟩
  refine ⟨fun hi => ?_, fun hi => ?_⟩
  · have hlt : i < l.length := by simpa [hsl] using hi
    obtain ⟨x, hx⟩ := getq i0 hlt
    have hnx := nodup_take_next hx
    have htl : (l.take i.toNat).length = i.toNat := by rw [List.length_take]; omega
    refine (h.keepQ hF.q).ixx i0 hx fun p hat _ => hat.ld0 rfl ((at_c w3 F nb _ x hN (by omega)).use ?_)
    rintro r11 w4 ⟨rfl, rfl⟩
    cases hp : pos (l.take i.toNat) x with
    | some j =>
      have hxm := List.mem_of_getElem? (pos_some hp)
      refine ⟨fun _ => ?_, fun hc => absurd hc (by simp)⟩
      have hno : ¬ l.Nodup := fun e => (hnx.1 (e.sublist (List.take_sublist _ _))).2 hxm
      rw [hop, if_neg hno]
      exact ⟨rfl, hF.q, rfl⟩
    | none =>
      have hxn := pos_none.1 hp
      refine ⟨fun hc => absurd hc (by simp), fun _ => ?_⟩
      obtain ⟨ts, h1, h2, h3⟩ := hN.ex
      have htsl := (h2.rd cs1 (by decide)).len
      refine jn.mk (fun _ w' => ∃ F, IsR w' F nb (l.take (i.toNat + 1)) ∧ Fresh w w' F) ?_ ?_
      · show tk w3 _
        unfold tk
        have qd : Quiet w3 w3.drew := Only.drew _ _
        have b1 := h1.keepQ qd
        have o1 := h2.keepQ qd
        refine nn_ (b1.ld (x := ts) rfl ((h.keepQ (hF.q.tr qd)).ixx i0 hx fun p hat _ => hat.ld0 rfl ?_))
        refine nwL fun b19 w6 hb19 q6 g6 s6 l6 => ⟨(b1.keepQ q6).ld0' rfl, ?_⟩
        have o6 := o1.keepQ q6
        refine Own.append ap22 o6.own (u := ⟨some ⟨b19, 0, none⟩, 1, 1⟩) ⟨_, rfl, fun j u hu => by rw [mk_add, hb19.cell]; simpa [cs] using hu⟩ (news := cs x) rfl rfl (by dsimp only; unfold maxLen; omega) (by dsimp only; omega) fun r w7 ho hl hon hbk => ?_
        have b7 := (b1.keepQ q6).keep hon fun e => o6.own.ne_blk (b1.keepQ q6) (by decide) e
        refine nn_ (b7.st (by simp) fun w8 b8 on8 s8 => ?_)
        have hrow := ho.ne_blk b7 (by decide)
        have ho8 := ho.keep on8 fun b hb e => hrow (by rw [hb, e])
        have on := ((qd.trans q6).trans hon).trans on8
        have sq := (qd.tr q6).size
        refine ⟨gro F w3 w8, ⟨⟨r, b8, ⟨?_, fun b hb => ?_⟩, .inl h3⟩, gro_lt hN.lt on.size⟩, hF.stp (Stp.gro on ?_)⟩
        · rw [take_next hx]
          simpa using ho8
        · rcases hbk with e | e
          · exact .inl (h2.blk b (by rw [← e]; exact hb))
          · rw [hb] at e
            injection e with e
            subst e
            have := ho8.lt hb
            exact .inr ⟨sq, this⟩
        · rintro b ((e | e) | e)
          · rcases e with e | e <;> exact e.elim
          · exact h2.blk b e
          · exact e ▸ h3
      · rintro _ w9 ⟨F', h1, h2⟩
        rw [w64 (by omega) (by omega)]
        refine ⟨⟨by omega, by omega, ?_, F', ?_, h2⟩, by (try dsimp only); omega⟩
        · rw [show (i + 1).toNat = i.toNat + 1 by omega]
          exact hnx.2 ⟨hnd, hxn⟩
        · rw [show (i + 1).toNat = i.toNat + 1 by omega]
          exact h1
  · have hge : l.length ≤ i.toNat := by simp [hsl] at hi; omega
    rw [List.take_of_length_le hge] at hnd hN
    rw [hop, if_pos hnd]
    exact ⟨rfl, hF.q, nb, F, rfl, hN, hF⟩

theorem rd1 {w : World} {b : Nat} {x : ByteArray} (h : Blk w b 9 #[.string x]) : Rd w cs 1 (⟨some ⟨b, 0, none⟩, 1, 1⟩ : Sl) [x] := by
  refine ⟨rfl, fun i y hy => ⟨_, rfl, fun j u hu => ?_⟩⟩
  match i, hy with
  | 0, hy =>
    cases hy
    match j, hu with
    | 0, hu =>
      cases hu
      rw [mk_add, mk_add, h.cell]
      rfl
    | j + 1, hu => simp [cs] at hu
  | i + 1, hy => simp at hy
theorem rd3 {w : World} {b : Nat} {x y z : ByteArray} (h : Blk w b 9 #[.string x, .string y, .string z]) : Rd w cs 1 (⟨some ⟨b, 0, none⟩, 3, 3⟩ : Sl) [x, y, z] := by
  have key : ∀ (i : Nat) (u : ByteArray), [x, y, z][i]? = some u → AtC w ((Addr.mk b 0 none).add (i * 1)) (cs u) := fun i u hu j v hv => by
    match j, hv with
    | 0, hv =>
      cases hv
      rw [mk_add, mk_add, h.cell]
      match i, hu with
      | 0, hu => cases hu; rfl
      | 1, hu => cases hu; rfl
      | 2, hu => cases hu; rfl
      | i + 3, hu => simp at hu
    | j + 1, hv => simp [cs] at hv
  exact ⟨rfl, fun i u hu => ⟨_, rfl, key i u hu⟩⟩

theorem small_c (w : World) : callC Try.prog 7 #[] (fun (r : Bool) => .bool r) w fun r w' => r = true ∧ Quiet w w' := by
  refine D7 w _ ?_
  unfold F7
  refine (new_c w).use ?_
  rintro r1 w1 ⟨nb, F1, rfl, n1, f1⟩
  refine ⟨fun hc => absurd hc (by simp), fun _ => ?_⟩
  refine (of_c w1 F1 nb _ _ n1 (by decide)).use ?_
  rintro r3 w2 ⟨rfl, F2, n2, s2⟩
  have f2 := f1.stp s2
  have e1 : ofP [] (ByteArray.mk #[97]) = ([ByteArray.mk #[97]], 0) := by decide
  rw [e1] at n2 ⊢
  refine jn.mk (fun c w' => c = true ∧ ∃ F, IsN w' F nb [ByteArray.mk #[97], ByteArray.mk #[98]] ∧ Fresh w w' F) ⟨fun _ => (of_c w2 F2 nb _ _ n2 (by decide)).use ?_, fun hc => absurd hc (by decide)⟩ ?_
  · have e2 : ofP [ByteArray.mk #[97]] (ByteArray.mk #[98]) = ([ByteArray.mk #[97], ByteArray.mk #[98]], 1) := by decide
    rw [e2]
    rintro r w3 ⟨rfl, F, h1, h2⟩
    exact ⟨by decide, F, h1, f2.stp h2⟩
  rintro c w4 ⟨rfl, F4, n4, f4⟩
  refine jn.mk (fun c w' => c = true ∧ ∃ F, IsN w' F nb [ByteArray.mk #[97], ByteArray.mk #[98]] ∧ Fresh w w' F) ⟨fun _ => (of_c w4 F4 nb _ _ n4 (by decide)).use ?_, fun hc => absurd hc (by decide)⟩ ?_
  · have e2 : ofP [ByteArray.mk #[97], ByteArray.mk #[98]] (ByteArray.mk #[97]) = ([ByteArray.mk #[97], ByteArray.mk #[98]], 0) := by decide
    rw [e2]
    rintro r w3 ⟨rfl, F, h1, h2⟩
    exact ⟨by decide, F, h1, f4.stp h2⟩
  rintro c w6 ⟨rfl, F6, n6, f6⟩
  refine jn.mk (fun c w' => c = true ∧ ∃ F, IsN w' F nb [ByteArray.mk #[97], ByteArray.mk #[98], ByteArray.mk #[]] ∧ Fresh w w' F) ⟨fun _ => (of_c w6 F6 nb _ _ n6 (by decide)).use ?_, fun hc => absurd hc (by decide)⟩ ?_
  · have e2 : ofP [ByteArray.mk #[97], ByteArray.mk #[98]] (ByteArray.mk #[]) = ([ByteArray.mk #[97], ByteArray.mk #[98], ByteArray.mk #[]], 2) := by decide
    rw [e2]
    rintro r w3 ⟨rfl, F, h1, h2⟩
    exact ⟨by decide, F, h1, f6.stp h2⟩
  rintro c w8 ⟨rfl, F8, n8, f8⟩
  refine (text_c w8 F8 nb _ 1 n8).use ?_
  rintro r16 w9 ⟨rfl, rfl⟩
  refine (text_c w8 F8 nb _ 3 n8).use ?_
  rintro r17 w9 ⟨rfl, rfl⟩
  refine (text_c w8 F8 nb _ (-1) n8).use ?_
  rintro r18 w9 ⟨rfl, rfl⟩
  have t1 : textP [ByteArray.mk #[97], ByteArray.mk #[98], ByteArray.mk #[]] 1 = (ByteArray.mk #[98], true) := by decide
  have t2 : textP [ByteArray.mk #[97], ByteArray.mk #[98], ByteArray.mk #[]] 3 = (ByteArray.mk #[], false) := by decide
  have t3 : textP [ByteArray.mk #[97], ByteArray.mk #[98], ByteArray.mk #[]] (-1) = (ByteArray.mk #[], false) := by decide
  rw [t1, t2, t3]
  refine nwL fun b19 w12 hb q12 _ _ _ => ?_
  refine (open_c w12 _ _ (rd3 hb) (by decide)).use ?_
  have eo : openP [ByteArray.mk #[120], ByteArray.mk #[121], ByteArray.mk #[120]] = (none, 5) := by decide
  rw [eo]
  rintro ⟨ra, re⟩ w13 ⟨h1, q13, h2⟩
  dsimp only at h1 h2
  subst h1 h2
  have n13 := (n8.keepQ q12).keepQ q13
  have f13 := (f8.keep q12).keep q13
  refine jn.mk (fun c w' => c = true ∧ w13 = w') ⟨fun _ => (len_c w13 F8 nb _ n13).use ?_, fun hc => absurd hc (by simp [beqS_eq])⟩ ?_
  · rintro r w14 ⟨rfl, rfl⟩
    exact ⟨by decide, rfl⟩
  rintro c w15 ⟨rfl, rfl⟩
  refine jn.mk (fun c w' => c = true ∧ Quiet w w') ⟨fun _ => (long_c w13 65537).use ?_, fun hc => absurd hc (by decide)⟩ ?_
  · rintro r w16 ⟨rfl, q16⟩
    refine (of_c w16 F8 nb _ _ (n13.keepQ q16) (by decide)).use ?_
    have hs : 65536 < (longP 65537).size := by rw [longP_size]; decide
    unfold ofP
    rw [if_pos hs]
    rintro r w17 ⟨rfl, F, _, h2⟩
    exact ⟨by decide, ((f13.keep q16).stp h2).q⟩
  rintro c w18 ⟨rfl, q18⟩
  exact ⟨rfl, q18⟩
end Go.Proofs.Ytiohncdkpkonmaa
