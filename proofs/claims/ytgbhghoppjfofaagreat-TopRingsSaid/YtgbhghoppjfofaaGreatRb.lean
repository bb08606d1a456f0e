import Derived.Test.YtgbhghoppjfofaaGreatRa
import Derived.Test.YtgbhghoppjfofaaGreatShli
import Derived.Lib.SlKeysI
import Derived.Maps.Range
namespace Go.Proofs.YtgbhghoppjfofaaGreat
open Go.Dec Go.RowKit Go.Top
set_option maxHeartbeats 1000000
set_option maxRecDepth 10000

/-! ### the keys of a map of numbers, sorted -/
theorem sortsI (m : Nat) : AnyZI.SortsIn Tryz.prog Tryz.sortedI_ren Fence.wide m :=
  ⟨fun blk off cap ss W hH hblk hsz => callsIn_wide.2 (AnyM.slices_Sort_int Tryz.sortOI blk off cap ss W hH hblk hsz),
   fun p cap W => callsIn_wide.2 (AnyM.slices_Sort_int_none Tryz.sortOI p cap W)⟩
theorem keysI_c (w : World) (mb : Nat) : callC Tryz.prog 41 #[.map (some mb)] (fun (r : Value) => r) w fun r w' => r = .func (.func 65) #[] #[.pointer (some ⟨w.heap.size, 0, none⟩)] ∧ w' = w.alloc (.cells #[.map (some mb)] 78) := by
  have h := AnyZI.keys_in Tryz.keysI Fence.wide 5 trivial rfl (some mb) w
  change CallsIn _ _ Tryz.prog 41 _ _ _ at h
  refine Calls.mono ((callsIn_wide (n := 5)).1 h) ?_
  rintro e w' ⟨rfl, rfl⟩
  exact ⟨_, rfl, rfl, rfl⟩
theorem int_under : Tryz.prog.underlying 3 = some (.int .i64) := by kernel_rfl
theorem bool_under : Tryz.prog.underlying 4 = some .bool := by kernel_rfl
theorem keys_mem {w : World} {b n : Nat} {D : DataW Unit} {m : Int → Option Bool} (hown : w.ownsMap Tryz.prog 3 (plainElem Tryz.prog 4) b n D) (hm : Mp (Value.int .i64) Value.bool w b m) (x : Int) : x ∈ intKeys D ↔ (m x).isSome = true := by
  obtain ⟨es, clock, hb, F, _, rfl⟩ := hown
  obtain ⟨es2, clock2, hb2, he⟩ := hm
  rw [hb] at hb2
  injection hb2 with hb2
  injection hb2 with hb2 _
  subst hb2
  have key : ∀ e ∈ es.toList, ∃ a, e.key = .int .i64 a ∧ (Go.WideElems.rg Tryz.prog 3 (plainElem (H := Unit) Tryz.prog 4) e).1 = .int .i64 a := fun e he' => by
    obtain ⟨y, hy⟩ := F.reads e he'
    obtain ⟨a, h1, h2, _⟩ := Maps.keyOf_i64 int_under (Go.WideElems.rd_key hy)
    exact ⟨a, h1, by rw [Go.WideElems.rg_of hy]; exact h2⟩
  constructor
  · intro hx
    obtain ⟨p, hp, rfl⟩ := List.mem_map.1 hx
    obtain ⟨e, he', rfl⟩ := List.mem_map.1 (mem_sorted.1 hp)
    obtain ⟨a, h1, h2⟩ := key e he'
    obtain ⟨i, hi, rfl⟩ := List.getElem_of_mem he'
    obtain ⟨z, y, e1, _, e3⟩ := he.fwd i _ (by rw [← Array.getElem?_toList]; exact List.getElem?_eq_getElem hi)
    rw [h1] at e1
    injection e1 with _ e1
    rw [h2]
    show (m a).isSome = true
    rw [e1, e3]
    rfl
  · intro hx
    obtain ⟨y, hy⟩ := Option.isSome_iff_exists.1 hx
    obtain ⟨i, e, e1, e2, _⟩ := he.bwd x y hy
    have hem : e ∈ es.toList := by
      rw [← Array.getElem?_toList] at e1
      exact List.mem_of_getElem? e1
    obtain ⟨a, h1, h2⟩ := key e hem
    rw [e2] at h1
    injection h1 with _ h1
    refine List.mem_map.2 ⟨_, mem_sorted.2 (List.mem_map.2 ⟨e, hem, rfl⟩), ?_⟩
    rw [h2, ← h1]
    rfl
theorem keys_size {w : World} {b n : Nat} {D : DataW Unit} (hown : w.ownsMap Tryz.prog 3 (plainElem Tryz.prog 4) b n D) : Maps.size D ≤ n := by
  obtain ⟨es, clock, hb, F, hs, rfl⟩ := hown
  show ((es.toList.map _).foldr DataW.insert []).length ≤ n
  rw [length_sorted]
  simpa using hs
theorem sortedI_c (w : World) (b n : Nat) (D : DataW Unit) (m : Int → Option Bool) (hown : w.ownsMap Tryz.prog 3 (plainElem Tryz.prog 4) b n D) (hm : Mp (Value.int .i64) Value.bool w b m) (hn : n ≤ 1000) :
    callC Tryz.prog 40 #[.func (.func 65) #[] #[.pointer (some ⟨w.heap.size, 0, none⟩)]] Sl.v (w.alloc (.cells #[.map (some b)] 78)) fun r w' =>
      ∃ l : List Int, Rd w' ci 1 r l ∧ (∀ x, x ∈ l ↔ (m x).isSome = true) ∧ l.length ≤ 1000 ∧ Quiet w w' := by
  have hbl := hown.lt
  have hsz := keys_size hown
  have hmem := keys_mem hown hm
  have hseq : SeqGives Fence.wide 2 Tryz.prog 65 #[.pointer (some ⟨w.heap.size, 0, none⟩)] encZ (fun ss => ss.Perm (intKeys D)) (Maps.size D) (w.alloc (.cells #[.map (some b)] 78)) :=
    AnyZI.keys_gives (ρ := Tryz.keysI_ren) { Tryz.keysI with } Fence.wide _ trivial rfl (by omega) w.heap.size b n D _ (by simp) (by simp) (by
      obtain ⟨es, clock, hb, Ft, hs, hD⟩ := hown
      exact ⟨es, clock, (Below.heap_alloc _ _ b hbl).trans hb, Ft, hs, hD⟩)
  have cS := AnyZI.sorted_in Tryz.sortedI Fence.wide 5 trivial trivial trivial trivial rfl (by omega) (sortsI _) (enters_of Tryz.func64 (by kernel_rfl) rfl) 65 #[.pointer (some ⟨w.heap.size, 0, none⟩)] trivial (enters_of Tryz.func65 (by kernel_rfl) rfl) _ _ (by unfold maxLen; omega) (by omega) _ hseq
  change CallsIn _ _ Tryz.prog 40 _ _ _ at cS
  refine Calls.mono ((callsIn_wide (n := 5)).1 cS) ?_
  rintro e w' ⟨v, ss, rfl, hS, hrow, hnil, hb⟩
  have hq : Quiet w w' := (Only.alloc (fun _ => False) w _).tr (Only.ofBelow hb)
  have hms : ∀ x, x ∈ (ss.mergeSort fun x y => decide (x ≤ y)) ↔ (m x).isSome = true := fun x => by
    rw [(List.mergeSort_perm ss _).mem_iff, hS.mem_iff]
    exact hmem x
  have hlen : ss.length ≤ 1000 := by
    have h1 := hS.length_eq
    have h2 : (intKeys D).length = Maps.size D := by
      obtain ⟨es, clock, _, _, _, rfl⟩ := hown
      simp [intKeys, Maps.size]
    omega
  have hml : (ss.mergeSort fun x y => decide (x ≤ y)).length = ss.length := (List.mergeSort_perm ss _).length_eq
  rcases hrow.2 with ⟨rfl, hz⟩ | ⟨gb, cap, cur, rfl, hbase, hgb, r1, r2, r3, r4⟩
  · have : ss = [] := List.eq_nil_of_length_eq_zero hz
    subst this
    exact ⟨Sl.nil, rfl, [], ⟨rfl, fun i x hx => by simp at hx⟩, by simpa using hms, by simp, hq⟩
  · refine ⟨⟨some ⟨gb, 0, none⟩, ss.length, cap⟩, rfl, _, ⟨hml.symm, fun i x hx => ⟨_, rfl, fun j v hv => ?_⟩⟩, hms, by omega, hq⟩
    have hi := (List.getElem?_eq_some_iff.1 hx).1
    have hj : j = 0 := by
      have := (List.getElem?_eq_some_iff.1 hv).1
      simp [ci] at this
      omega
    subst hj
    have hv' : v = .int .i64 x := by simpa [ci] using hv.symm
    rw [mk_add, mk_add, Blk.cell hgb, Nat.zero_add, Nat.add_zero, Nat.mul_one]
    have h4 : (cur.toList.take (ss.length * 1))[i]? = some (.int .i64 x) := by
      rw [r4, List.getElem?_map, hx]
      rfl
    rw [List.getElem?_take, if_pos (by omega), Array.getElem?_toList] at h4
    rw [h4, hv']

/-! ### what a message reaches -/
def ms (S : List Int) : Int → Option Bool := fun x => if x ∈ S then some true else none
theorem ms_add (S : List Int) (a : Int) : mset (ms S) a true = ms (S ++ [a]) := by
  funext x
  unfold ms mset
  by_cases e : x = a <;> simp [e]
theorem rn0_and {P : Program} {m : Sem Unit} {w : World} {A B : World → Prop} (ha : rn0 P m w A) (hb : rn0 P m w B) : rn0 P m w fun w' => A w' ∧ B w' := by
  obtain ⟨w1, h1, a1⟩ := ha
  obtain ⟨w2, h2, b2⟩ := hb
  rw [h1] at h2
  injection h2 with _ e2
  subst e2
  exact ⟨w1, h1, a1, b2⟩
structure Dfs (bs : List Br) (op : List Nat) (home : Int) (n : Nat) (S T : List Int) : Prop where
  nd : S.Nodup
  rs : ∀ x ∈ S, Rch bs op home x ∧ 0 ≤ x ∧ x < n
  rt : ∀ x ∈ T, Rch bs op home x ∧ 0 ≤ x ∧ x < n
  home : home ∈ S ∨ home ∈ T
  cl : ∀ u ∈ S, ∀ v, Go.Top.Edge bs op u v → v ∈ S ∨ v ∈ T
theorem Dfs.len {bs : List Br} {op : List Nat} {home : Int} {n : Nat} {S T : List Int} (h : Dfs bs op home n S T) : S.length ≤ n := nodup_range_le h.nd fun x hx => (h.rs x hx).2
theorem rounds_c (w : World) (s t : Sl) (bs : List Br) (ct : List Nat) (nets home : Int) (h : Rd w br 3 s bs) (hc : Rd w ci 1 t (casts ct)) (hv : VB bs nets) (hcl : ct.length ≤ 1000) (h0 : 0 ≤ home ∧ home < nets) :
    callC Tryz.prog 19 #[s.v, t.v, .int .i64 home] Sl.v w fun r w' => ∃ l : List Int, Rd w' ci 1 r l ∧ (∀ x, x ∈ l ↔ Rch bs (opn ct bs.length) home x) ∧ l.length ≤ 1000 ∧ Quiet w w' := by
  obtain ⟨⟨n1, n2⟩, hbl, hbr⟩ := hv
  have hv12 : VB bs 12 := ⟨by decide, hbl, fun b hb => by have := hbr b hb; omega⟩
  refine D19 _ _ _ w _ ?_
  unfold F19
  refine (bvalid_c w s bs 12 h hv12).use ?_
  rintro r w1 ⟨rfl, q1⟩
  rw [decide_eq_false (show ¬ home < 0 by omega), decide_eq_false (show ¬ 12 ≤ home by omega)]
  refine ⟨fun e => (by cases e), fun _ => (others_c w1 s t bs ct (h.keepQ q1) (hc.keepQ q1) hbl hcl).use ?_⟩
  rintro r15 w2 ⟨Fo, o2, f2⟩
  have hopl := opn_len ct bs.length
  have hopm : ∀ i ∈ opn ct bs.length, i < bs.length := fun i hi => (opn_mem.1 hi).1
  generalize opn ct bs.length = op at *
  have hO := o2.rd ci1 (by decide)
  have hOl := hO.len
  rw [casts_len] at hOl
  have q12 := q1.tr f2.q
  refine ⟨some w2.heap.size, w2.alloc (.map #[] 0), rfl, ?_⟩
  have hown0 := World.ownsMap_made (H := Unit) w2 Tryz.prog 3 (plainElem Tryz.prog 4)
  have hmp0 : Mp (Value.int .i64) Value.bool (w2.alloc (.map #[] 0)) w2.heap.size (ms []) := ⟨#[], 0, (MapKept.heap_alloc w2 _).1, fun i j e e' hh => by simp at hh, fun i e hh => by simp at hh, fun x y hh => by simp [ms] at hh⟩
  have q23 : Quiet w2 (w2.alloc (.map #[] 0)) := Only.alloc _ _ _
  have hmb : w2.heap.size < (w2.alloc (.map #[] 0)).heap.size := by simp
  generalize hw3 : w2.alloc (.map #[] 0) = w3 at *
  generalize hmbe : w2.heap.size = mb at *
  refine nwL fun b17 w4 hb17 q4 g4 _ l4 => ?_
  obtain ⟨D0, hown4⟩ : ∃ D0 : DataW Unit, w4.ownsMap Tryz.prog 3 (plainElem Tryz.prog 4) mb 0 D0 := by
    obtain ⟨es, clock, hb, Ft, hs, hD⟩ := hown0
    exact ⟨_, es, clock, (q4.block _ (Array.getElem?_eq_some_iff.1 hb).1 id).trans hb, Ft, hs, hD⟩
  have q02 := q12.size
  have q3s := q23.size
  refine lp_ghost (γ := List Int × List Int) (fun g l w' => Dfs bs op home 12 g.1 g.2 ∧ (∃ (D : DataW Unit) (Ft : Nat → Prop), w'.ownsMap Tryz.prog 3 (plainElem Tryz.prog 4) mb g.1.length D ∧ Mp (Value.int .i64) Value.bool w' mb (ms g.1) ∧ OwnF w' Ft 3 1 l (g.2.flatMap ci) ∧ (∀ x, Ft x → w2.heap.size ≤ x ∧ x < w'.heap.size) ∧ ¬ Ft mb) ∧
      g.2.length ≤ 1 + 200 * g.1.length ∧ Quiet w2 w') (fun g => (12 - g.1.length) * 201 + g.2.length) ([], [home])
    ⟨⟨by simp, fun x hx => (by simp at hx), fun x hx => (by simp at hx; subst hx; exact ⟨.refl _, by omega⟩), .inr (by simp), fun u hu => (by simp at hu)⟩, ⟨D0, fun x => x = b17, hown4, hmp0.keepQ q4, own_row hb17 rfl (by unfold maxLen; omega), fun x e => ⟨by omega, by omega⟩, fun e => by omega⟩, by simp, q23.tr q4⟩ ?_
  rintro N ⟨S, T⟩ l w5 ⟨hD, ⟨D, Ft, hown, hmp, hT, hFt, hFm⟩, hTl, q5⟩ hN
  dsimp only at hD hown hmp hT hTl hN ⊢
  have hSl := hD.len
  have hTR := hT.rd ci1 (by decide)
  have hTlen := hTR.len
  have q05 := q12.tr q5
  refine ⟨fun hc => ?_, fun hc => ?_⟩
  · have hpos : 0 < T.length := by have := of_decide_eq_true hc; omega
    rw [w64 (by omega) (by omega)]
    obtain ⟨a, ha⟩ : ∃ a, T[T.length - 1]? = some a := ⟨_, List.getElem?_eq_getElem (by omega)⟩
    have hTe : T = T.take (T.length - 1) ++ [a] := by
      have := take_next ha
      rw [show T.length - 1 + 1 = T.length by omega, List.take_length] at this
      exact this
    have haT := hD.rt a (List.mem_of_getElem? ha)
    have e1 : ((l.len : Int) - 1).toNat = T.length - 1 := by omega
    refine hTR.ixx (by omega) (x := a) (by rw [e1]; exact ha) fun p hat _ => hat.ld0 rfl (rn_uptoX apI (by omega) (by have := hT.cap; omega) ?_)
    rw [e1]
    have hup := hT.upto (i := T.length - 1) (by omega)
    have e2 : (T.flatMap ci).take ((T.length - 1) * 1) = (T.take (T.length - 1)).flatMap ci := by
      have e3 : T.flatMap ci = (T.take (T.length - 1) ++ [a]).flatMap ci := congrArg (fun l => l.flatMap ci) hTe
      rw [e3, List.flatMap_append, List.take_left' (by rw [flat_len ci1, List.length_take, Nat.min_eq_left (by omega)])]
    rw [e2] at hup
    have hT'l : (T.take (T.length - 1)).length = T.length - 1 := by rw [List.length_take]; omega
    generalize hT' : T.take (T.length - 1) = T' at *
    refine rn_look1 (z := false) a hmp uMIB kI zvB (decide (a ∈ S)) (by unfold ms; by_cases e : a ∈ S <;> simp [e]) ⟨fun g => ?_, fun g => ?_⟩
    · have haS : a ∈ S := of_decide_eq_true g
      refine hN (S, T') _ _ ⟨⟨hD.nd, hD.rs, fun x hx => hD.rt x (by rw [hTe]; simp [hx]), ?_, fun u hu v hv => ?_⟩, ⟨D, Ft, hown, hmp, hup, hFt, hFm⟩, by (try dsimp only); omega, q5⟩ (by (try dsimp only); omega)
      · rcases hD.home with e | e
        · exact .inl e
        · rw [hTe] at e
          rcases List.mem_append.1 e with e | e
          · exact .inr e
          · simp at e
            exact .inl (e ▸ haS)
      · rcases hD.cl u hu v hv with e | e
        · exact .inl e
        · rw [hTe] at e
          rcases List.mem_append.1 e with e | e
          · exact .inr e
          · simp at e
            exact .inl (e ▸ haS)
    · have haS : a ∉ S := of_decide_eq_false g
      have hnd' : (S ++ [a]).Nodup := by
        rw [List.nodup_append]
        refine ⟨hD.nd, by simp, fun x hx y hy e => ?_⟩
        simp at hy
        subst hy e
        exact haS hx
      have hS12 : (S ++ [a]).length ≤ 12 := nodup_range_le (n := 12) hnd' fun x hx => by
        rcases List.mem_append.1 hx with hx | hx
        · exact (hD.rs x hx).2
        · simp at hx
          exact hx ▸ haT.2
      rw [List.length_append, List.length_singleton] at hS12
      have hwf : (Lit.int .i64 a).wf = true := by
        have h12 := haT.2
        rw [show a = ((a.toNat : Nat) : Int) by omega]
        exact (show ∀ k : Nat, k < 12 → (Lit.int .i64 (k : Int)).wf = true by decide) _ (by omega)
      have hup2 : rn0 Tryz.prog (Instr.mapUpdate 78 (.map (some mb)) (.int .i64 a) (.bool true)) w5 fun w' => ∃ D' : DataW Unit, w'.ownsMap Tryz.prog 3 (plainElem Tryz.prog 4) mb (S.length + 1) D' := by
        obtain ⟨w', hr, ho, _⟩ := hown.update (Maps.int_keyed int_under) uMIB (by unfold maxLen; omega) (Maps.keyOf_int_mk int_under hwf) (val := .bool true) (d := .lit (.bool true)) (ps := []) (by simp [plainElem, bool_under])
        exact ⟨w', hr, _, ho⟩
      obtain ⟨w8, hrun8, ⟨hmp8, on8, s8⟩, D8, hown8⟩ := rn0_and (rn_mset (K := fun w' => Mp (Value.int .i64) Value.bool w' mb (mset (ms S) a true) ∧ Only (fun i => i = mb) w5 w' ∧ w'.heap.size = w5.heap.size) a true hmp uMIB kI fun w' h1 h2 h3 => ⟨h1, h2, h3⟩) hup2
      rw [ms_add] at hmp8
      have q8 : Quiet w2 w8 := q5.new on8 fun x e => by omega
      have hT8 := hup.keep on8 fun x e e' => hFm (e' ▸ e)
      refine ⟨w8, hrun8, ?_⟩
      refine ⟨fun c w' => 0 ≤ c.2 ∧ c.2 ≤ op.length ∧ ∃ (U : List Int) (Fu : Nat → Prop), (∀ x ∈ U, Rch bs op home x ∧ 0 ≤ x ∧ x < 12) ∧ (∀ i ∈ op.take c.2.toNat, ∀ b, bs[i]? = some b → b.src = a → b.dst ∈ U) ∧ (∀ x ∈ T', x ∈ U) ∧ U.length ≤ T'.length + c.2 ∧ (∃ D : DataW Unit, w'.ownsMap Tryz.prog 3 (plainElem Tryz.prog 4) mb (S.length + 1) D) ∧
          Mp (Value.int .i64) Value.bool w' mb (ms (S ++ [a])) ∧ OwnF w' Fu 3 1 c.1 (U.flatMap ci) ∧ (∀ x, Fu x → w2.heap.size ≤ x ∧ x < w'.heap.size) ∧ ¬ Fu mb ∧ Quiet w2 w', fun c _ => ((op.length : Int) - c.2).toNat,
        ⟨Int.le_refl _, by (try dsimp only); omega, T', Ft, fun x hx => hD.rt x (by rw [hTe]; simp [hx]), fun i hi => (by simp at hi), fun x hx => hx, by (try dsimp only); omega, ⟨D8, hown8⟩, hmp8, hT8, fun x e => ⟨(hFt x e).1, by have := (hFt x e).2; omega⟩, hFm, q8⟩, ?_⟩
      rintro ⟨us, j⟩ w9 ⟨j0, j1, U, Fu, hU, hdn, hTU, hUl, ⟨D9, hown9⟩, hmp9, hU9, hFu, hFum, q9⟩
      dsimp only at j0 j1 hdn hUl hU9 ⊢
      have q09 := q12.tr q9
      have husl : us.len = U.length := (hU9.rd ci1 (by decide)).len
      refine ⟨fun hj => ?_, fun hj => ?_⟩
      · have hlt : j < op.length := by have := of_decide_eq_true hj; omega
        obtain ⟨i, hi⟩ := getq j0 hlt
        have hiop := List.mem_of_getElem? hi
        have hil := hopm i hiop
        obtain ⟨b, hb⟩ : ∃ b, bs[i]? = some b := ⟨_, List.getElem?_eq_getElem hil⟩
        have hbv := hbr b (List.mem_of_getElem? hb)
        have htk := take_next hi
        have hbi : bs[((i : Int)).toNat]? = some b := by simpa using hb
        refine jn.mk (fun r w' => ∃ (U : List Int) (Fu : Nat → Prop), (∀ x ∈ U, Rch bs op home x ∧ 0 ≤ x ∧ x < 12) ∧ (∀ i ∈ op.take (j.toNat + 1), ∀ b, bs[i]? = some b → b.src = a → b.dst ∈ U) ∧ (∀ x ∈ T', x ∈ U) ∧ U.length ≤ T'.length + (j + 1) ∧ (∃ D : DataW Unit, w'.ownsMap Tryz.prog 3 (plainElem Tryz.prog 4) mb (S.length + 1) D) ∧
          Mp (Value.int .i64) Value.bool w' mb (ms (S ++ [a])) ∧ OwnF w' Fu 3 1 r (U.flatMap ci) ∧ (∀ x, Fu x → w2.heap.size ≤ x ∧ x < w'.heap.size) ∧ ¬ Fu mb ∧ Quiet w2 w') ?_ ?_
        · refine (hO.keepQ q9).ixx j0 (x := (i : Int)) (casts_at hi) fun p hp _ => hp.ld0 rfl ((h.keepQ q09).ixx (by omega) hbi fun p2 hp2 _ => hp2.ld (j := 0) rfl ⟨fun g => ?_, fun g => ?_⟩)
          · have g : b.src = a := of_decide_eq_true g
            refine (h.keepQ q09).ixx (by omega) hbi fun p3 hp3 _ => hp3.ld (j := 1) rfl (OwnF.push (news := ci b.dst) apI hU9 rfl rfl (by unfold maxLen; omega) (by omega) fun r w12 F' o12 _ st12 => ?_)
            have hmbl := hmp9.lt
            refine ⟨U ++ [b.dst], F', fun x hx => ?_, fun i' hi' b' hb' hs' => ?_, fun x hx => List.mem_append_left _ (hTU x hx), by rw [List.length_append, List.length_singleton]; omega, ⟨D9, ?_⟩, hmp9.keep st12.only hFum, ?_, fun x e => ?_, fun e => ?_, q9.new st12.only fun x e => (hFu x e).1⟩
            · rcases List.mem_append.1 hx with hx | hx
              · exact hU x hx
              · simp at hx
                subst hx
                exact ⟨.step haT.1 ⟨i, hiop, b, hb, g, rfl⟩, by omega⟩
            · rw [htk] at hi'
              rcases List.mem_append.1 hi' with hi' | hi'
              · exact List.mem_append_left _ (hdn i' hi' b' hb' hs')
              · simp at hi'
                subst hi'
                rw [hb] at hb'
                injection hb' with hb'
                subst hb'
                simp
            · obtain ⟨es, clock, hbk, Fx, hs, hDx⟩ := hown9
              exact ⟨es, clock, (st12.only.block _ (Array.getElem?_eq_some_iff.1 hbk).1 hFum).trans hbk, Fx, hs, hDx⟩
            · rw [List.flatMap_append, List.flatMap_singleton]
              exact o12
            · have := q9.size
              rcases st12.sub x e with e1 | e1
              · have := hFu x e1
                have := st12.only.size
                omega
              · omega
            · rcases st12.sub mb e with e1 | e1
              · exact hFum e1
              · omega
          · have g : ¬ b.src = a := of_decide_eq_false g
            refine ⟨U, Fu, hU, fun i' hi' b' hb' hs' => ?_, hTU, by omega, ⟨D9, hown9⟩, hmp9, hU9, hFu, hFum, q9⟩
            rw [htk] at hi'
            rcases List.mem_append.1 hi' with hi' | hi'
            · exact hdn i' hi' b' hb' hs'
            · simp at hi'
              subst hi'
              rw [hb] at hb'
              injection hb' with hb'
              subst hb'
              exact absurd hs' g
        rintro r w10 ⟨U2, Fu2, k1, k2, k3, k4, k5⟩
        rw [w64 (by omega) (by omega)]
        refine ⟨⟨by (try dsimp only); omega, by (try dsimp only); omega, U2, Fu2, k1, ?_, k3, k4, k5⟩, by (try dsimp only); omega⟩
        (try dsimp only)
        rw [toNat_succ j0]
        exact k2
      · rw [List.take_of_length_le (by have := of_decide_eq_false hj; omega)] at hdn
        refine hN (S ++ [a], U) _ _ ⟨⟨hnd', fun x hx => ?_, hU, ?_, fun u hu v hv => ?_⟩, ⟨D9, Fu, by rw [List.length_append, List.length_singleton]; exact hown9, hmp9, hU9, hFu, hFum⟩, by (try dsimp only); rw [List.length_append, List.length_singleton]; omega, q9⟩ (by (try dsimp only); rw [List.length_append, List.length_singleton]; omega)
        · rcases List.mem_append.1 hx with hx | hx
          · exact hD.rs x hx
          · simp at hx
            exact hx ▸ haT
        · rcases hD.home with e | e
          · exact .inl (List.mem_append_left _ e)
          · rw [hTe] at e
            rcases List.mem_append.1 e with e | e
            · exact .inr (hTU _ e)
            · simp at e
              exact .inl (by simp [e])
        · rcases List.mem_append.1 hu with hu | hu
          · rcases hD.cl u hu v hv with e | e
            · exact .inl (List.mem_append_left _ e)
            · rw [hTe] at e
              rcases List.mem_append.1 e with e | e
              · exact .inr (hTU _ e)
              · simp at e
                exact .inl (by simp [e])
          · simp at hu
            subst hu
            obtain ⟨i, hi, b, hb, hs, rfl⟩ := hv
            exact .inr (hdn i hi b hb hs)
  · have hT0 : T = [] := List.eq_nil_of_length_eq_zero (by have := of_decide_eq_false hc; omega)
    subst hT0
    have hiff : ∀ x, x ∈ S ↔ Rch bs op home x := fun x => ⟨fun hx => (hD.rs x hx).1, fun hr => hr.closed (S := fun x => x ∈ S) (hD.home.elim id fun e => by simp at e) fun u v hu hv => (hD.cl u hu v hv).elim id fun e => by simp at e⟩
    refine (keysI_c w5 mb).use ?_
    rintro _ _ ⟨rfl, rfl⟩
    refine (sortedI_c w5 mb S.length D (ms S) hown hmp (by omega)).use ?_
    rintro r w14 ⟨l, hl, hmem, hll, q14⟩
    refine ⟨l, hl, fun x => ?_, hll, q05.tr q14⟩
    rw [hmem x, ← hiff x]
    unfold ms
    by_cases e : x ∈ S <;> simp [e]
end Go.Proofs.YtgbhghoppjfofaaGreat
