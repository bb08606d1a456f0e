import Derived.Test.YtnoahloppffndaaPd
namespace Go.Proofs.Ytnoahloppffndaa
open Go.Dec Go.RowKit
set_option maxHeartbeats 400000
set_option maxRecDepth 10000

def meet0 (a b : Ap) : Ap := { a with edit := min a.edit b.edit, delete := min a.delete b.delete, thread := min a.thread b.thread, react := a.react && b.react, quote := a.quote && b.quote, mention := a.mention && b.mention, size := min a.size b.size, parts := min a.parts b.parts, level := min a.level b.level, files := min a.files b.files, bytes := min a.bytes b.bytes, types := a.types.filter fun t => decide (t ∈ b.types) }
def meet1 (c : Ap) : Ap := if c.files = 0 ∨ c.bytes = 0 ∨ c.types.length = 0 then { c with files := 0, bytes := 0, types := [] } else c
def meetW (a b : Ap) : Int := if min a.edit b.edit = 0 then 0 else if a.within = 0 then b.within else if b.within = 0 then a.within else min a.within b.within
def meetA (a b : Ap) : Ap := { meet1 (meet0 a b) with within := meetW a b }
def longA (a b : Ap) : Int := if a.edit ≠ 2 ∧ b.edit ≠ 2 then 0 else if b.edit ≠ 2 then a.within else if a.edit ≠ 2 then b.within else if a.within = 0 ∨ b.within = 0 then 0 else max a.within b.within
def joinA (a b : Ap) : Ap := { a with edit := max a.edit b.edit, delete := max a.delete b.delete, thread := max a.thread b.thread, react := a.react || b.react, quote := a.quote || b.quote, mention := a.mention || b.mention, size := max a.size b.size, parts := max a.parts b.parts, level := max a.level b.level, files := max a.files b.files, bytes := max a.bytes b.bytes, within := longA a b, types := a.types ++ b.types.filter fun t => !decide (t ∈ a.types) }
/-- a profile that a call made -/
def NewP (w w' : World) (r : Pf) (a : Ap) : Prop := ∃ s F, r = pfOf a s ∧ OwnF w' F 9 1 s (a.types.flatMap cb) ∧ Fresh w w' F
theorem filter_next {l : List ByteArray} {i : Nat} {x : ByteArray} (f : ByteArray → Bool) (h : l[i]? = some x) : (l.take (i + 1)).filter f = (l.take i).filter f ++ (if f x = true then [x] else []) := by
  rw [take_next h, List.filter_append]
  by_cases hf : f x = true <;> simp [hf]
theorem filter_len (l : List ByteArray) (f : ByteArray → Bool) (i : Nat) : ((l.take i).filter f).length ≤ l.length := by
  have h1 := List.length_filter_le f (l.take i)
  rw [List.length_take] at h1
  omega

theorem meet_c (w : World) (a b : Ap) (s t : Sl) (h : Rd w cb 1 s a.types) (h' : Rd w cb 1 t b.types) (hl : a.types.length ≤ 1000) (hl' : b.types.length ≤ 1000) :
    callC Try.prog 21 #[pfv (pfOf a s), pfv (pfOf b t)] (fun (r : ByteArray × Int × Int × Int × Bool × Int × Bool × Bool × Int × Int × Int × Int × Sl × Int × Int × Int × Int × Bool × Int × Int × Int × Int) => (Value.agg #[(Value.string r.1), (Value.int .i64 r.2.1), (Value.int .i64 r.2.2.1), (Value.int .i64 r.2.2.2.1), (Value.bool r.2.2.2.2.1), (Value.int .i64 r.2.2.2.2.2.1), (Value.bool r.2.2.2.2.2.2.1), (Value.bool r.2.2.2.2.2.2.2.1), (Value.int .i64 r.2.2.2.2.2.2.2.2.1), (Value.int .i64 r.2.2.2.2.2.2.2.2.2.1), (Value.int .i64 r.2.2.2.2.2.2.2.2.2.2.1), (Value.int .i64 r.2.2.2.2.2.2.2.2.2.2.2.1), (Sl.v r.2.2.2.2.2.2.2.2.2.2.2.2.1), (Value.int .i64 r.2.2.2.2.2.2.2.2.2.2.2.2.2.1), (Value.int .i64 r.2.2.2.2.2.2.2.2.2.2.2.2.2.2.1), (Value.int .i64 r.2.2.2.2.2.2.2.2.2.2.2.2.2.2.2.1), (Value.int .i64 r.2.2.2.2.2.2.2.2.2.2.2.2.2.2.2.2.1), (Value.bool r.2.2.2.2.2.2.2.2.2.2.2.2.2.2.2.2.2.1), (Value.int .i64 r.2.2.2.2.2.2.2.2.2.2.2.2.2.2.2.2.2.2.1), (Value.int .i64 r.2.2.2.2.2.2.2.2.2.2.2.2.2.2.2.2.2.2.2.1), (Value.int .i64 r.2.2.2.2.2.2.2.2.2.2.2.2.2.2.2.2.2.2.2.2.1), (Value.int .i64 r.2.2.2.2.2.2.2.2.2.2.2.2.2.2.2.2.2.2.2.2.2)])) w fun r w' => ∃ x, r = pft x ∧ NewP w w' x (meetA a b) := by
  have hsl := h.len
  have htl := h'.len
  refine D21 _ _ _ _ _ _ _ _ _ _ _ _ _ _ _ _ _ _ _ _ _ _ _ _ _ _ _ _ _ _ _ _ _ _ _ _ _ _ _ _ _ _ _ _ w _ ?_
  unfold F21
  refine nwL fun b1 w1 hb1 q1 _ _ _ => nwL fun b2 w2 hb2 q2 _ _ _ => nwL fun b3 w3 hb3 q3 g3 _ l3 => ?_
  have hb1 : IsPf w3 b1 (pfOf a s) := Blk.keepQ hb1 (q2.tr q3)
  have hb2 : IsPf w3 b2 (pfOf b t) := Blk.keepQ hb2 q3
  have q03 := (q1.tr q2).tr q3
  have hA : ∀ w', Quiet w3 w' → AtC w' (Addr.mk b1 0 none) (pf (pfOf a s)) := fun w' q => (hb1.keepQ q).at
  have hB : ∀ w', Quiet w3 w' → AtC w' (Addr.mk b2 0 none) (pf (pfOf b t)) := fun w' q => (hb2.keepQ q).at
  have hs3 := h.keepQ q03
  have ht3 := h'.keepQ q03
  have z1 := q1.size
  have z2 := q2.size
  refine pf_ld hb1.at (pf_box fun b26 w5 hb26 q5 g26 l26 => ?_)
  have M := OBPf.start hb26 q5 g26 l26
  refine jn.mk (fun _ w' => OBPf w3 w' b26 (fun _ => False) (pfOf { a with edit := min a.edit b.edit, delete := min a.delete b.delete, thread := min a.thread b.thread } s)) ?_ ?_
  · show tk _ _
    unfold tk
    have M := M.keepQ (Only.drew (fun _ => False) _)
    refine (hA _ M.q).ld (j := 1) rfl ((hB _ M.q).ld (j := 1) rfl ((hA _ M.q).ld (j := 3) rfl ((hB _ M.q).ld (j := 3) rfl ((hA _ M.q).ld (j := 5) rfl ((hB _ M.q).ld (j := 5) rfl (M.st_edit fun _ M _ => ?_))))))
    repeat (refine ⟨by first | exact (hA _ M.q).cj rfl | exact (hB _ M.q).cj rfl, ?_⟩)
    refine M.st_delete fun _ M _ => ?_
    repeat (refine ⟨by first | exact (hA _ M.q).cj rfl | exact (hB _ M.q).cj rfl, ?_⟩)
    refine M.st_thread fun _ M _ => ?_
    exact M
  rintro _ _ M
  refine jn.mk (fun _ w' => OBPf w3 w' b26 (fun _ => False) (pfOf { a with edit := min a.edit b.edit, delete := min a.delete b.delete, thread := min a.thread b.thread, react := a.react && b.react, quote := a.quote && b.quote, mention := a.mention && b.mention } s)) ?_ ?_
  · show tk _ _
    unfold tk
    have M := M.keepQ (Only.drew (fun _ => False) _)
    refine (hA _ M.q).ld (j := 4) rfl ⟨fun h0 => ?_, fun h0 => ?_⟩
    · refine (hB _ M.q).ld (j := 4) rfl ?_
      refine (hA _ M.q).ld (j := 6) rfl ⟨fun h1 => ?_, fun h1 => ?_⟩
      · refine (hB _ M.q).ld (j := 6) rfl ?_
        refine (hA _ M.q).ld (j := 7) rfl ⟨fun h2 => ?_, fun h2 => ?_⟩
        · refine (hB _ M.q).ld (j := 7) rfl ?_
          refine M.st_react fun _ M _ => ?_
          repeat (refine ⟨by first | exact (hA _ M.q).cj rfl | exact (hB _ M.q).cj rfl, ?_⟩)
          refine M.st_quote fun _ M _ => ?_
          repeat (refine ⟨by first | exact (hA _ M.q).cj rfl | exact (hB _ M.q).cj rfl, ?_⟩)
          refine M.st_mention fun _ M _ => ?_
          have e_react : (a.react && b.react) = b.react := by rw [show a.react = true from h0]; rfl
          have e_quote : (a.quote && b.quote) = b.quote := by rw [show a.quote = true from h1]; rfl
          have e_mention : (a.mention && b.mention) = b.mention := by rw [show a.mention = true from h2]; rfl
          rw [e_react, e_quote, e_mention]
          exact M
        · refine M.st_react fun _ M _ => ?_
          repeat (refine ⟨by first | exact (hA _ M.q).cj rfl | exact (hB _ M.q).cj rfl, ?_⟩)
          refine M.st_quote fun _ M _ => ?_
          repeat (refine ⟨by first | exact (hA _ M.q).cj rfl | exact (hB _ M.q).cj rfl, ?_⟩)
          refine M.st_mention fun _ M _ => ?_
          have e_react : (a.react && b.react) = b.react := by rw [show a.react = true from h0]; rfl
          have e_quote : (a.quote && b.quote) = b.quote := by rw [show a.quote = true from h1]; rfl
          have e_mention : (a.mention && b.mention) = false := by rw [show a.mention = false from h2]; rfl
          rw [e_react, e_quote, e_mention]
          exact M
      · refine (hA _ M.q).ld (j := 7) rfl ⟨fun h2 => ?_, fun h2 => ?_⟩
        · refine (hB _ M.q).ld (j := 7) rfl ?_
          refine M.st_react fun _ M _ => ?_
          repeat (refine ⟨by first | exact (hA _ M.q).cj rfl | exact (hB _ M.q).cj rfl, ?_⟩)
          refine M.st_quote fun _ M _ => ?_
          repeat (refine ⟨by first | exact (hA _ M.q).cj rfl | exact (hB _ M.q).cj rfl, ?_⟩)
          refine M.st_mention fun _ M _ => ?_
          have e_react : (a.react && b.react) = b.react := by rw [show a.react = true from h0]; rfl
          have e_quote : (a.quote && b.quote) = false := by rw [show a.quote = false from h1]; rfl
          have e_mention : (a.mention && b.mention) = b.mention := by rw [show a.mention = true from h2]; rfl
          rw [e_react, e_quote, e_mention]
          exact M
        · refine M.st_react fun _ M _ => ?_
          repeat (refine ⟨by first | exact (hA _ M.q).cj rfl | exact (hB _ M.q).cj rfl, ?_⟩)
          refine M.st_quote fun _ M _ => ?_
          repeat (refine ⟨by first | exact (hA _ M.q).cj rfl | exact (hB _ M.q).cj rfl, ?_⟩)
          refine M.st_mention fun _ M _ => ?_
          have e_react : (a.react && b.react) = b.react := by rw [show a.react = true from h0]; rfl
          have e_quote : (a.quote && b.quote) = false := by rw [show a.quote = false from h1]; rfl
          have e_mention : (a.mention && b.mention) = false := by rw [show a.mention = false from h2]; rfl
          rw [e_react, e_quote, e_mention]
          exact M
    · refine (hA _ M.q).ld (j := 6) rfl ⟨fun h1 => ?_, fun h1 => ?_⟩
      · refine (hB _ M.q).ld (j := 6) rfl ?_
        refine (hA _ M.q).ld (j := 7) rfl ⟨fun h2 => ?_, fun h2 => ?_⟩
        · refine (hB _ M.q).ld (j := 7) rfl ?_
          refine M.st_react fun _ M _ => ?_
          repeat (refine ⟨by first | exact (hA _ M.q).cj rfl | exact (hB _ M.q).cj rfl, ?_⟩)
          refine M.st_quote fun _ M _ => ?_
          repeat (refine ⟨by first | exact (hA _ M.q).cj rfl | exact (hB _ M.q).cj rfl, ?_⟩)
          refine M.st_mention fun _ M _ => ?_
          have e_react : (a.react && b.react) = false := by rw [show a.react = false from h0]; rfl
          have e_quote : (a.quote && b.quote) = b.quote := by rw [show a.quote = true from h1]; rfl
          have e_mention : (a.mention && b.mention) = b.mention := by rw [show a.mention = true from h2]; rfl
          rw [e_react, e_quote, e_mention]
          exact M
        · refine M.st_react fun _ M _ => ?_
          repeat (refine ⟨by first | exact (hA _ M.q).cj rfl | exact (hB _ M.q).cj rfl, ?_⟩)
          refine M.st_quote fun _ M _ => ?_
          repeat (refine ⟨by first | exact (hA _ M.q).cj rfl | exact (hB _ M.q).cj rfl, ?_⟩)
          refine M.st_mention fun _ M _ => ?_
          have e_react : (a.react && b.react) = false := by rw [show a.react = false from h0]; rfl
          have e_quote : (a.quote && b.quote) = b.quote := by rw [show a.quote = true from h1]; rfl
          have e_mention : (a.mention && b.mention) = false := by rw [show a.mention = false from h2]; rfl
          rw [e_react, e_quote, e_mention]
          exact M
      · refine (hA _ M.q).ld (j := 7) rfl ⟨fun h2 => ?_, fun h2 => ?_⟩
        · refine (hB _ M.q).ld (j := 7) rfl ?_
          refine M.st_react fun _ M _ => ?_
          repeat (refine ⟨by first | exact (hA _ M.q).cj rfl | exact (hB _ M.q).cj rfl, ?_⟩)
          refine M.st_quote fun _ M _ => ?_
          repeat (refine ⟨by first | exact (hA _ M.q).cj rfl | exact (hB _ M.q).cj rfl, ?_⟩)
          refine M.st_mention fun _ M _ => ?_
          have e_react : (a.react && b.react) = false := by rw [show a.react = false from h0]; rfl
          have e_quote : (a.quote && b.quote) = false := by rw [show a.quote = false from h1]; rfl
          have e_mention : (a.mention && b.mention) = b.mention := by rw [show a.mention = true from h2]; rfl
          rw [e_react, e_quote, e_mention]
          exact M
        · refine M.st_react fun _ M _ => ?_
          repeat (refine ⟨by first | exact (hA _ M.q).cj rfl | exact (hB _ M.q).cj rfl, ?_⟩)
          refine M.st_quote fun _ M _ => ?_
          repeat (refine ⟨by first | exact (hA _ M.q).cj rfl | exact (hB _ M.q).cj rfl, ?_⟩)
          refine M.st_mention fun _ M _ => ?_
          have e_react : (a.react && b.react) = false := by rw [show a.react = false from h0]; rfl
          have e_quote : (a.quote && b.quote) = false := by rw [show a.quote = false from h1]; rfl
          have e_mention : (a.mention && b.mention) = false := by rw [show a.mention = false from h2]; rfl
          rw [e_react, e_quote, e_mention]
          exact M
  rintro _ _ M
  refine jn.mk (fun _ w' => OBPf w3 w' b26 (fun _ => False) (pfOf { a with edit := min a.edit b.edit, delete := min a.delete b.delete, thread := min a.thread b.thread, react := a.react && b.react, quote := a.quote && b.quote, mention := a.mention && b.mention, size := min a.size b.size, parts := min a.parts b.parts, level := min a.level b.level } s)) ?_ ?_
  · show tk _ _
    unfold tk
    have M := M.keepQ (Only.drew (fun _ => False) _)
    refine (hA _ M.q).ld (j := 8) rfl ((hB _ M.q).ld (j := 8) rfl ((hA _ M.q).ld (j := 9) rfl ((hB _ M.q).ld (j := 9) rfl ((hA _ M.q).ld (j := 16) rfl ((hB _ M.q).ld (j := 16) rfl (M.st_size fun _ M _ => ?_))))))
    repeat (refine ⟨by first | exact (hA _ M.q).cj rfl | exact (hB _ M.q).cj rfl, ?_⟩)
    refine M.st_parts fun _ M _ => ?_
    repeat (refine ⟨by first | exact (hA _ M.q).cj rfl | exact (hB _ M.q).cj rfl, ?_⟩)
    refine M.st_level fun _ M _ => ?_
    exact M
  rintro _ _ M
  refine jn.mk (fun _ w' => OBPf w3 w' b26 (fun _ => False) (pfOf { a with edit := min a.edit b.edit, delete := min a.delete b.delete, thread := min a.thread b.thread, react := a.react && b.react, quote := a.quote && b.quote, mention := a.mention && b.mention, size := min a.size b.size, parts := min a.parts b.parts, level := min a.level b.level, files := min a.files b.files, bytes := min a.bytes b.bytes } s)) ?_ ?_
  · show tk _ _
    unfold tk
    have M := M.keepQ (Only.drew (fun _ => False) _)
    refine (hA _ M.q).ld (j := 10) rfl ((hB _ M.q).ld (j := 10) rfl ((hA _ M.q).ld (j := 11) rfl ((hB _ M.q).ld (j := 11) rfl (M.st_files fun _ M _ => ?_))))
    repeat (refine ⟨by first | exact (hA _ M.q).cj rfl | exact (hB _ M.q).cj rfl, ?_⟩)
    refine M.st_bytes fun _ M _ => ?_
    exact M
  rintro _ _ M
  refine M.st_types fun w46 M on46 => (hA _ M.q).ld (j := 12) rfl ?_
  have M : OBPf w3 w46 b26 (fun _ => False) (pfOf (meet0 a b) Sl.nil) := M
  have hf0 : (meet0 a b).types = a.types.filter fun t => decide (t ∈ b.types) := rfl
  refine ⟨fun i w' => 0 ≤ i ∧ i ≤ a.types.length ∧ ∃ F s', OBPf w3 w' b26 F (pfOf (meet0 a b) s') ∧ OwnF w' F 9 1 s' (((a.types.take i.toNat).filter fun t => decide (t ∈ b.types)).flatMap cb), fun i _ => (a.types.length - i).toNat, ⟨by omega, by omega, _, _, M, OwnF.nil _ _ _ _⟩, ?_⟩
  clear M on46
  rintro i w47 ⟨i0, i1, F, s', M, o⟩
  refine ⟨fun hi => ?_, fun hi => ?_⟩
  · have hlt : i < a.types.length := by
      have hi : i < (s.len : Int) := of_decide_eq_true hi
      omega
    obtain ⟨x, hx⟩ := getq i0 hlt
    have hfn := filter_next (fun t => decide (t ∈ b.types)) hx
    have hfl := filter_len a.types (fun t => decide (t ∈ b.types)) i.toNat
    have hol := (o.rd cb1 (by decide)).len
    refine jn.mk (fun _ w' => ∃ F s', OBPf w3 w' b26 F (pfOf (meet0 a b) s') ∧ OwnF w' F 9 1 s' (((a.types.take (i.toNat + 1)).filter fun t => decide (t ∈ b.types)).flatMap cb)) ?_ ?_
    · rw [hfn]
      refine (hs3.keepQ M.q).ixx i0 hx fun p hat _ => hat.ld0 rfl ((hB _ M.q).ld (j := 12) rfl (use_same (contains_c w47 t b.types x (ht3.keepQ M.q) (by omega)) ⟨fun g => ?_, fun g => ⟨F, s', M, ?_⟩⟩))
      · refine M.h.at.ld (j := 12) rfl (OwnF.push (news := cb x) ap22S o rfl rfl (by show s'.len + 1 ≤ maxLen; unfold maxLen; omega) (by show (s'.len + 1) * 16 ≤ _; omega) fun r w51 F' o' _ st' => ?_)
        have M' := M.own st'
        refine M'.st_types fun w52 M'' on52 => ⟨F', r, M'', ?_⟩
        rw [if_pos g]
        rw [List.flatMap_append, List.flatMap_singleton]
        exact o'.keep on52 M'.O.d01
      · rw [if_neg (by rw [g]; decide), List.append_nil]
        exact o
    · rintro _ w48 ⟨F', s'', M', o'⟩
      rw [w64 (by omega) (by omega)]
      refine ⟨⟨by omega, by omega, F', s'', M', ?_⟩, by (try dsimp only); omega⟩
      rw [toNat_succ i0]
      exact o'
  rw [List.take_of_length_le (by
    have hi : ¬ i < (s.len : Int) := of_decide_eq_false hi
    omega)] at o
  have hol := (o.rd cb1 (by decide)).len
  refine jn.mk (fun _ w' => ∃ F s', OBPf w3 w' b26 F (pfOf (meet1 (meet0 a b)) s') ∧ OwnF w' F 9 1 s' ((meet1 (meet0 a b)).types.flatMap cb)) ?_ ?_
  · refine M.h.at.ld (j := 10) rfl (jp_or (fun _ J hJ => M.h.at.ld (j := 11) rfl hJ) (jp_or (fun _ J hJ => M.h.at.ld (j := 12) rfl hJ) (cnd_c (d := decide ((meet0 a b).files = 0 ∨ (meet0 a b).bytes = 0 ∨ (meet0 a b).types.length = 0)) ?_ ⟨fun g => ?_, fun g => ⟨F, s', ?_, ?_⟩⟩)))
    · rw [Bool.eq_iff_iff]
      simp only [Bool.or_eq_true, decide_eq_true_eq]
      show ((((meet0 a b).files = 0 ∨ (meet0 a b).bytes = 0) ∨ ((s'.len : Int) = 0)) ↔ _)
      rw [hf0]
      omega
    · refine M.st_files fun w54 M _ => M.st_bytes fun w55 M _ => M.st_types fun w56 M _ => ⟨F, Sl.nil, ?_, ?_⟩
      · unfold meet1
        rw [if_pos (of_decide_eq_true g)]
        exact M
      · unfold meet1
        rw [if_pos (of_decide_eq_true g)]
        exact OwnF.nil _ _ _ _
    · unfold meet1
      rw [if_neg (of_decide_eq_false g)]
      exact M
    · unfold meet1
      rw [if_neg (of_decide_eq_false g)]
      exact o
  clear M o hol hi i0 i1
  rintro _ w53 ⟨F, s', M, o⟩
  have hed : (meet1 (meet0 a b)).edit = min a.edit b.edit := by
    unfold meet1
    split <;> rfl
  refine jn.mk (fun _ w' => OBPf w3 w' b26 F (pfOf (meetA a b) s') ∧ OwnF w' F 9 1 s' ((meetA a b).types.flatMap cb)) ?_ ?_
  · have fin : ∀ {v : Int} {w' : World}, OBPf w3 w' b26 F (pfOf { meet1 (meet0 a b) with within := v } s') → Only (fun y => y = b26) w53 w' → meetW a b = v → OBPf w3 w' b26 F (pfOf (meetA a b) s') ∧ OwnF w' F 9 1 s' ((meetA a b).types.flatMap cb) := fun M' on e => by
      unfold meetA
      rw [e]
      exact ⟨M', o.keep on M.O.d01⟩
    refine M.h.at.ld (j := 1) rfl ⟨fun g => M.st_within fun w' M' on => fin M' on ?_, fun g => (hA _ M.q).ld (j := 2) rfl ⟨fun g2 => (hB _ M.q).ld (j := 2) rfl (M.st_within fun w' M' on => fin M' on ?_), fun g2 => (hB _ M.q).ld (j := 2) rfl ⟨fun g3 => (hA _ M.q).ld (j := 2) rfl (M.st_within fun w' M' on => fin M' on ?_), fun g3 => (hA _ M.q).ld (j := 2) rfl ((hB _ M.q).ld (j := 2) rfl (M.st_within fun w' M' on => fin M' on ?_))⟩⟩⟩
    all_goals unfold meetW
    · rw [if_pos (hed ▸ of_decide_eq_true g)]
    · rw [if_neg (hed ▸ of_decide_eq_false g), if_pos (show a.within = 0 from of_decide_eq_true g2)]
      rfl
    · rw [if_neg (hed ▸ of_decide_eq_false g), if_neg (show ¬ a.within = 0 from of_decide_eq_false g2), if_pos (show b.within = 0 from of_decide_eq_true g3)]
      rfl
    · rw [if_neg (hed ▸ of_decide_eq_false g), if_neg (show ¬ a.within = 0 from of_decide_eq_false g2), if_neg (show ¬ b.within = 0 from of_decide_eq_false g3)]
      rfl
  clear M o
  rintro _ w57 ⟨M, o⟩
  refine pf_ld M.h.at (pf_st (hb3.keepQ M.q) rfl fun w62 h62 on62 s62 => pf_ld h62.at ?_)
  have zq := M.q.size
  refine ⟨_, rfl, s', F, rfl, ?_, ⟨(q03.tr M.q).new on62 fun x hx => by omega, fun y hy => ?_⟩⟩
  · exact o.keep on62 fun y hy e => by
      have := M.O.sep.ge 0 y (by unfold two; simpa using hy)
      omega
  · have h1 := M.O.sep.ge 0 y (by unfold two; simpa using hy)
    have h2 := M.O.sep.lt 0 y (by unfold two; simpa using hy)
    omega

theorem long_c (w : World) (a b : Ap) (s t : Sl) : callC Try.prog 44 #[pfv (pfOf a s), pfv (pfOf b t)] (fun (r : Int) => .int .i64 r) w fun r w' => r = longA a b ∧ Quiet w w' := by
  refine D44 _ _ _ _ _ _ _ _ _ _ _ _ _ _ _ _ _ _ _ _ _ _ _ _ _ _ _ _ _ _ _ _ _ _ _ _ _ _ _ _ _ _ _ _ w _ ?_
  unfold F44
  refine nwL fun b1 w1 hb1 q1 _ _ _ => nwL fun b2 w2 hb2 q2 _ _ _ => ?_
  have hb1 : IsPf w2 b1 (pfOf a s) := Blk.keepQ hb1 q2
  have hb2 : IsPf w2 b2 (pfOf b t) := hb2
  have A := hb1.at
  have B := hb2.at
  have q := q1.tr q2
  unfold longA
  refine A.ld (j := 1) rfl (jp_and (fun _ J hJ => B.ld (j := 1) rfl hJ) ⟨fun g => ⟨?_, q⟩, fun g => B.ld (j := 1) rfl ⟨fun g2 => A.ld (j := 2) rfl ⟨?_, q⟩, fun g2 => A.ld (j := 1) rfl ⟨fun g3 => B.ld (j := 2) rfl ⟨?_, q⟩, fun g3 => A.ld (j := 2) rfl (jp_or (fun _ J hJ => B.ld (j := 2) rfl hJ) ⟨fun g4 => ⟨?_, q⟩, fun g4 => A.ld (j := 2) rfl (B.ld (j := 2) rfl ⟨?_, q⟩)⟩)⟩⟩⟩)
  · rw [Bool.and_eq_true] at g
    rw [if_pos ⟨nd g.1, nd g.2⟩]
  all_goals rw [if_neg (show ¬ (a.edit ≠ 2 ∧ b.edit ≠ 2) from fun c => by
    rw [Bool.and_eq_false_iff] at g
    rcases g with g | g
    · exact c.1 (nt g)
    · exact c.2 (nt g))]
  · rw [if_pos (show b.edit ≠ 2 from nd g2)]
    rfl
  · rw [if_neg (show ¬ (b.edit ≠ 2) from fun c => c (nt g2)), if_pos (show a.edit ≠ 2 from nd g3)]
    rfl
  · rw [if_neg (show ¬ (b.edit ≠ 2) from fun c => c (nt g2)), if_neg (show ¬ (a.edit ≠ 2) from fun c => c (nt g3)), if_pos]
    rw [Bool.or_eq_true] at g4
    exact g4.imp of_decide_eq_true of_decide_eq_true
  · rw [if_neg (show ¬ (b.edit ≠ 2) from fun c => c (nt g2)), if_neg (show ¬ (a.edit ≠ 2) from fun c => c (nt g3)), if_neg]
    · rfl
    rw [Bool.or_eq_false_iff] at g4
    rintro (c | c)
    · exact of_decide_eq_false g4.1 c
    · exact of_decide_eq_false g4.2 c
theorem clone_c (w : World) (s : Sl) (l : List ByteArray) (h : Rd w cb 1 s l) (hl : l.length ≤ 1000) : callC Try.prog 45 #[s.v] Sl.v w fun r w' => ∃ F, OwnF w' F 9 1 r (l.flatMap cb) ∧ Fresh w w' F := by
  refine D45 _ w _ ?_
  unfold F45
  refine ⟨fun g => ?_, fun g => ?_⟩
  · obtain ⟨rfl, _⟩ := h.zero (Option.isNone_iff_eq_none.1 g)
    exact ⟨_, OwnF.nil _ _ _ _, Fresh.none w⟩
  · exact rn_copy ap22S h cb1 (by decide) cbone (by unfold maxLen; omega) (by omega) fun r w' F o _ f => ⟨F, o, f⟩
theorem join_c (w : World) (a b : Ap) (s t : Sl) (h : Rd w cb 1 s a.types) (h' : Rd w cb 1 t b.types) (hl : a.types.length ≤ 1000) (hl' : b.types.length ≤ 1000) :
    callC Try.prog 22 #[pfv (pfOf a s), pfv (pfOf b t)] (fun (r : ByteArray × Int × Int × Int × Bool × Int × Bool × Bool × Int × Int × Int × Int × Sl × Int × Int × Int × Int × Bool × Int × Int × Int × Int) => (Value.agg #[(Value.string r.1), (Value.int .i64 r.2.1), (Value.int .i64 r.2.2.1), (Value.int .i64 r.2.2.2.1), (Value.bool r.2.2.2.2.1), (Value.int .i64 r.2.2.2.2.2.1), (Value.bool r.2.2.2.2.2.2.1), (Value.bool r.2.2.2.2.2.2.2.1), (Value.int .i64 r.2.2.2.2.2.2.2.2.1), (Value.int .i64 r.2.2.2.2.2.2.2.2.2.1), (Value.int .i64 r.2.2.2.2.2.2.2.2.2.2.1), (Value.int .i64 r.2.2.2.2.2.2.2.2.2.2.2.1), (Sl.v r.2.2.2.2.2.2.2.2.2.2.2.2.1), (Value.int .i64 r.2.2.2.2.2.2.2.2.2.2.2.2.2.1), (Value.int .i64 r.2.2.2.2.2.2.2.2.2.2.2.2.2.2.1), (Value.int .i64 r.2.2.2.2.2.2.2.2.2.2.2.2.2.2.2.1), (Value.int .i64 r.2.2.2.2.2.2.2.2.2.2.2.2.2.2.2.2.1), (Value.bool r.2.2.2.2.2.2.2.2.2.2.2.2.2.2.2.2.2.1), (Value.int .i64 r.2.2.2.2.2.2.2.2.2.2.2.2.2.2.2.2.2.2.1), (Value.int .i64 r.2.2.2.2.2.2.2.2.2.2.2.2.2.2.2.2.2.2.2.1), (Value.int .i64 r.2.2.2.2.2.2.2.2.2.2.2.2.2.2.2.2.2.2.2.2.1), (Value.int .i64 r.2.2.2.2.2.2.2.2.2.2.2.2.2.2.2.2.2.2.2.2.2)])) w fun r w' => ∃ x, r = pft x ∧ NewP w w' x (joinA a b) := by
  have hsl := h.len
  have htl := h'.len
  refine D22 _ _ _ _ _ _ _ _ _ _ _ _ _ _ _ _ _ _ _ _ _ _ _ _ _ _ _ _ _ _ _ _ _ _ _ _ _ _ _ _ _ _ _ _ w _ ?_
  unfold F22
  refine nwL fun b1 w1 hb1 q1 _ _ _ => nwL fun b2 w2 hb2 q2 _ _ _ => nwL fun b3 w3 hb3 q3 g3 _ l3 => ?_
  have hb1 : IsPf w3 b1 (pfOf a s) := Blk.keepQ hb1 (q2.tr q3)
  have hb2 : IsPf w3 b2 (pfOf b t) := Blk.keepQ hb2 q3
  have q03 := (q1.tr q2).tr q3
  have hA : ∀ w', Quiet w3 w' → AtC w' (Addr.mk b1 0 none) (pf (pfOf a s)) := fun w' q => (hb1.keepQ q).at
  have hB : ∀ w', Quiet w3 w' → AtC w' (Addr.mk b2 0 none) (pf (pfOf b t)) := fun w' q => (hb2.keepQ q).at
  have hs3 := h.keepQ q03
  have ht3 := h'.keepQ q03
  have z1 := q1.size
  have z2 := q2.size
  refine pf_ld hb1.at (pf_box fun b26 w5 hb26 q5 g26 l26 => ?_)
  have M := OBPf.start hb26 q5 g26 l26
  refine jn.mk (fun _ w' => OBPf w3 w' b26 (fun _ => False) (pfOf { a with edit := max a.edit b.edit, delete := max a.delete b.delete, thread := max a.thread b.thread } s)) ?_ ?_
  · show tk _ _
    unfold tk
    have M := M.keepQ (Only.drew (fun _ => False) _)
    refine (hA _ M.q).ld (j := 1) rfl ((hB _ M.q).ld (j := 1) rfl ((hA _ M.q).ld (j := 3) rfl ((hB _ M.q).ld (j := 3) rfl ((hA _ M.q).ld (j := 5) rfl ((hB _ M.q).ld (j := 5) rfl (M.st_edit fun _ M _ => ?_))))))
    repeat (refine ⟨by first | exact (hA _ M.q).cj rfl | exact (hB _ M.q).cj rfl, ?_⟩)
    refine M.st_delete fun _ M _ => ?_
    repeat (refine ⟨by first | exact (hA _ M.q).cj rfl | exact (hB _ M.q).cj rfl, ?_⟩)
    refine M.st_thread fun _ M _ => ?_
    exact M
  rintro _ _ M
  refine jn.mk (fun _ w' => OBPf w3 w' b26 (fun _ => False) (pfOf { a with edit := max a.edit b.edit, delete := max a.delete b.delete, thread := max a.thread b.thread, react := a.react || b.react, quote := a.quote || b.quote, mention := a.mention || b.mention } s)) ?_ ?_
  · show tk _ _
    unfold tk
    have M := M.keepQ (Only.drew (fun _ => False) _)
    refine (hA _ M.q).ld (j := 4) rfl ⟨fun h0 => ?_, fun h0 => ?_⟩
    · refine (hA _ M.q).ld (j := 6) rfl ⟨fun h1 => ?_, fun h1 => ?_⟩
      · refine (hA _ M.q).ld (j := 7) rfl ⟨fun h2 => ?_, fun h2 => ?_⟩
        · refine M.st_react fun _ M _ => ?_
          repeat (refine ⟨by first | exact (hA _ M.q).cj rfl | exact (hB _ M.q).cj rfl, ?_⟩)
          refine M.st_quote fun _ M _ => ?_
          repeat (refine ⟨by first | exact (hA _ M.q).cj rfl | exact (hB _ M.q).cj rfl, ?_⟩)
          refine M.st_mention fun _ M _ => ?_
          have e_react : (a.react || b.react) = true := by rw [show a.react = true from h0]; rfl
          have e_quote : (a.quote || b.quote) = true := by rw [show a.quote = true from h1]; rfl
          have e_mention : (a.mention || b.mention) = true := by rw [show a.mention = true from h2]; rfl
          rw [e_react, e_quote, e_mention]
          exact M
        · refine (hB _ M.q).ld (j := 7) rfl ?_
          refine M.st_react fun _ M _ => ?_
          repeat (refine ⟨by first | exact (hA _ M.q).cj rfl | exact (hB _ M.q).cj rfl, ?_⟩)
          refine M.st_quote fun _ M _ => ?_
          repeat (refine ⟨by first | exact (hA _ M.q).cj rfl | exact (hB _ M.q).cj rfl, ?_⟩)
          refine M.st_mention fun _ M _ => ?_
          have e_react : (a.react || b.react) = true := by rw [show a.react = true from h0]; rfl
          have e_quote : (a.quote || b.quote) = true := by rw [show a.quote = true from h1]; rfl
          have e_mention : (a.mention || b.mention) = b.mention := by rw [show a.mention = false from h2]; rfl
          rw [e_react, e_quote, e_mention]
          exact M
      · refine (hB _ M.q).ld (j := 6) rfl ?_
        refine (hA _ M.q).ld (j := 7) rfl ⟨fun h2 => ?_, fun h2 => ?_⟩
        · refine M.st_react fun _ M _ => ?_
          repeat (refine ⟨by first | exact (hA _ M.q).cj rfl | exact (hB _ M.q).cj rfl, ?_⟩)
          refine M.st_quote fun _ M _ => ?_
          repeat (refine ⟨by first | exact (hA _ M.q).cj rfl | exact (hB _ M.q).cj rfl, ?_⟩)
          refine M.st_mention fun _ M _ => ?_
          have e_react : (a.react || b.react) = true := by rw [show a.react = true from h0]; rfl
          have e_quote : (a.quote || b.quote) = b.quote := by rw [show a.quote = false from h1]; rfl
          have e_mention : (a.mention || b.mention) = true := by rw [show a.mention = true from h2]; rfl
          rw [e_react, e_quote, e_mention]
          exact M
        · refine (hB _ M.q).ld (j := 7) rfl ?_
          refine M.st_react fun _ M _ => ?_
          repeat (refine ⟨by first | exact (hA _ M.q).cj rfl | exact (hB _ M.q).cj rfl, ?_⟩)
          refine M.st_quote fun _ M _ => ?_
          repeat (refine ⟨by first | exact (hA _ M.q).cj rfl | exact (hB _ M.q).cj rfl, ?_⟩)
          refine M.st_mention fun _ M _ => ?_
          have e_react : (a.react || b.react) = true := by rw [show a.react = true from h0]; rfl
          have e_quote : (a.quote || b.quote) = b.quote := by rw [show a.quote = false from h1]; rfl
          have e_mention : (a.mention || b.mention) = b.mention := by rw [show a.mention = false from h2]; rfl
          rw [e_react, e_quote, e_mention]
          exact M
    · refine (hB _ M.q).ld (j := 4) rfl ?_
      refine (hA _ M.q).ld (j := 6) rfl ⟨fun h1 => ?_, fun h1 => ?_⟩
      · refine (hA _ M.q).ld (j := 7) rfl ⟨fun h2 => ?_, fun h2 => ?_⟩
        · refine M.st_react fun _ M _ => ?_
          repeat (refine ⟨by first | exact (hA _ M.q).cj rfl | exact (hB _ M.q).cj rfl, ?_⟩)
          refine M.st_quote fun _ M _ => ?_
          repeat (refine ⟨by first | exact (hA _ M.q).cj rfl | exact (hB _ M.q).cj rfl, ?_⟩)
          refine M.st_mention fun _ M _ => ?_
          have e_react : (a.react || b.react) = b.react := by rw [show a.react = false from h0]; rfl
          have e_quote : (a.quote || b.quote) = true := by rw [show a.quote = true from h1]; rfl
          have e_mention : (a.mention || b.mention) = true := by rw [show a.mention = true from h2]; rfl
          rw [e_react, e_quote, e_mention]
          exact M
        · refine (hB _ M.q).ld (j := 7) rfl ?_
          refine M.st_react fun _ M _ => ?_
          repeat (refine ⟨by first | exact (hA _ M.q).cj rfl | exact (hB _ M.q).cj rfl, ?_⟩)
          refine M.st_quote fun _ M _ => ?_
          repeat (refine ⟨by first | exact (hA _ M.q).cj rfl | exact (hB _ M.q).cj rfl, ?_⟩)
          refine M.st_mention fun _ M _ => ?_
          have e_react : (a.react || b.react) = b.react := by rw [show a.react = false from h0]; rfl
          have e_quote : (a.quote || b.quote) = true := by rw [show a.quote = true from h1]; rfl
          have e_mention : (a.mention || b.mention) = b.mention := by rw [show a.mention = false from h2]; rfl
          rw [e_react, e_quote, e_mention]
          exact M
      · refine (hB _ M.q).ld (j := 6) rfl ?_
        refine (hA _ M.q).ld (j := 7) rfl ⟨fun h2 => ?_, fun h2 => ?_⟩
        · refine M.st_react fun _ M _ => ?_
          repeat (refine ⟨by first | exact (hA _ M.q).cj rfl | exact (hB _ M.q).cj rfl, ?_⟩)
          refine M.st_quote fun _ M _ => ?_
          repeat (refine ⟨by first | exact (hA _ M.q).cj rfl | exact (hB _ M.q).cj rfl, ?_⟩)
          refine M.st_mention fun _ M _ => ?_
          have e_react : (a.react || b.react) = b.react := by rw [show a.react = false from h0]; rfl
          have e_quote : (a.quote || b.quote) = b.quote := by rw [show a.quote = false from h1]; rfl
          have e_mention : (a.mention || b.mention) = true := by rw [show a.mention = true from h2]; rfl
          rw [e_react, e_quote, e_mention]
          exact M
        · refine (hB _ M.q).ld (j := 7) rfl ?_
          refine M.st_react fun _ M _ => ?_
          repeat (refine ⟨by first | exact (hA _ M.q).cj rfl | exact (hB _ M.q).cj rfl, ?_⟩)
          refine M.st_quote fun _ M _ => ?_
          repeat (refine ⟨by first | exact (hA _ M.q).cj rfl | exact (hB _ M.q).cj rfl, ?_⟩)
          refine M.st_mention fun _ M _ => ?_
          have e_react : (a.react || b.react) = b.react := by rw [show a.react = false from h0]; rfl
          have e_quote : (a.quote || b.quote) = b.quote := by rw [show a.quote = false from h1]; rfl
          have e_mention : (a.mention || b.mention) = b.mention := by rw [show a.mention = false from h2]; rfl
          rw [e_react, e_quote, e_mention]
          exact M
  rintro _ _ M
  refine jn.mk (fun _ w' => OBPf w3 w' b26 (fun _ => False) (pfOf { a with edit := max a.edit b.edit, delete := max a.delete b.delete, thread := max a.thread b.thread, react := a.react || b.react, quote := a.quote || b.quote, mention := a.mention || b.mention, size := max a.size b.size, parts := max a.parts b.parts, level := max a.level b.level } s)) ?_ ?_
  · show tk _ _
    unfold tk
    have M := M.keepQ (Only.drew (fun _ => False) _)
    refine (hA _ M.q).ld (j := 8) rfl ((hB _ M.q).ld (j := 8) rfl ((hA _ M.q).ld (j := 9) rfl ((hB _ M.q).ld (j := 9) rfl ((hA _ M.q).ld (j := 16) rfl ((hB _ M.q).ld (j := 16) rfl (M.st_size fun _ M _ => ?_))))))
    repeat (refine ⟨by first | exact (hA _ M.q).cj rfl | exact (hB _ M.q).cj rfl, ?_⟩)
    refine M.st_parts fun _ M _ => ?_
    repeat (refine ⟨by first | exact (hA _ M.q).cj rfl | exact (hB _ M.q).cj rfl, ?_⟩)
    refine M.st_level fun _ M _ => ?_
    exact M
  rintro _ _ M
  refine jn.mk (fun _ w' => OBPf w3 w' b26 (fun _ => False) (pfOf { a with edit := max a.edit b.edit, delete := max a.delete b.delete, thread := max a.thread b.thread, react := a.react || b.react, quote := a.quote || b.quote, mention := a.mention || b.mention, size := max a.size b.size, parts := max a.parts b.parts, level := max a.level b.level, files := max a.files b.files, bytes := max a.bytes b.bytes } s)) ?_ ?_
  · show tk _ _
    unfold tk
    have M := M.keepQ (Only.drew (fun _ => False) _)
    refine (hA _ M.q).ld (j := 10) rfl ((hB _ M.q).ld (j := 10) rfl ((hA _ M.q).ld (j := 11) rfl ((hB _ M.q).ld (j := 11) rfl (M.st_files fun _ M _ => ?_))))
    repeat (refine ⟨by first | exact (hA _ M.q).cj rfl | exact (hB _ M.q).cj rfl, ?_⟩)
    refine M.st_bytes fun _ M _ => ?_
    exact M
  rintro _ _ M
  refine pf_ld (hA _ M.q) (pf_ld (hB _ M.q) ((long_c _ a b s t).use ?_))
  rintro r153 w46 ⟨rfl, q46⟩
  have M := M.keepQ q46
  refine M.st_within fun w47 M on47 => (hA _ M.q).ld (j := 12) rfl ((clone_c w47 s a.types (hs3.keepQ M.q) hl).use ?_)
  rintro r156 w48 ⟨F0, o0, f0⟩
  have M : OBPf w3 w48 b26 F0 _ := ⟨M.h.keepQ f0.q, M.O.n0 f0⟩
  refine M.st_types fun w49 M' on49 => ?_
  have o0 := o0.keep on49 M.O.d01
  have M : OBPf w3 w49 b26 F0 (pfOf (joinA a b) r156) := M'
  refine (hB _ M.q).ld (j := 12) rfl ?_
  refine ⟨fun i w' => 0 ≤ i ∧ i ≤ b.types.length ∧ ∃ F s', OBPf w3 w' b26 F (pfOf (joinA a b) s') ∧ OwnF w' F 9 1 s' ((a.types ++ (b.types.take i.toNat).filter fun t => !decide (t ∈ a.types)).flatMap cb), fun i _ => (b.types.length - i).toNat, ⟨by omega, by omega, _, _, M, by simpa using o0⟩, ?_⟩
  clear M o0 on47 on49 M'
  rintro i w50 ⟨i0, i1, F, s', M, o⟩
  refine ⟨fun hi => ?_, fun hi => ?_⟩
  · have hlt : i < b.types.length := by
      have hi : i < (t.len : Int) := of_decide_eq_true hi
      omega
    obtain ⟨x, hx⟩ := getq i0 hlt
    have hfn := filter_next (fun t => !decide (t ∈ a.types)) hx
    have hfl := filter_len b.types (fun t => !decide (t ∈ a.types)) i.toNat
    have hol := (o.rd cb1 (by decide)).len
    rw [List.length_append] at hol
    refine jn.mk (fun _ w' => ∃ F s', OBPf w3 w' b26 F (pfOf (joinA a b) s') ∧ OwnF w' F 9 1 s' ((a.types ++ (b.types.take (i.toNat + 1)).filter fun t => !decide (t ∈ a.types)).flatMap cb)) ?_ ?_
    · rw [hfn]
      refine (ht3.keepQ M.q).ixx i0 hx fun p hat _ => hat.ld0 rfl ((hA _ M.q).ld (j := 12) rfl (use_same (contains_c w50 s a.types x (hs3.keepQ M.q) (by omega)) ⟨fun g => ?_, fun g => ⟨F, s', M, ?_⟩⟩))
      · refine M.h.at.ld (j := 12) rfl (OwnF.push (news := cb x) ap22S o rfl rfl (by show s'.len + 1 ≤ maxLen; unfold maxLen; omega) (by show (s'.len + 1) * 16 ≤ _; omega) fun r w51 F' o' _ st' => ?_)
        have M' := M.own st'
        refine M'.st_types fun w52 M'' on52 => ⟨F', r, M'', ?_⟩
        rw [if_pos g, ← List.append_assoc, List.flatMap_append, List.flatMap_singleton]
        exact o'.keep on52 M'.O.d01
      · rw [if_neg (by rw [g]; decide), List.append_nil]
        exact o
    · rintro _ w48 ⟨F', s'', M', o'⟩
      rw [w64 (by omega) (by omega)]
      refine ⟨⟨by omega, by omega, F', s'', M', ?_⟩, by (try dsimp only); omega⟩
      rw [toNat_succ i0]
      exact o'
  rw [List.take_of_length_le (by
    have hi : ¬ i < (t.len : Int) := of_decide_eq_false hi
    omega)] at o
  refine pf_ld M.h.at (pf_st (hb3.keepQ M.q) rfl fun w62 h62 on62 s62 => pf_ld h62.at ?_)
  have zq := M.q.size
  refine ⟨_, rfl, s', F, rfl, ?_, ⟨(q03.tr M.q).new on62 fun x hx => by omega, fun y hy => ?_⟩⟩
  · exact o.keep on62 fun y hy e => by
      have := M.O.sep.ge 0 y (by unfold two; simpa using hy)
      omega
  · have h1 := M.O.sep.ge 0 y (by unfold two; simpa using hy)
    have h2 := M.O.sep.lt 0 y (by unfold two; simpa using hy)
    omega

end Go.Proofs.Ytnoahloppffndaa
