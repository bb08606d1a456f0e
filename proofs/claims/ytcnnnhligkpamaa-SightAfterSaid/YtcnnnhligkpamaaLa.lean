import Derived.Test.YtcnnnhligkpamaaSx
import Derived.Test.YtcnnnhligkpamaaLaw
namespace Go.Proofs.Ytcnnnhligkpamaa
open Go.Dec Go.RowKit Go.ChangeShapes Go.WideShapes Go.ChangeAt Go.Deep
set_option maxHeartbeats 400000

theorem own : ownKnob Try.prog.godebug = none := by kernel_rfl
theorem laidOut : laidOutB Try.prog = true := by kernel_rfl

theorem cells33_ : Try.prog.cellsOf 33 = 22 := by kernel_rfl
theorem under33_ : Try.prog.underlying 33 = some (.struct (Try.prog.fieldsOf 33)) := by kernel_rfl
theorem one33_ : oneCellFields Try.prog (Try.prog.fieldsOf 33) = true := by kernel_rfl
theorem size33_ : (Try.prog.fieldsOf 33).size = 22 := by kernel_rfl
theorem f33_0 : ∃ f, (Try.prog.fieldsOf 33)[0]? = some f ∧ f.type = 9 := ⟨_, rfl, by kernel_rfl⟩
theorem f33_1 : ∃ f, (Try.prog.fieldsOf 33)[1]? = some f ∧ f.type = 3 := ⟨_, rfl, by kernel_rfl⟩
theorem f33_2 : ∃ f, (Try.prog.fieldsOf 33)[2]? = some f ∧ f.type = 3 := ⟨_, rfl, by kernel_rfl⟩
theorem f33_3 : ∃ f, (Try.prog.fieldsOf 33)[3]? = some f ∧ f.type = 3 := ⟨_, rfl, by kernel_rfl⟩
theorem f33_4 : ∃ f, (Try.prog.fieldsOf 33)[4]? = some f ∧ f.type = 4 := ⟨_, rfl, by kernel_rfl⟩
theorem f33_5 : ∃ f, (Try.prog.fieldsOf 33)[5]? = some f ∧ f.type = 3 := ⟨_, rfl, by kernel_rfl⟩
theorem f33_6 : ∃ f, (Try.prog.fieldsOf 33)[6]? = some f ∧ f.type = 4 := ⟨_, rfl, by kernel_rfl⟩
theorem f33_7 : ∃ f, (Try.prog.fieldsOf 33)[7]? = some f ∧ f.type = 4 := ⟨_, rfl, by kernel_rfl⟩
theorem f33_8 : ∃ f, (Try.prog.fieldsOf 33)[8]? = some f ∧ f.type = 3 := ⟨_, rfl, by kernel_rfl⟩
theorem f33_9 : ∃ f, (Try.prog.fieldsOf 33)[9]? = some f ∧ f.type = 3 := ⟨_, rfl, by kernel_rfl⟩
theorem f33_10 : ∃ f, (Try.prog.fieldsOf 33)[10]? = some f ∧ f.type = 3 := ⟨_, rfl, by kernel_rfl⟩
theorem f33_11 : ∃ f, (Try.prog.fieldsOf 33)[11]? = some f ∧ f.type = 3 := ⟨_, rfl, by kernel_rfl⟩
theorem f33_12 : ∃ f, (Try.prog.fieldsOf 33)[12]? = some f ∧ f.type = 31 := ⟨_, rfl, by kernel_rfl⟩
theorem f33_13 : ∃ f, (Try.prog.fieldsOf 33)[13]? = some f ∧ f.type = 3 := ⟨_, rfl, by kernel_rfl⟩
theorem f33_14 : ∃ f, (Try.prog.fieldsOf 33)[14]? = some f ∧ f.type = 3 := ⟨_, rfl, by kernel_rfl⟩
theorem f33_15 : ∃ f, (Try.prog.fieldsOf 33)[15]? = some f ∧ f.type = 3 := ⟨_, rfl, by kernel_rfl⟩
theorem f33_16 : ∃ f, (Try.prog.fieldsOf 33)[16]? = some f ∧ f.type = 3 := ⟨_, rfl, by kernel_rfl⟩
theorem f33_17 : ∃ f, (Try.prog.fieldsOf 33)[17]? = some f ∧ f.type = 4 := ⟨_, rfl, by kernel_rfl⟩
theorem f33_18 : ∃ f, (Try.prog.fieldsOf 33)[18]? = some f ∧ f.type = 3 := ⟨_, rfl, by kernel_rfl⟩
theorem f33_19 : ∃ f, (Try.prog.fieldsOf 33)[19]? = some f ∧ f.type = 3 := ⟨_, rfl, by kernel_rfl⟩
theorem f33_20 : ∃ f, (Try.prog.fieldsOf 33)[20]? = some f ∧ f.type = 3 := ⟨_, rfl, by kernel_rfl⟩
theorem f33_21 : ∃ f, (Try.prog.fieldsOf 33)[21]? = some f ∧ f.type = 3 := ⟨_, rfl, by kernel_rfl⟩
theorem len33_ {l : List Value} (h : l.length = 22) : ∃ a0 a1 a2 a3 a4 a5 a6 a7 a8 a9 a10 a11 a12 a13 a14 a15 a16 a17 a18 a19 a20 a21, l = [a0, a1, a2, a3, a4, a5, a6, a7, a8, a9, a10, a11, a12, a13, a14, a15, a16, a17, a18, a19, a20, a21] := by
  match l, h with
  | [a0, a1, a2, a3, a4, a5, a6, a7, a8, a9, a10, a11, a12, a13, a14, a15, a16, a17, a18, a19, a20, a21], _ => exact ⟨a0, a1, a2, a3, a4, a5, a6, a7, a8, a9, a10, a11, a12, a13, a14, a15, a16, a17, a18, a19, a20, a21, rfl⟩
def net_ok (_ : Pf) : Prop := True ∧ True ∧ True ∧ True ∧ True ∧ True ∧ True ∧ True ∧ True ∧ True ∧ True ∧ True ∧ True ∧ True ∧ True ∧ True ∧ True ∧ True ∧ True ∧ True ∧ True ∧ True
theorem net_cells {H : Type} {enc : TypeId × Value → H} {W : World} (n : Nat) (cs : List Value) (x : DataW H × List MemPlace) (hl : cs.length = 22) (h : DataW.trod enc Try.prog W 0 (fun _ => true) true n 33 cs = some x) : ∃ y : Pf, cs = pf y ∧ net_ok y := by
  obtain ⟨a0, a1, a2, a3, a4, a5, a6, a7, a8, a9, a10, a11, a12, a13, a14, a15, a16, a17, a18, a19, a20, a21, rfl⟩ := len33_ hl
  have key := struct_cells under33_ one33_ h (by rw [size33_]; rfl)
  obtain ⟨f, h0, t0⟩ := f33_0
  obtain ⟨v0, y, m, e0, r0⟩ := key 0 f h0
  rw [t0] at r0
  clear h0 t0 f
  obtain ⟨i0, rfl, g0⟩ := one_string Try.underlying9 r0
  obtain ⟨f, h0, t0⟩ := f33_1
  obtain ⟨v1, y, m, e1, r1⟩ := key 1 f h0
  rw [t0] at r1
  clear h0 t0 f
  obtain ⟨i1, rfl, g1⟩ := one_int Try.underlying3 r1
  obtain ⟨f, h0, t0⟩ := f33_2
  obtain ⟨v2, y, m, e2, r2⟩ := key 2 f h0
  rw [t0] at r2
  clear h0 t0 f
  obtain ⟨i2, rfl, g2⟩ := one_int Try.underlying3 r2
  obtain ⟨f, h0, t0⟩ := f33_3
  obtain ⟨v3, y, m, e3, r3⟩ := key 3 f h0
  rw [t0] at r3
  clear h0 t0 f
  obtain ⟨i3, rfl, g3⟩ := one_int Try.underlying3 r3
  obtain ⟨f, h0, t0⟩ := f33_4
  obtain ⟨v4, y, m, e4, r4⟩ := key 4 f h0
  rw [t0] at r4
  clear h0 t0 f
  obtain ⟨i4, rfl, g4⟩ := one_bool Try.underlying4 r4
  obtain ⟨f, h0, t0⟩ := f33_5
  obtain ⟨v5, y, m, e5, r5⟩ := key 5 f h0
  rw [t0] at r5
  clear h0 t0 f
  obtain ⟨i5, rfl, g5⟩ := one_int Try.underlying3 r5
  obtain ⟨f, h0, t0⟩ := f33_6
  obtain ⟨v6, y, m, e6, r6⟩ := key 6 f h0
  rw [t0] at r6
  clear h0 t0 f
  obtain ⟨i6, rfl, g6⟩ := one_bool Try.underlying4 r6
  obtain ⟨f, h0, t0⟩ := f33_7
  obtain ⟨v7, y, m, e7, r7⟩ := key 7 f h0
  rw [t0] at r7
  clear h0 t0 f
  obtain ⟨i7, rfl, g7⟩ := one_bool Try.underlying4 r7
  obtain ⟨f, h0, t0⟩ := f33_8
  obtain ⟨v8, y, m, e8, r8⟩ := key 8 f h0
  rw [t0] at r8
  clear h0 t0 f
  obtain ⟨i8, rfl, g8⟩ := one_int Try.underlying3 r8
  obtain ⟨f, h0, t0⟩ := f33_9
  obtain ⟨v9, y, m, e9, r9⟩ := key 9 f h0
  rw [t0] at r9
  clear h0 t0 f
  obtain ⟨i9, rfl, g9⟩ := one_int Try.underlying3 r9
  obtain ⟨f, h0, t0⟩ := f33_10
  obtain ⟨v10, y, m, e10, r10⟩ := key 10 f h0
  rw [t0] at r10
  clear h0 t0 f
  obtain ⟨i10, rfl, g10⟩ := one_int Try.underlying3 r10
  obtain ⟨f, h0, t0⟩ := f33_11
  obtain ⟨v11, y, m, e11, r11⟩ := key 11 f h0
  rw [t0] at r11
  clear h0 t0 f
  obtain ⟨i11, rfl, g11⟩ := one_int Try.underlying3 r11
  obtain ⟨f, h0, t0⟩ := f33_12
  obtain ⟨v12, y, m, e12, r12⟩ := key 12 f h0
  rw [t0] at r12
  clear h0 t0 f
  obtain ⟨i12, rfl, g12⟩ := one_slice Try.underlying31 r12
  obtain ⟨f, h0, t0⟩ := f33_13
  obtain ⟨v13, y, m, e13, r13⟩ := key 13 f h0
  rw [t0] at r13
  clear h0 t0 f
  obtain ⟨i13, rfl, g13⟩ := one_int Try.underlying3 r13
  obtain ⟨f, h0, t0⟩ := f33_14
  obtain ⟨v14, y, m, e14, r14⟩ := key 14 f h0
  rw [t0] at r14
  clear h0 t0 f
  obtain ⟨i14, rfl, g14⟩ := one_int Try.underlying3 r14
  obtain ⟨f, h0, t0⟩ := f33_15
  obtain ⟨v15, y, m, e15, r15⟩ := key 15 f h0
  rw [t0] at r15
  clear h0 t0 f
  obtain ⟨i15, rfl, g15⟩ := one_int Try.underlying3 r15
  obtain ⟨f, h0, t0⟩ := f33_16
  obtain ⟨v16, y, m, e16, r16⟩ := key 16 f h0
  rw [t0] at r16
  clear h0 t0 f
  obtain ⟨i16, rfl, g16⟩ := one_int Try.underlying3 r16
  obtain ⟨f, h0, t0⟩ := f33_17
  obtain ⟨v17, y, m, e17, r17⟩ := key 17 f h0
  rw [t0] at r17
  clear h0 t0 f
  obtain ⟨i17, rfl, g17⟩ := one_bool Try.underlying4 r17
  obtain ⟨f, h0, t0⟩ := f33_18
  obtain ⟨v18, y, m, e18, r18⟩ := key 18 f h0
  rw [t0] at r18
  clear h0 t0 f
  obtain ⟨i18, rfl, g18⟩ := one_int Try.underlying3 r18
  obtain ⟨f, h0, t0⟩ := f33_19
  obtain ⟨v19, y, m, e19, r19⟩ := key 19 f h0
  rw [t0] at r19
  clear h0 t0 f
  obtain ⟨i19, rfl, g19⟩ := one_int Try.underlying3 r19
  obtain ⟨f, h0, t0⟩ := f33_20
  obtain ⟨v20, y, m, e20, r20⟩ := key 20 f h0
  rw [t0] at r20
  clear h0 t0 f
  obtain ⟨i20, rfl, g20⟩ := one_int Try.underlying3 r20
  obtain ⟨f, h0, t0⟩ := f33_21
  obtain ⟨v21, y, m, e21, r21⟩ := key 21 f h0
  rw [t0] at r21
  clear h0 t0 f
  obtain ⟨i21, rfl, g21⟩ := one_int Try.underlying3 r21
  simp at e0 e1 e2 e3 e4 e5 e6 e7 e8 e9 e10 e11 e12 e13 e14 e15 e16 e17 e18 e19 e20 e21
  subst e0 e1 e2 e3 e4 e5 e6 e7 e8 e9 e10 e11 e12 e13 e14 e15 e16 e17 e18 e19 e20 e21
  exact ⟨⟨i0, i1, i2, i3, i4, i5, i6, i7, i8, i9, i10, i11, i12, i13, i14, i15, i16, i17, i18, i19, i20, i21⟩, rfl, trivial, trivial, trivial, trivial, trivial, trivial, trivial, trivial, trivial, trivial, trivial, trivial, trivial, trivial, trivial, trivial, trivial, trivial, trivial, trivial, trivial, trivial⟩

theorem cells41_ : Try.prog.cellsOf 41 = 12 := by kernel_rfl
theorem under41_ : Try.prog.underlying 41 = some (.struct (Try.prog.fieldsOf 41)) := by kernel_rfl
theorem one41_ : oneCellFields Try.prog (Try.prog.fieldsOf 41) = true := by kernel_rfl
theorem size41_ : (Try.prog.fieldsOf 41).size = 12 := by kernel_rfl
theorem f41_0 : ∃ f, (Try.prog.fieldsOf 41)[0]? = some f ∧ f.type = 3 := ⟨_, rfl, by kernel_rfl⟩
theorem f41_1 : ∃ f, (Try.prog.fieldsOf 41)[1]? = some f ∧ f.type = 3 := ⟨_, rfl, by kernel_rfl⟩
theorem f41_2 : ∃ f, (Try.prog.fieldsOf 41)[2]? = some f ∧ f.type = 28 := ⟨_, rfl, by kernel_rfl⟩
theorem f41_3 : ∃ f, (Try.prog.fieldsOf 41)[3]? = some f ∧ f.type = 3 := ⟨_, rfl, by kernel_rfl⟩
theorem f41_4 : ∃ f, (Try.prog.fieldsOf 41)[4]? = some f ∧ f.type = 3 := ⟨_, rfl, by kernel_rfl⟩
theorem f41_5 : ∃ f, (Try.prog.fieldsOf 41)[5]? = some f ∧ f.type = 3 := ⟨_, rfl, by kernel_rfl⟩
theorem f41_6 : ∃ f, (Try.prog.fieldsOf 41)[6]? = some f ∧ f.type = 3 := ⟨_, rfl, by kernel_rfl⟩
theorem f41_7 : ∃ f, (Try.prog.fieldsOf 41)[7]? = some f ∧ f.type = 3 := ⟨_, rfl, by kernel_rfl⟩
theorem f41_8 : ∃ f, (Try.prog.fieldsOf 41)[8]? = some f ∧ f.type = 3 := ⟨_, rfl, by kernel_rfl⟩
theorem f41_9 : ∃ f, (Try.prog.fieldsOf 41)[9]? = some f ∧ f.type = 9 := ⟨_, rfl, by kernel_rfl⟩
theorem f41_10 : ∃ f, (Try.prog.fieldsOf 41)[10]? = some f ∧ f.type = 28 := ⟨_, rfl, by kernel_rfl⟩
theorem f41_11 : ∃ f, (Try.prog.fieldsOf 41)[11]? = some f ∧ f.type = 3 := ⟨_, rfl, by kernel_rfl⟩
theorem len41_ {l : List Value} (h : l.length = 12) : ∃ a0 a1 a2 a3 a4 a5 a6 a7 a8 a9 a10 a11, l = [a0, a1, a2, a3, a4, a5, a6, a7, a8, a9, a10, a11] := by
  match l, h with
  | [a0, a1, a2, a3, a4, a5, a6, a7, a8, a9, a10, a11], _ => exact ⟨a0, a1, a2, a3, a4, a5, a6, a7, a8, a9, a10, a11, rfl⟩
def eve_ok (_ : Ev) : Prop := True ∧ True ∧ True ∧ True ∧ True ∧ True ∧ True ∧ True ∧ True ∧ True ∧ True ∧ True
theorem eve_cells {H : Type} {enc : TypeId × Value → H} {W : World} (n : Nat) (cs : List Value) (x : DataW H × List MemPlace) (hl : cs.length = 12) (h : DataW.trod enc Try.prog W 0 (fun _ => true) true n 41 cs = some x) : ∃ y : Ev, cs = ev y ∧ eve_ok y := by
  obtain ⟨a0, a1, a2, a3, a4, a5, a6, a7, a8, a9, a10, a11, rfl⟩ := len41_ hl
  have key := struct_cells under41_ one41_ h (by rw [size41_]; rfl)
  obtain ⟨f, h0, t0⟩ := f41_0
  obtain ⟨v0, y, m, e0, r0⟩ := key 0 f h0
  rw [t0] at r0
  clear h0 t0 f
  obtain ⟨i0, rfl, g0⟩ := one_int Try.underlying3 r0
  obtain ⟨f, h0, t0⟩ := f41_1
  obtain ⟨v1, y, m, e1, r1⟩ := key 1 f h0
  rw [t0] at r1
  clear h0 t0 f
  obtain ⟨i1, rfl, g1⟩ := one_int Try.underlying3 r1
  obtain ⟨f, h0, t0⟩ := f41_2
  obtain ⟨v2, y, m, e2, r2⟩ := key 2 f h0
  rw [t0] at r2
  clear h0 t0 f
  obtain ⟨i2, rfl, g2⟩ := one_slice Try.underlying28 r2
  obtain ⟨f, h0, t0⟩ := f41_3
  obtain ⟨v3, y, m, e3, r3⟩ := key 3 f h0
  rw [t0] at r3
  clear h0 t0 f
  obtain ⟨i3, rfl, g3⟩ := one_int Try.underlying3 r3
  obtain ⟨f, h0, t0⟩ := f41_4
  obtain ⟨v4, y, m, e4, r4⟩ := key 4 f h0
  rw [t0] at r4
  clear h0 t0 f
  obtain ⟨i4, rfl, g4⟩ := one_int Try.underlying3 r4
  obtain ⟨f, h0, t0⟩ := f41_5
  obtain ⟨v5, y, m, e5, r5⟩ := key 5 f h0
  rw [t0] at r5
  clear h0 t0 f
  obtain ⟨i5, rfl, g5⟩ := one_int Try.underlying3 r5
  obtain ⟨f, h0, t0⟩ := f41_6
  obtain ⟨v6, y, m, e6, r6⟩ := key 6 f h0
  rw [t0] at r6
  clear h0 t0 f
  obtain ⟨i6, rfl, g6⟩ := one_int Try.underlying3 r6
  obtain ⟨f, h0, t0⟩ := f41_7
  obtain ⟨v7, y, m, e7, r7⟩ := key 7 f h0
  rw [t0] at r7
  clear h0 t0 f
  obtain ⟨i7, rfl, g7⟩ := one_int Try.underlying3 r7
  obtain ⟨f, h0, t0⟩ := f41_8
  obtain ⟨v8, y, m, e8, r8⟩ := key 8 f h0
  rw [t0] at r8
  clear h0 t0 f
  obtain ⟨i8, rfl, g8⟩ := one_int Try.underlying3 r8
  obtain ⟨f, h0, t0⟩ := f41_9
  obtain ⟨v9, y, m, e9, r9⟩ := key 9 f h0
  rw [t0] at r9
  clear h0 t0 f
  obtain ⟨i9, rfl, g9⟩ := one_string Try.underlying9 r9
  obtain ⟨f, h0, t0⟩ := f41_10
  obtain ⟨v10, y, m, e10, r10⟩ := key 10 f h0
  rw [t0] at r10
  clear h0 t0 f
  obtain ⟨i10, rfl, g10⟩ := one_slice Try.underlying28 r10
  obtain ⟨f, h0, t0⟩ := f41_11
  obtain ⟨v11, y, m, e11, r11⟩ := key 11 f h0
  rw [t0] at r11
  clear h0 t0 f
  obtain ⟨i11, rfl, g11⟩ := one_int Try.underlying3 r11
  simp at e0 e1 e2 e3 e4 e5 e6 e7 e8 e9 e10 e11
  subst e0 e1 e2 e3 e4 e5 e6 e7 e8 e9 e10 e11
  exact ⟨⟨i0, i1, i2, i3, i4, i5, i6, i7, i8, i9, i10, i11⟩, rfl, trivial, trivial, trivial, trivial, trivial, trivial, trivial, trivial, trivial, trivial, trivial, trivial⟩

set_option maxRecDepth 100000 in
theorem sightAfter_lifted (os : Os) (started : os.Started) (H : Type) (enc : TypeId × Value → H) :
    ReturnsInHanded {} Try.checked os 6 .any (Rows.sightAfterSpec.pre6 enc Try.prog Try.f6 Rows.sightAfterRow.domain false) (Rows.sightAfterSpec.post enc Try.prog Try.f6 false true false false) := by
  refine returnsInHanded_of_change (C := Try.checked) own started (by kernel_rfl) Try.func6
    (ChangeSpec.witness6 (enc := enc) (C := Try.checked) false ⟨#[], #[.slice none 0 0, .slice none 0 0, .int .i64 0, .int .u8 0], []⟩ 20 (by kernel_rfl) (by kernel_rfl) (by kernel_rfl) (by kernel_rfl)) ?_
  intro W base args ds gs before hval0 hW hcnd _
  have hval : ∀ (j : Nat) t v, Try.f6.params[j]? = some t → args[j]? = some v → Value.okWide Try.prog W .any base t v := hval0
  have hW' := hW
  obtain ⟨p, q, hA0, hV, rfl, hfz, hnd⟩ := hW
  have hA : DataW.TrodAll enc Try.prog W 0 (fun _ => true) true Try.f6.params.toList args.toList ds p := hA0
  rw [Try.params6] at hA hval
  obtain ⟨v0, vs0, d0, ds0, p0, q0, hargs, rfl, rfl, h0, r0⟩ := trodAll_cons hA
  obtain ⟨v1, vs1, d1, ds1, p1, q1, rfl, rfl, rfl, h1, r1⟩ := trodAll_cons r0
  obtain ⟨v2, vs2, d2, ds2, p2, q2, rfl, rfl, rfl, h2, r2⟩ := trodAll_cons r1
  obtain ⟨v3, vs3, d3, ds3, p3, q3, rfl, rfl, rfl, h3, r3⟩ := trodAll_cons r2
  obtain ⟨rfl, rfl, rfl⟩ := trodAll_nil r3
  obtain rfl : args = #[v0, v1, v2, v3] := by cases args; simp_all
  have hgs : gs = [] := (trodVars_none hV).1
  subst hgs
  obtain ⟨s0, l0, rfl, hrd0, hB0, hl0, hq0⟩ := open_rd (enc := enc) pf 22 Try.underlying22 cells33_ pf_len (by decide) (hval 0 22 v0 rfl rfl) h0 net_cells
  obtain ⟨s1, l1, rfl, hrd1, hB1, hl1, hq1⟩ := open_rd (enc := enc) ev 12 Try.underlying23 cells41_ ev_len (by decide) (hval 1 23 v1 rfl rfl) h1 eve_cells
  obtain ⟨i2, rfl, _, _, hw2⟩ := open_int Try.underlying3 (hval 2 3 v2 rfl rfl) h2
  obtain ⟨i3, rfl, _, _, hw3⟩ := open_int Try.underlying5 (hval 3 5 v3 rfl rfl) h3
  refine Calls.mono (after W s0 l0 hrd0 hB0 hl0 s1 l1 hrd1 hB1 hl1 (trod_cap Try.underlying23 h1) i2 (wf_i64 hw2).1 (wf_i64 hw2).2 i3 (wf_u8 hw3).1 (wf_u8 hw3).2) ?_
  rintro e W' ⟨r, rfl, rfl, hbel⟩
  exact ⟨_, rfl, law_post laidOut (by kernel_rfl) rfl rfl Try.underlying4 hW' ⟨rfl, rfl, rfl⟩ hbel⟩

theorem sightAfter_holds : Rows.SightAfterSaid :=
  OpenClaim.holds_of_wide 6 Try.f6 rfl rfl rfl rfl rfl rfl rfl ⟨rfl, rfl, rfl, rfl, rfl⟩ rfl rfl rfl rfl rfl (by kernel_rfl) Try.func6 (by kernel_rfl)
    (of_decide_eq_true (by kernel_rfl)) (by unfold Func.isWrapper; first | (rw [if_pos (by decide +kernel)]; kernel_rfl) | (rw [if_neg (by decide +kernel)]; exact ⟨rfl, rfl⟩))
    (fun os started H enc _ => sightAfter_lifted os started H enc)

end Go.Proofs.Ytcnnnhligkpamaa

