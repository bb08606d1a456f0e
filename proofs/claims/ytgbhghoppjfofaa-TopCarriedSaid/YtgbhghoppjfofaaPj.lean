import Derived.Test.YtgbhghoppjfofaaLaw
import Derived.Test.YtgbhghoppjfofaaPd
namespace Go.Proofs.Ytgbhghoppjfofaa
open Go.Dec Go.RowKit Go.ChangeShapes Go.WideShapes Go.ChangeAt Go.Deep
set_option maxHeartbeats 800000
set_option maxRecDepth 100000

theorem cellsP : Try.prog.cellsOf 24 = 22 := by kernel_rfl
theorem underP : Try.prog.underlying 24 = some (.struct (Try.prog.fieldsOf 24)) := by kernel_rfl
theorem oneP : oneCellFields Try.prog (Try.prog.fieldsOf 24) = true := by kernel_rfl
theorem sizeP : (Try.prog.fieldsOf 24).size = 22 := by kernel_rfl
theorem fP_0 : ∃ f, (Try.prog.fieldsOf 24)[0]? = some f ∧ f.type = 9 := ⟨_, rfl, by kernel_rfl⟩
theorem fP_1 : ∃ f, (Try.prog.fieldsOf 24)[1]? = some f ∧ f.type = 3 := ⟨_, rfl, by kernel_rfl⟩
theorem fP_2 : ∃ f, (Try.prog.fieldsOf 24)[2]? = some f ∧ f.type = 3 := ⟨_, rfl, by kernel_rfl⟩
theorem fP_3 : ∃ f, (Try.prog.fieldsOf 24)[3]? = some f ∧ f.type = 3 := ⟨_, rfl, by kernel_rfl⟩
theorem fP_4 : ∃ f, (Try.prog.fieldsOf 24)[4]? = some f ∧ f.type = 4 := ⟨_, rfl, by kernel_rfl⟩
theorem fP_5 : ∃ f, (Try.prog.fieldsOf 24)[5]? = some f ∧ f.type = 3 := ⟨_, rfl, by kernel_rfl⟩
theorem fP_6 : ∃ f, (Try.prog.fieldsOf 24)[6]? = some f ∧ f.type = 4 := ⟨_, rfl, by kernel_rfl⟩
theorem fP_7 : ∃ f, (Try.prog.fieldsOf 24)[7]? = some f ∧ f.type = 4 := ⟨_, rfl, by kernel_rfl⟩
theorem fP_8 : ∃ f, (Try.prog.fieldsOf 24)[8]? = some f ∧ f.type = 3 := ⟨_, rfl, by kernel_rfl⟩
theorem fP_9 : ∃ f, (Try.prog.fieldsOf 24)[9]? = some f ∧ f.type = 3 := ⟨_, rfl, by kernel_rfl⟩
theorem fP_10 : ∃ f, (Try.prog.fieldsOf 24)[10]? = some f ∧ f.type = 3 := ⟨_, rfl, by kernel_rfl⟩
theorem fP_11 : ∃ f, (Try.prog.fieldsOf 24)[11]? = some f ∧ f.type = 3 := ⟨_, rfl, by kernel_rfl⟩
theorem fP_12 : ∃ f, (Try.prog.fieldsOf 24)[12]? = some f ∧ f.type = 22 := ⟨_, rfl, by kernel_rfl⟩
theorem fP_13 : ∃ f, (Try.prog.fieldsOf 24)[13]? = some f ∧ f.type = 3 := ⟨_, rfl, by kernel_rfl⟩
theorem fP_14 : ∃ f, (Try.prog.fieldsOf 24)[14]? = some f ∧ f.type = 3 := ⟨_, rfl, by kernel_rfl⟩
theorem fP_15 : ∃ f, (Try.prog.fieldsOf 24)[15]? = some f ∧ f.type = 3 := ⟨_, rfl, by kernel_rfl⟩
theorem fP_16 : ∃ f, (Try.prog.fieldsOf 24)[16]? = some f ∧ f.type = 3 := ⟨_, rfl, by kernel_rfl⟩
theorem fP_17 : ∃ f, (Try.prog.fieldsOf 24)[17]? = some f ∧ f.type = 4 := ⟨_, rfl, by kernel_rfl⟩
theorem fP_18 : ∃ f, (Try.prog.fieldsOf 24)[18]? = some f ∧ f.type = 3 := ⟨_, rfl, by kernel_rfl⟩
theorem fP_19 : ∃ f, (Try.prog.fieldsOf 24)[19]? = some f ∧ f.type = 3 := ⟨_, rfl, by kernel_rfl⟩
theorem fP_20 : ∃ f, (Try.prog.fieldsOf 24)[20]? = some f ∧ f.type = 3 := ⟨_, rfl, by kernel_rfl⟩
theorem fP_21 : ∃ f, (Try.prog.fieldsOf 24)[21]? = some f ∧ f.type = 3 := ⟨_, rfl, by kernel_rfl⟩
theorem lenP {l : List Value} (h : l.length = 22) : ∃ a0 a1 a2 a3 a4 a5 a6 a7 a8 a9 a10 a11 a12 a13 a14 a15 a16 a17 a18 a19 a20 a21, l = [a0, a1, a2, a3, a4, a5, a6, a7, a8, a9, a10, a11, a12, a13, a14, a15, a16, a17, a18, a19, a20, a21] := by
  match l, h with
  | [a0, a1, a2, a3, a4, a5, a6, a7, a8, a9, a10, a11, a12, a13, a14, a15, a16, a17, a18, a19, a20, a21], _ => exact ⟨a0, a1, a2, a3, a4, a5, a6, a7, a8, a9, a10, a11, a12, a13, a14, a15, a16, a17, a18, a19, a20, a21, rfl⟩
def TysP (W : World) (x : Pf) : Prop := ∃ l, Rd W cb 1 x.types l ∧ l.length ≤ maxLen ∧ x.types.len ≤ x.types.cap
theorem cells_P {H : Type} {enc : TypeId × Value → H} {W : World} (n : Nat) (cs : List Value) (x : DataW H × List MemPlace) (hl : cs.length = 22) (h : DataW.trod enc Try.prog W 0 (fun _ => true) true n 24 cs = some x) : ∃ y : Pf, cs = pf y ∧ TysP W y := by
  obtain ⟨a0, a1, a2, a3, a4, a5, a6, a7, a8, a9, a10, a11, a12, a13, a14, a15, a16, a17, a18, a19, a20, a21, rfl⟩ := lenP hl
  have key := struct_cells underP oneP h (by rw [sizeP]; rfl)
  obtain ⟨f, h0, t0⟩ := fP_0
  obtain ⟨v0, y, m, e0, r0⟩ := key 0 f h0
  rw [t0] at r0
  clear h0 t0 f
  obtain ⟨i0, rfl, g0⟩ := one_string Try.underlying9 r0
  obtain ⟨f, h0, t0⟩ := fP_1
  obtain ⟨v1, y, m, e1, r1⟩ := key 1 f h0
  rw [t0] at r1
  clear h0 t0 f
  obtain ⟨i1, rfl, g1⟩ := one_int Try.underlying3 r1
  obtain ⟨f, h0, t0⟩ := fP_2
  obtain ⟨v2, y, m, e2, r2⟩ := key 2 f h0
  rw [t0] at r2
  clear h0 t0 f
  obtain ⟨i2, rfl, g2⟩ := one_int Try.underlying3 r2
  obtain ⟨f, h0, t0⟩ := fP_3
  obtain ⟨v3, y, m, e3, r3⟩ := key 3 f h0
  rw [t0] at r3
  clear h0 t0 f
  obtain ⟨i3, rfl, g3⟩ := one_int Try.underlying3 r3
  obtain ⟨f, h0, t0⟩ := fP_4
  obtain ⟨v4, y, m, e4, r4⟩ := key 4 f h0
  rw [t0] at r4
  clear h0 t0 f
  obtain ⟨i4, rfl, g4⟩ := one_bool Try.underlying4 r4
  obtain ⟨f, h0, t0⟩ := fP_5
  obtain ⟨v5, y, m, e5, r5⟩ := key 5 f h0
  rw [t0] at r5
  clear h0 t0 f
  obtain ⟨i5, rfl, g5⟩ := one_int Try.underlying3 r5
  obtain ⟨f, h0, t0⟩ := fP_6
  obtain ⟨v6, y, m, e6, r6⟩ := key 6 f h0
  rw [t0] at r6
  clear h0 t0 f
  obtain ⟨i6, rfl, g6⟩ := one_bool Try.underlying4 r6
  obtain ⟨f, h0, t0⟩ := fP_7
  obtain ⟨v7, y, m, e7, r7⟩ := key 7 f h0
  rw [t0] at r7
  clear h0 t0 f
  obtain ⟨i7, rfl, g7⟩ := one_bool Try.underlying4 r7
  obtain ⟨f, h0, t0⟩ := fP_8
  obtain ⟨v8, y, m, e8, r8⟩ := key 8 f h0
  rw [t0] at r8
  clear h0 t0 f
  obtain ⟨i8, rfl, g8⟩ := one_int Try.underlying3 r8
  obtain ⟨f, h0, t0⟩ := fP_9
  obtain ⟨v9, y, m, e9, r9⟩ := key 9 f h0
  rw [t0] at r9
  clear h0 t0 f
  obtain ⟨i9, rfl, g9⟩ := one_int Try.underlying3 r9
  obtain ⟨f, h0, t0⟩ := fP_10
  obtain ⟨v10, y, m, e10, r10⟩ := key 10 f h0
  rw [t0] at r10
  clear h0 t0 f
  obtain ⟨i10, rfl, g10⟩ := one_int Try.underlying3 r10
  obtain ⟨f, h0, t0⟩ := fP_11
  obtain ⟨v11, y, m, e11, r11⟩ := key 11 f h0
  rw [t0] at r11
  clear h0 t0 f
  obtain ⟨i11, rfl, g11⟩ := one_int Try.underlying3 r11
  obtain ⟨f, h0, t0⟩ := fP_12
  obtain ⟨v12, y, m, e12, r12⟩ := key 12 f h0
  rw [t0] at r12
  clear h0 t0 f
  obtain ⟨i12, tl, rfl, g12, gl, _, gc⟩ := one_rd (enc := enc) cb 1 Try.underlying22 (show Try.prog.cellsOf 9 = 1 by kernel_rfl) r12 (Q := fun _ => True) (by
    intro n cs x hl h
    obtain ⟨v, rfl⟩ := List.length_eq_one_iff.1 hl
    obtain ⟨y, rfl, g⟩ := one_string Try.underlying9 h
    exact ⟨y, rfl, trivial⟩)
  obtain ⟨f, h0, t0⟩ := fP_13
  obtain ⟨v13, y, m, e13, r13⟩ := key 13 f h0
  rw [t0] at r13
  clear h0 t0 f
  obtain ⟨i13, rfl, g13⟩ := one_int Try.underlying3 r13
  obtain ⟨f, h0, t0⟩ := fP_14
  obtain ⟨v14, y, m, e14, r14⟩ := key 14 f h0
  rw [t0] at r14
  clear h0 t0 f
  obtain ⟨i14, rfl, g14⟩ := one_int Try.underlying3 r14
  obtain ⟨f, h0, t0⟩ := fP_15
  obtain ⟨v15, y, m, e15, r15⟩ := key 15 f h0
  rw [t0] at r15
  clear h0 t0 f
  obtain ⟨i15, rfl, g15⟩ := one_int Try.underlying3 r15
  obtain ⟨f, h0, t0⟩ := fP_16
  obtain ⟨v16, y, m, e16, r16⟩ := key 16 f h0
  rw [t0] at r16
  clear h0 t0 f
  obtain ⟨i16, rfl, g16⟩ := one_int Try.underlying3 r16
  obtain ⟨f, h0, t0⟩ := fP_17
  obtain ⟨v17, y, m, e17, r17⟩ := key 17 f h0
  rw [t0] at r17
  clear h0 t0 f
  obtain ⟨i17, rfl, g17⟩ := one_bool Try.underlying4 r17
  obtain ⟨f, h0, t0⟩ := fP_18
  obtain ⟨v18, y, m, e18, r18⟩ := key 18 f h0
  rw [t0] at r18
  clear h0 t0 f
  obtain ⟨i18, rfl, g18⟩ := one_int Try.underlying3 r18
  obtain ⟨f, h0, t0⟩ := fP_19
  obtain ⟨v19, y, m, e19, r19⟩ := key 19 f h0
  rw [t0] at r19
  clear h0 t0 f
  obtain ⟨i19, rfl, g19⟩ := one_int Try.underlying3 r19
  obtain ⟨f, h0, t0⟩ := fP_20
  obtain ⟨v20, y, m, e20, r20⟩ := key 20 f h0
  rw [t0] at r20
  clear h0 t0 f
  obtain ⟨i20, rfl, g20⟩ := one_int Try.underlying3 r20
  obtain ⟨f, h0, t0⟩ := fP_21
  obtain ⟨v21, y, m, e21, r21⟩ := key 21 f h0
  rw [t0] at r21
  clear h0 t0 f
  obtain ⟨i21, rfl, g21⟩ := one_int Try.underlying3 r21
  simp at e0 e1 e2 e3 e4 e5 e6 e7 e8 e9 e10 e11 e12 e13 e14 e15 e16 e17 e18 e19 e20 e21
  subst e0 e1 e2 e3 e4 e5 e6 e7 e8 e9 e10 e11 e12 e13 e14 e15 e16 e17 e18 e19 e20 e21
  exact ⟨⟨i0, i1, i2, i3, i4, i5, i6, i7, i8, i9, i10, i11, i12, i13, i14, i15, i16, i17, i18, i19, i20, i21⟩, rfl, tl, g12, gl, gc⟩
theorem open_pf {H : Type} {enc : TypeId × Value → H} {W : World} {r : Reach} {b0 : Nat} {v : Value} {d : DataW H} {p : List MemPlace} (hval : Value.okWide Try.prog W r b0 24 v) (h : DataW.Trod enc Try.prog W 0 (fun _ => true) true 24 v d p) :
    ∃ (x : Pf) (l : List ByteArray), v = pfv x ∧ Rd W cb 1 x.types l ∧ x.types.len ≤ x.types.cap ∧ l.length ≤ maxLen := by
  obtain ⟨x, rfl, l, h1, h2, h3⟩ := open_st pf 22 underP cellsP hval h cells_P
  exact ⟨x, l, rfl, h1, h3, h2⟩
end Go.Proofs.Ytgbhghoppjfofaa
