import Derived.Test.YtgbhghoppjfofaaGreatRows
import Derived.Test.YtgbhghoppjfofaaGreatFs1
import Derived.Test.YtgbhghoppjfofaaGreatDecRaw
namespace Go.Proofs.YtgbhghoppjfofaaGreat
open Go.Dec
set_option maxHeartbeats 400000
set_option maxRecDepth 100000

/-- linguatop.deliverAlive -/
def F5  (w0 : World) (K : Bool → World → Prop) : Prop :=
  nw 65 (A64 (ByteArray.mk #[]) 0 0 0 false 0 false false 0 0 0 0 Sl.nil 0 0 0 0 false 0 0 0 0) w0 fun b9 w1 =>
  st (Addr.mk b9 0 none) (S64 (ByteArray.mk #[97]) 0 0 0 false 0 false false 40 1 0 0 Sl.nil 0 0 0 0 false 2 0 1 0) w1 fun w2 =>
  L64 (Addr.mk b9 0 none) w2 fun x11 x12 x13 x14 x15 x16 x17 x18 x19 x20 x21 x22 x23 x24 x25 x26 x27 x28 x29 x30 x31 x32 =>
  callC Tryz.prog 21 #[(V64 x11 x12 x13 x14 x15 x16 x17 x18 x19 x20 x21 x22 x23 x24 x25 x26 x27 x28 x29 x30 x31 x32), (Sl.v Sl.nil), (Value.agg #[(Value.int .i64 3), (Value.int .i64 0), (Value.int .i64 3), (Value.int .i64 2)]), (Value.int .i64 0)] (fun (r : Sl × Int) => (Value.tuple #[(Sl.v r.1), (Value.int .i64 r.2)])) w2 fun r33 w3 =>
  L64 (Addr.mk b9 0 none) w3 fun x34 x35 x36 x37 x38 x39 x40 x41 x42 x43 x44 x45 x46 x47 x48 x49 x50 x51 x52 x53 x54 x55 =>
  callC Tryz.prog 22 #[(V64 x34 x35 x36 x37 x38 x39 x40 x41 x42 x43 x44 x45 x46 x47 x48 x49 x50 x51 x52 x53 x54 x55), (Value.int .i64 0), (Sl.v r33.1), (Value.bool true)] (fun (r : Sl × Sl) => (Value.tuple #[(Sl.v r.1), (Sl.v r.2)])) w3 fun r56 w4 =>
  L64 (Addr.mk b9 0 none) w4 fun x57 x58 x59 x60 x61 x62 x63 x64 x65 x66 x67 x68 x69 x70 x71 x72 x73 x74 x75 x76 x77 x78 =>
  callC Tryz.prog 22 #[(V64 x57 x58 x59 x60 x61 x62 x63 x64 x65 x66 x67 x68 x69 x70 x71 x72 x73 x74 x75 x76 x77 x78), (Value.int .i64 0), (Sl.v r56.2), (Value.bool true)] (fun (r : Sl × Sl) => (Value.tuple #[(Sl.v r.1), (Sl.v r.2)])) w4 fun r79 w5 =>
  callC Tryz.prog 6 #[(Value.int .i64 2)] (fun (r : (Option Addr) × Int) => (Value.tuple #[(Value.pointer r.1), (Value.int .i64 r.2)])) w5 fun r80 w6 =>
  callC Tryz.prog 7 #[(Value.int .i64 2)] (fun (r : (Option Addr) × Int) => (Value.tuple #[(Value.pointer r.1), (Value.int .i64 r.2)])) w6 fun r81 w7 =>
  nw 56 #[(Value.int .i64 0), (Value.int .i64 1), (Value.bool true), (Value.int .i64 1), (Value.int .i64 0), (Value.bool true)] w7 fun b82 w8 =>
  callC Tryz.prog 15 #[(Sl.v (⟨some ⟨b82, 0, none⟩, 2, 2⟩ : Sl)), (Value.int .i64 2)] (fun (r : Sl × Sl × Int) => (Value.tuple #[(Sl.v r.1), (Sl.v r.2.1), (Value.int .i64 r.2.2)])) w8 fun r83 w9 =>
  cnd ((((((((((!decide (r33.2 = 0)) || (!decide (r80.2 = 0))) || (!decide (r81.2 = 0))) || (!decide (r83.2.2 = 0))) || r80.1.isNone) || r81.1.isNone) || (!decide ((r56.1.len : Int) = 0))) || (!decide ((r79.1.len : Int) = 1))) || (!decide ((r79.2.len : Int) = 0))) || (!decide ((r83.1.len : Int) = 1)))
    (
    K false w9
    )
    (
    callC Tryz.prog 8 #[(Value.pointer r80.1)] (fun (r : Int × Int) => (Value.tuple #[(Value.int .i64 r.1), (Value.int .i64 r.2)])) w9 fun r103 w10 =>
    callC Tryz.prog 23 #[(Value.pointer r81.1), (Value.int .i64 r103.1)] (fun (r : Sl × Int) => (Value.tuple #[(Sl.v r.1), (Value.int .i64 r.2)])) w10 fun r104 w11 =>
    nw 52 #[(Value.int .i64 0), (Value.int .i64 0), (Value.int .i64 0), (Value.int .i64 (-1)), (Value.int .i64 (-1))] w11 fun b105 w12 =>
    callC Tryz.prog 17 #[(Sl.v (⟨some ⟨b105, 0, none⟩, 1, 1⟩ : Sl)), (Value.agg #[(Value.int .i64 1), (Value.int .i64 0), (Value.int .i64 1), (Value.int .i64 (-1)), (Value.int .i64 (-1))]), (Value.int .i64 3)] (fun (r : Int × Bool) => (Value.tuple #[(Value.int .i64 r.1), (Value.bool r.2)])) w12 fun r106 w13 =>
    ix r79.1 0 1 fun p107 =>
    ld (Value.int .i64) p107 w13 fun x108 =>
    jn (fun J115 => cnd ((((decide (x108 = 3)) && (decide (r103.2 = 0))) && (decide ((r104.1.len : Int) = 1))) && (decide (r104.2 = 1)))
      (
      callC Tryz.prog 24 #[(Value.pointer r80.1), (Value.int .i64 r104.2)] (fun (r : Int) => (Value.int .i64 r)) w13 fun r117 w14 =>
      J115 (decide (r117 = 0)) w14
      )
      (
      J115 false w13
      ))
    fun c118 w15 =>
    jn (fun J119 => cnd (c118)
      (
      callC Tryz.prog 12 #[(Value.pointer r80.1)] (fun (r : Int) => (Value.int .i64 r)) w15 fun r121 w16 =>
      J119 (decide (r121 = 0)) w16
      )
      (
      J119 false w15
      ))
    fun c122 w17 =>
    K ((c122 && (decide (r106.1 = 0))) && r106.2) w17
    )
set_option maxRecDepth 100000 in
theorem D5  (w0 : World) (K : Bool → World → Prop) (h : F5  w0 K) : callC Tryz.prog 5 #[] (fun (r : Bool) => (Value.bool r)) w0 K := by
  unfold F5 at h
  refine calls_of_wpC Tryz.func5 rfl 149 rfl (by simp) ?_
  intro ρ hρ
  clear hρ
  refine wpC_seq ?_
  refine wpC_region ?_
  refine rv (Value.bool false) w0 rfl rfl rfl (x_assign rfl rfl) ?_
  refine wpR_nil ?_
  refine wpC_seq ?_
  refine wpC_cut (fun ρ => True) trivial ?_
  rintro ρ -
  refine wpC_region ?_
  refine rv (V64 (ByteArray.mk #[97]) 0 0 0 false 0 false false 40 1 0 0 Sl.nil 0 0 0 0 false 2 0 1 0) w0 rfl rfl rfl (x_build (qs := [(0, (Value.string (ByteArray.mk #[97]))), (8, (Value.int .i64 40)), (9, (Value.int .i64 1)), (18, (Value.int .i64 2)), (20, (Value.int .i64 1))]) rfl (by rfl) (BD_65_0_8_9_18_20 (ByteArray.mk #[97]) 40 1 2 1 _)) ?_
  obtain ⟨b9, hb9⟩ : ∃ u, u = w0.heap.size := ⟨_, rfl⟩
  obtain ⟨w1, hw9⟩ : ∃ u, u = w0.alloc (.cells (A64 (ByteArray.mk #[]) 0 0 0 false 0 false false 0 0 0 0 Sl.nil 0 0 0 0 false 0 0 0 0) 65) := ⟨_, rfl⟩
  replace h := h b9 w1 hb9 hw9
  refine rv (Value.pointer (some (Addr.mk b9 0 none))) w1 rfl rfl rfl ((x_alloc rfl ZV_65).trans (by rw [hb9, hw9]; rfl)) ?_
  obtain ⟨q10, h⟩ := h
  obtain ⟨w2, hw10⟩ : ∃ u, u = setAll w1 (Addr.mk b9 0 none) (S64 (ByteArray.mk #[97]) 0 0 0 false 0 false false 40 1 0 0 Sl.nil 0 0 0 0 false 2 0 1 0) 0 := ⟨_, rfl⟩
  replace h := h w2 hw10
  refine wpR_skp (w' := w2) rfl rfl ((x_store (v := (V64 (ByteArray.mk #[97]) 0 0 0 false 0 false false 40 1 0 0 Sl.nil 0 0 0 0 false 2 0 1 0)) rfl rfl rfl SZ_65 (ones (by rfl)) q10).trans (by rw [hw10]; rfl)) ?_
  refine wpR_nil ?_
  refine wpC_seq ?_
  refine wpC_cut (fun ρ => ρ 1 = (Value.pointer (some (Addr.mk b9 0 none))) ∧ True) ⟨rfl, trivial⟩ ?_
  rintro ρ ⟨e1, -⟩
  refine wpC_region ?_
  obtain ⟨x11, q11, x12, q12, x13, q13, x14, q14, x15, q15, x16, q16, x17, q17, x18, q18, x19, q19, x20, q20, x21, q21, x22, q22, x23, q23, x24, q24, x25, q25, x26, q26, x27, q27, x28, q28, x29, q29, x30, q30, x31, q31, x32, q32, h⟩ := h
  refine rv (V64 x11 x12 x13 x14 x15 x16 x17 x18 x19 x20 x21 x22 x23 x24 x25 x26 x27 x28 x29 x30 x31 x32) w2 rfl rfl rfl (x_loadN (S64 x11 x12 x13 x14 x15 x16 x17 x18 x19 x20 x21 x22 x23 x24 x25 x26 x27 x28 x29 x30 x31 x32) rfl e1 SH_65 (K64 ⟨q11, q12, q13, q14, q15, q16, q17, q18, q19, q20, q21, q22, q23, q24, q25, q26, q27, q28, q29, q30, q31, q32⟩)) ?_
  refine rv (Value.agg #[(Value.int .i64 3), (Value.int .i64 0), (Value.int .i64 3), (Value.int .i64 2)]) w2 rfl rfl rfl (x_build (qs := [(0, (Value.int .i64 3)), (2, (Value.int .i64 3)), (3, (Value.int .i64 2))]) rfl (by rfl) (BD_70_0_2_3 3 3 2 _)) ?_
  refine wpR_enter rfl rfl rfl (x_call (vs := [(V64 x11 x12 x13 x14 x15 x16 x17 x18 x19 x20 x21 x22 x23 x24 x25 x26 x27 x28 x29 x30 x31 x32), (Sl.v Sl.nil), (Value.agg #[(Value.int .i64 3), (Value.int .i64 0), (Value.int .i64 3), (Value.int .i64 2)]), (Value.int .i64 0)]) rfl rfl (mapl_cons rfl (mapl_cons rfl (mapl_cons rfl (mapl_cons rfl mapl_nil)))) Tryz.func21 NN_21 NB_21) (Calls.mono h ?_)
  rintro _ w3 ⟨r33, rfl, h⟩
  refine ⟨_, rfl, ?_⟩
  refine rv (Value.tuple #[(Sl.v r33.1), (Value.int .i64 r33.2)]) w3 rfl rfl rfl (x_move rfl rfl) ?_
  refine rv (Sl.v r33.1) w3 rfl rfl rfl (x_extract rfl rfl rfl) ?_
  refine rv (Value.int .i64 r33.2) w3 rfl rfl rfl (x_extract rfl rfl rfl) ?_
  refine rv (Sl.v r33.1) w3 rfl rfl rfl (x_assign rfl rfl) ?_
  refine rv (Value.int .i64 r33.2) w3 rfl rfl rfl (x_assign rfl rfl) ?_
  refine wpR_nil ?_
  refine wpC_seq ?_
  refine wpC_cut (fun ρ => ρ 1 = (Value.pointer (some (Addr.mk b9 0 none))) ∧ ρ 2 = (Sl.v r33.1) ∧ ρ 3 = (Value.int .i64 r33.2) ∧ True) ⟨e1, rfl, rfl, trivial⟩ ?_
  rintro ρ ⟨e1, e2, e3, -⟩
  refine wpC_region ?_
  obtain ⟨x34, q34, x35, q35, x36, q36, x37, q37, x38, q38, x39, q39, x40, q40, x41, q41, x42, q42, x43, q43, x44, q44, x45, q45, x46, q46, x47, q47, x48, q48, x49, q49, x50, q50, x51, q51, x52, q52, x53, q53, x54, q54, x55, q55, h⟩ := h
  refine rv (V64 x34 x35 x36 x37 x38 x39 x40 x41 x42 x43 x44 x45 x46 x47 x48 x49 x50 x51 x52 x53 x54 x55) w3 rfl rfl rfl (x_loadN (S64 x34 x35 x36 x37 x38 x39 x40 x41 x42 x43 x44 x45 x46 x47 x48 x49 x50 x51 x52 x53 x54 x55) rfl e1 SH_65 (K64 ⟨q34, q35, q36, q37, q38, q39, q40, q41, q42, q43, q44, q45, q46, q47, q48, q49, q50, q51, q52, q53, q54, q55⟩)) ?_
  refine rv (Sl.v r33.1) w3 rfl rfl rfl (x_move rfl e2) ?_
  refine wpR_enter rfl rfl rfl (x_call (vs := [(V64 x34 x35 x36 x37 x38 x39 x40 x41 x42 x43 x44 x45 x46 x47 x48 x49 x50 x51 x52 x53 x54 x55), (Value.int .i64 0), (Sl.v r33.1), (Value.bool true)]) rfl rfl (mapl_cons rfl (mapl_cons rfl (mapl_cons rfl (mapl_cons rfl mapl_nil)))) Tryz.func22 NN_22 NB_22) (Calls.mono h ?_)
  rintro _ w4 ⟨r56, rfl, h⟩
  refine ⟨_, rfl, ?_⟩
  refine rv (Value.tuple #[(Sl.v r56.1), (Sl.v r56.2)]) w4 rfl rfl rfl (x_move rfl rfl) ?_
  refine rv (Sl.v r56.1) w4 rfl rfl rfl (x_extract rfl rfl rfl) ?_
  refine rv (Sl.v r56.2) w4 rfl rfl rfl (x_extract rfl rfl rfl) ?_
  refine rv (Sl.v r56.1) w4 rfl rfl rfl (x_assign rfl rfl) ?_
  refine rv (Sl.v r56.2) w4 rfl rfl rfl (x_assign rfl rfl) ?_
  refine wpR_nil ?_
  refine wpC_seq ?_
  refine wpC_cut (fun ρ => ρ 1 = (Value.pointer (some (Addr.mk b9 0 none))) ∧ ρ 2 = (Sl.v r56.2) ∧ ρ 3 = (Value.int .i64 r33.2) ∧ ρ 4 = (Sl.v r56.1) ∧ True) ⟨e1, rfl, e3, rfl, trivial⟩ ?_
  rintro ρ ⟨e1, e2, e3, e4, -⟩
  refine wpC_region ?_
  obtain ⟨x57, q57, x58, q58, x59, q59, x60, q60, x61, q61, x62, q62, x63, q63, x64, q64, x65, q65, x66, q66, x67, q67, x68, q68, x69, q69, x70, q70, x71, q71, x72, q72, x73, q73, x74, q74, x75, q75, x76, q76, x77, q77, x78, q78, h⟩ := h
  refine rv (V64 x57 x58 x59 x60 x61 x62 x63 x64 x65 x66 x67 x68 x69 x70 x71 x72 x73 x74 x75 x76 x77 x78) w4 rfl rfl rfl (x_loadN (S64 x57 x58 x59 x60 x61 x62 x63 x64 x65 x66 x67 x68 x69 x70 x71 x72 x73 x74 x75 x76 x77 x78) rfl e1 SH_65 (K64 ⟨q57, q58, q59, q60, q61, q62, q63, q64, q65, q66, q67, q68, q69, q70, q71, q72, q73, q74, q75, q76, q77, q78⟩)) ?_
  refine rv (Sl.v r56.2) w4 rfl rfl rfl (x_move rfl e2) ?_
  refine wpR_enter rfl rfl rfl (x_call (vs := [(V64 x57 x58 x59 x60 x61 x62 x63 x64 x65 x66 x67 x68 x69 x70 x71 x72 x73 x74 x75 x76 x77 x78), (Value.int .i64 0), (Sl.v r56.2), (Value.bool true)]) rfl rfl (mapl_cons rfl (mapl_cons rfl (mapl_cons rfl (mapl_cons rfl mapl_nil)))) Tryz.func22 NN_22 NB_22) (Calls.mono h ?_)
  rintro _ w5 ⟨r79, rfl, h⟩
  refine ⟨_, rfl, ?_⟩
  refine rv (Value.tuple #[(Sl.v r79.1), (Sl.v r79.2)]) w5 rfl rfl rfl (x_move rfl rfl) ?_
  refine rv (Sl.v r79.1) w5 rfl rfl rfl (x_extract rfl rfl rfl) ?_
  refine rv (Sl.v r79.2) w5 rfl rfl rfl (x_extract rfl rfl rfl) ?_
  refine rv (Sl.v r79.1) w5 rfl rfl rfl (x_assign rfl rfl) ?_
  refine rv (Sl.v r79.2) w5 rfl rfl rfl (x_assign rfl rfl) ?_
  refine wpR_nil ?_
  refine wpC_seq ?_
  refine wpC_cut (fun ρ => ρ 2 = (Sl.v r79.2) ∧ ρ 3 = (Value.int .i64 r33.2) ∧ ρ 4 = (Sl.v r56.1) ∧ ρ 5 = (Sl.v r79.1) ∧ True) ⟨rfl, e3, e4, rfl, trivial⟩ ?_
  rintro ρ ⟨e2, e3, e4, e5, -⟩
  refine wpC_region ?_
  refine wpR_enter rfl rfl rfl (x_call (vs := [(Value.int .i64 2)]) rfl rfl (mapl_cons rfl mapl_nil) Tryz.func6 NN_6 NB_6) (Calls.mono h ?_)
  rintro _ w6 ⟨r80, rfl, h⟩
  refine ⟨_, rfl, ?_⟩
  refine rv (Value.tuple #[(Value.pointer r80.1), (Value.int .i64 r80.2)]) w6 rfl rfl rfl (x_move rfl rfl) ?_
  refine rv (Value.pointer r80.1) w6 rfl rfl rfl (x_extract rfl rfl rfl) ?_
  refine rv (Value.int .i64 r80.2) w6 rfl rfl rfl (x_extract rfl rfl rfl) ?_
  refine rv (Value.pointer r80.1) w6 rfl rfl rfl (x_assign rfl rfl) ?_
  refine rv (Value.int .i64 r80.2) w6 rfl rfl rfl (x_assign rfl rfl) ?_
  refine wpR_nil ?_
  refine wpC_seq ?_
  refine wpC_cut (fun ρ => ρ 2 = (Sl.v r79.2) ∧ ρ 3 = (Value.int .i64 r33.2) ∧ ρ 4 = (Sl.v r56.1) ∧ ρ 5 = (Sl.v r79.1) ∧ ρ 6 = (Value.pointer r80.1) ∧ ρ 7 = (Value.int .i64 r80.2) ∧ True) ⟨e2, e3, e4, e5, rfl, rfl, trivial⟩ ?_
  rintro ρ ⟨e2, e3, e4, e5, e6, e7, -⟩
  refine wpC_region ?_
  refine wpR_enter rfl rfl rfl (x_call (vs := [(Value.int .i64 2)]) rfl rfl (mapl_cons rfl mapl_nil) Tryz.func7 NN_7 NB_7) (Calls.mono h ?_)
  rintro _ w7 ⟨r81, rfl, h⟩
  refine ⟨_, rfl, ?_⟩
  refine rv (Value.tuple #[(Value.pointer r81.1), (Value.int .i64 r81.2)]) w7 rfl rfl rfl (x_move rfl rfl) ?_
  refine rv (Value.pointer r81.1) w7 rfl rfl rfl (x_extract rfl rfl rfl) ?_
  refine rv (Value.int .i64 r81.2) w7 rfl rfl rfl (x_extract rfl rfl rfl) ?_
  refine rv (Value.pointer r81.1) w7 rfl rfl rfl (x_assign rfl rfl) ?_
  refine rv (Value.int .i64 r81.2) w7 rfl rfl rfl (x_assign rfl rfl) ?_
  refine wpR_nil ?_
  refine wpC_seq ?_
  refine wpC_cut (fun ρ => ρ 2 = (Sl.v r79.2) ∧ ρ 3 = (Value.int .i64 r33.2) ∧ ρ 4 = (Sl.v r56.1) ∧ ρ 5 = (Sl.v r79.1) ∧ ρ 6 = (Value.pointer r80.1) ∧ ρ 7 = (Value.int .i64 r80.2) ∧ ρ 8 = (Value.pointer r81.1) ∧ ρ 9 = (Value.int .i64 r81.2) ∧ True) ⟨e2, e3, e4, e5, e6, e7, rfl, rfl, trivial⟩ ?_
  rintro ρ ⟨e2, e3, e4, e5, e6, e7, e8, e9, -⟩
  refine wpC_region ?_
  refine rv (Value.agg #[(Value.int .i64 0), (Value.int .i64 1), (Value.bool true)]) w7 rfl rfl rfl (x_build (qs := [(0, (Value.int .i64 0)), (1, (Value.int .i64 1)), (2, (Value.bool true))]) rfl (by rfl) (BD_56_0_1_2 0 1 true _)) ?_
  refine rv (Value.agg #[(Value.int .i64 1), (Value.int .i64 0), (Value.bool true)]) w7 rfl rfl rfl (x_build (qs := [(0, (Value.int .i64 1)), (1, (Value.int .i64 0)), (2, (Value.bool true))]) rfl (by rfl) (BD_56_0_1_2 1 0 true _)) ?_
  obtain ⟨b82, hb82⟩ : ∃ u, u = w7.heap.size := ⟨_, rfl⟩
  obtain ⟨w8, hw82⟩ : ∃ u, u = w7.alloc (.cells #[(Value.int .i64 0), (Value.int .i64 1), (Value.bool true), (Value.int .i64 1), (Value.int .i64 0), (Value.bool true)] 56) := ⟨_, rfl⟩
  replace h := h b82 w8 hb82 hw82
  refine rv (Sl.v (⟨some ⟨b82, 0, none⟩, 2, 2⟩ : Sl)) w8 rfl rfl rfl ((x_buildSlice (qs := [(0, (Value.agg #[(Value.int .i64 0), (Value.int .i64 1), (Value.bool true)])), (1, (Value.agg #[(Value.int .i64 1), (Value.int .i64 0), (Value.bool true)]))]) rfl (by rfl) (BS_47_2_0_1 0 1 true 1 0 true)).trans (by rw [← hb82, ← hw82])) ?_
  refine wpR_enter rfl rfl rfl (x_call (vs := [(Sl.v (⟨some ⟨b82, 0, none⟩, 2, 2⟩ : Sl)), (Value.int .i64 2)]) rfl rfl (mapl_cons rfl (mapl_cons rfl mapl_nil)) Tryz.func15 NN_15 NB_15) (Calls.mono h ?_)
  rintro _ w9 ⟨r83, rfl, h⟩
  refine ⟨_, rfl, ?_⟩
  refine rv (Value.tuple #[(Sl.v r83.1), (Sl.v r83.2.1), (Value.int .i64 r83.2.2)]) w9 rfl rfl rfl (x_move rfl rfl) ?_
  refine rv (Sl.v r83.1) w9 rfl rfl rfl (x_extract rfl rfl rfl) ?_
  refine rv (Sl.v r83.2.1) w9 rfl rfl rfl (x_extract rfl rfl rfl) ?_
  refine rv (Value.int .i64 r83.2.2) w9 rfl rfl rfl (x_extract rfl rfl rfl) ?_
  refine rv (Sl.v r83.1) w9 rfl rfl rfl (x_assign rfl rfl) ?_
  refine rv (Sl.v r83.2.1) w9 rfl rfl rfl (x_assign rfl rfl) ?_
  refine rv (Value.int .i64 r83.2.2) w9 rfl rfl rfl (x_assign rfl rfl) ?_
  refine wpR_nil ?_
  refine wpC_seq ?_
  refine wpC_seq ?_
  refine wpC_cut (fun ρ => ρ 2 = (Sl.v r79.2) ∧ ρ 3 = (Value.int .i64 r33.2) ∧ ρ 4 = (Sl.v r56.1) ∧ ρ 5 = (Sl.v r79.1) ∧ ρ 6 = (Value.pointer r80.1) ∧ ρ 7 = (Value.int .i64 r80.2) ∧ ρ 8 = (Value.pointer r81.1) ∧ ρ 9 = (Value.int .i64 r81.2) ∧ ρ 10 = (Sl.v r83.1) ∧ ρ 12 = (Value.int .i64 r83.2.2) ∧ True) ⟨e2, e3, e4, e5, e6, e7, e8, e9, rfl, rfl, trivial⟩ ?_
  rintro ρ ⟨e2, e3, e4, e5, e6, e7, e8, e9, e10, e12, -⟩
  refine wpC_region ?_
  refine rv (Value.int .i64 r33.2) w9 rfl rfl rfl (x_move rfl e3) ?_
  refine rv (Value.bool (!decide (r33.2 = 0))) w9 rfl rfl rfl (x_neq rfl rfl rfl) ?_
  refine rv (Value.bool (!decide (r33.2 = 0))) w9 rfl rfl rfl (x_move rfl rfl) ?_
  refine wpR_joinJ 3 (fun (_ : Unit) ρ => ρ 59 = Value.bool ((!decide (r33.2 = 0)) || (!decide (r80.2 = 0))) ∧ ρ 2 = (Sl.v r79.2) ∧ ρ 4 = (Sl.v r56.1) ∧ ρ 5 = (Sl.v r79.1) ∧ ρ 6 = (Value.pointer r80.1) ∧ ρ 8 = (Value.pointer r81.1) ∧ ρ 9 = (Value.int .i64 r81.2) ∧ ρ 10 = (Sl.v r83.1) ∧ ρ 12 = (Value.int .i64 r83.2.2) ∧ True) (fun _ w => w9 = w) ?_ ?_
  · clear h
    rcases Bool.eq_false_or_eq_true (!decide (r33.2 = 0)) with hc85 | hc85
    · skip
      refine wpR_pass (wantN rfl rfl rfl hc85) rfl rfl ?_
      refine wpR_pass (wantN rfl rfl rfl hc85) rfl rfl ?_
      refine rv (Value.bool true) w9 rfl rfl rfl (x_pickT (v := (Value.bool true)) rfl rfl hc85 rfl) ?_
      refine wpR_nil ?_
      exact ⟨(), ⟨(by rw [hc85]; rfl), e2, e4, e5, e6, e8, e9, e10, e12, trivial⟩, rfl⟩
    · skip
      refine wpR_val (v := (Value.int .i64 r80.2)) (w' := w9) (wantG rfl rfl rfl hc85) rfl rfl (x_move rfl e7) ?_
      refine wpR_val (v := (Value.bool (!decide (r80.2 = 0)))) (w' := w9) (wantG rfl rfl rfl hc85) rfl rfl (x_neq rfl rfl rfl) ?_
      refine rv (Value.bool (!decide (r80.2 = 0))) w9 rfl rfl rfl (x_pickF (v := (Value.bool (!decide (r80.2 = 0)))) rfl rfl hc85 rfl) ?_
      refine wpR_nil ?_
      exact ⟨(), ⟨(by rw [hc85]; rfl), e2, e4, e5, e6, e8, e9, e10, e12, trivial⟩, rfl⟩
  rintro _ ρ wj ⟨e59, e2, e4, e5, e6, e8, e9, e10, e12, -⟩ rfl
  refine rv (Value.bool ((!decide (r33.2 = 0)) || (!decide (r80.2 = 0)))) w9 rfl rfl rfl (x_move rfl e59) ?_
  refine wpR_joinJ 3 (fun (_ : Unit) ρ => ρ 63 = Value.bool (((!decide (r33.2 = 0)) || (!decide (r80.2 = 0))) || (!decide (r81.2 = 0))) ∧ ρ 2 = (Sl.v r79.2) ∧ ρ 4 = (Sl.v r56.1) ∧ ρ 5 = (Sl.v r79.1) ∧ ρ 6 = (Value.pointer r80.1) ∧ ρ 8 = (Value.pointer r81.1) ∧ ρ 10 = (Sl.v r83.1) ∧ ρ 12 = (Value.int .i64 r83.2.2) ∧ True) (fun _ w => w9 = w) ?_ ?_
  · clear h
    rcases Bool.eq_false_or_eq_true ((!decide (r33.2 = 0)) || (!decide (r80.2 = 0))) with hc87 | hc87
    · skip
      refine wpR_pass (wantN rfl rfl rfl hc87) rfl rfl ?_
      refine wpR_pass (wantN rfl rfl rfl hc87) rfl rfl ?_
      refine rv (Value.bool true) w9 rfl rfl rfl (x_pickT (v := (Value.bool true)) rfl rfl hc87 rfl) ?_
      refine wpR_nil ?_
      exact ⟨(), ⟨(by rw [hc87]; rfl), e2, e4, e5, e6, e8, e10, e12, trivial⟩, rfl⟩
    · skip
      refine wpR_val (v := (Value.int .i64 r81.2)) (w' := w9) (wantG rfl rfl rfl hc87) rfl rfl (x_move rfl e9) ?_
      refine wpR_val (v := (Value.bool (!decide (r81.2 = 0)))) (w' := w9) (wantG rfl rfl rfl hc87) rfl rfl (x_neq rfl rfl rfl) ?_
      refine rv (Value.bool (!decide (r81.2 = 0))) w9 rfl rfl rfl (x_pickF (v := (Value.bool (!decide (r81.2 = 0)))) rfl rfl hc87 rfl) ?_
      refine wpR_nil ?_
      exact ⟨(), ⟨(by rw [hc87]; rfl), e2, e4, e5, e6, e8, e10, e12, trivial⟩, rfl⟩
  rintro _ ρ wj ⟨e63, e2, e4, e5, e6, e8, e10, e12, -⟩ rfl
  refine rv (Value.bool (((!decide (r33.2 = 0)) || (!decide (r80.2 = 0))) || (!decide (r81.2 = 0)))) w9 rfl rfl rfl (x_move rfl e63) ?_
  refine wpR_joinJ 3 (fun (_ : Unit) ρ => ρ 67 = Value.bool ((((!decide (r33.2 = 0)) || (!decide (r80.2 = 0))) || (!decide (r81.2 = 0))) || (!decide (r83.2.2 = 0))) ∧ ρ 2 = (Sl.v r79.2) ∧ ρ 4 = (Sl.v r56.1) ∧ ρ 5 = (Sl.v r79.1) ∧ ρ 6 = (Value.pointer r80.1) ∧ ρ 8 = (Value.pointer r81.1) ∧ ρ 10 = (Sl.v r83.1) ∧ True) (fun _ w => w9 = w) ?_ ?_
  · clear h
    rcases Bool.eq_false_or_eq_true (((!decide (r33.2 = 0)) || (!decide (r80.2 = 0))) || (!decide (r81.2 = 0))) with hc89 | hc89
    · skip
      refine wpR_pass (wantN rfl rfl rfl hc89) rfl rfl ?_
      refine wpR_pass (wantN rfl rfl rfl hc89) rfl rfl ?_
      refine rv (Value.bool true) w9 rfl rfl rfl (x_pickT (v := (Value.bool true)) rfl rfl hc89 rfl) ?_
      refine wpR_nil ?_
      exact ⟨(), ⟨(by rw [hc89]; rfl), e2, e4, e5, e6, e8, e10, trivial⟩, rfl⟩
    · skip
      refine wpR_val (v := (Value.int .i64 r83.2.2)) (w' := w9) (wantG rfl rfl rfl hc89) rfl rfl (x_move rfl e12) ?_
      refine wpR_val (v := (Value.bool (!decide (r83.2.2 = 0)))) (w' := w9) (wantG rfl rfl rfl hc89) rfl rfl (x_neq rfl rfl rfl) ?_
      refine rv (Value.bool (!decide (r83.2.2 = 0))) w9 rfl rfl rfl (x_pickF (v := (Value.bool (!decide (r83.2.2 = 0)))) rfl rfl hc89 rfl) ?_
      refine wpR_nil ?_
      exact ⟨(), ⟨(by rw [hc89]; rfl), e2, e4, e5, e6, e8, e10, trivial⟩, rfl⟩
  rintro _ ρ wj ⟨e67, e2, e4, e5, e6, e8, e10, -⟩ rfl
  refine rv (Value.bool ((((!decide (r33.2 = 0)) || (!decide (r80.2 = 0))) || (!decide (r81.2 = 0))) || (!decide (r83.2.2 = 0)))) w9 rfl rfl rfl (x_move rfl e67) ?_
  refine wpR_joinJ 3 (fun (_ : Unit) ρ => ρ 71 = Value.bool (((((!decide (r33.2 = 0)) || (!decide (r80.2 = 0))) || (!decide (r81.2 = 0))) || (!decide (r83.2.2 = 0))) || r80.1.isNone) ∧ ρ 2 = (Sl.v r79.2) ∧ ρ 4 = (Sl.v r56.1) ∧ ρ 5 = (Sl.v r79.1) ∧ ρ 6 = (Value.pointer r80.1) ∧ ρ 8 = (Value.pointer r81.1) ∧ ρ 10 = (Sl.v r83.1) ∧ True) (fun _ w => w9 = w) ?_ ?_
  · clear h
    rcases Bool.eq_false_or_eq_true ((((!decide (r33.2 = 0)) || (!decide (r80.2 = 0))) || (!decide (r81.2 = 0))) || (!decide (r83.2.2 = 0))) with hc91 | hc91
    · skip
      refine wpR_pass (wantN rfl rfl rfl hc91) rfl rfl ?_
      refine wpR_pass (wantN rfl rfl rfl hc91) rfl rfl ?_
      refine rv (Value.bool true) w9 rfl rfl rfl (x_pickT (v := (Value.bool true)) rfl rfl hc91 rfl) ?_
      refine wpR_nil ?_
      exact ⟨(), ⟨(by rw [hc91]; rfl), e2, e4, e5, e6, e8, e10, trivial⟩, rfl⟩
    · skip
      refine wpR_val (v := (Value.pointer r80.1)) (w' := w9) (wantG rfl rfl rfl hc91) rfl rfl (x_move rfl e6) ?_
      refine wpR_val (v := (Value.bool r80.1.isNone)) (w' := w9) (wantG rfl rfl rfl hc91) rfl rfl (x_eqlNil rfl rfl rfl isPtrT_24) ?_
      refine rv (Value.bool r80.1.isNone) w9 rfl rfl rfl (x_pickF (v := (Value.bool r80.1.isNone)) rfl rfl hc91 rfl) ?_
      refine wpR_nil ?_
      exact ⟨(), ⟨(by rw [hc91]; rfl), e2, e4, e5, e6, e8, e10, trivial⟩, rfl⟩
  rintro _ ρ wj ⟨e71, e2, e4, e5, e6, e8, e10, -⟩ rfl
  refine rv (Value.bool (((((!decide (r33.2 = 0)) || (!decide (r80.2 = 0))) || (!decide (r81.2 = 0))) || (!decide (r83.2.2 = 0))) || r80.1.isNone)) w9 rfl rfl rfl (x_move rfl e71) ?_
  refine wpR_joinJ 3 (fun (_ : Unit) ρ => ρ 75 = Value.bool ((((((!decide (r33.2 = 0)) || (!decide (r80.2 = 0))) || (!decide (r81.2 = 0))) || (!decide (r83.2.2 = 0))) || r80.1.isNone) || r81.1.isNone) ∧ ρ 2 = (Sl.v r79.2) ∧ ρ 4 = (Sl.v r56.1) ∧ ρ 5 = (Sl.v r79.1) ∧ ρ 6 = (Value.pointer r80.1) ∧ ρ 8 = (Value.pointer r81.1) ∧ ρ 10 = (Sl.v r83.1) ∧ True) (fun _ w => w9 = w) ?_ ?_
  · clear h
    rcases Bool.eq_false_or_eq_true (((((!decide (r33.2 = 0)) || (!decide (r80.2 = 0))) || (!decide (r81.2 = 0))) || (!decide (r83.2.2 = 0))) || r80.1.isNone) with hc93 | hc93
    · skip
      refine wpR_pass (wantN rfl rfl rfl hc93) rfl rfl ?_
      refine wpR_pass (wantN rfl rfl rfl hc93) rfl rfl ?_
      refine rv (Value.bool true) w9 rfl rfl rfl (x_pickT (v := (Value.bool true)) rfl rfl hc93 rfl) ?_
      refine wpR_nil ?_
      exact ⟨(), ⟨(by rw [hc93]; rfl), e2, e4, e5, e6, e8, e10, trivial⟩, rfl⟩
    · skip
      refine wpR_val (v := (Value.pointer r81.1)) (w' := w9) (wantG rfl rfl rfl hc93) rfl rfl (x_move rfl e8) ?_
      refine wpR_val (v := (Value.bool r81.1.isNone)) (w' := w9) (wantG rfl rfl rfl hc93) rfl rfl (x_eqlNil rfl rfl rfl isPtrT_28) ?_
      refine rv (Value.bool r81.1.isNone) w9 rfl rfl rfl (x_pickF (v := (Value.bool r81.1.isNone)) rfl rfl hc93 rfl) ?_
      refine wpR_nil ?_
      exact ⟨(), ⟨(by rw [hc93]; rfl), e2, e4, e5, e6, e8, e10, trivial⟩, rfl⟩
  rintro _ ρ wj ⟨e75, e2, e4, e5, e6, e8, e10, -⟩ rfl
  refine rv (Value.bool ((((((!decide (r33.2 = 0)) || (!decide (r80.2 = 0))) || (!decide (r81.2 = 0))) || (!decide (r83.2.2 = 0))) || r80.1.isNone) || r81.1.isNone)) w9 rfl rfl rfl (x_move rfl e75) ?_
  refine wpR_joinJ 4 (fun (_ : Unit) ρ => ρ 80 = Value.bool (((((((!decide (r33.2 = 0)) || (!decide (r80.2 = 0))) || (!decide (r81.2 = 0))) || (!decide (r83.2.2 = 0))) || r80.1.isNone) || r81.1.isNone) || (!decide ((r56.1.len : Int) = 0))) ∧ ρ 2 = (Sl.v r79.2) ∧ ρ 5 = (Sl.v r79.1) ∧ ρ 6 = (Value.pointer r80.1) ∧ ρ 8 = (Value.pointer r81.1) ∧ ρ 10 = (Sl.v r83.1) ∧ True) (fun _ w => w9 = w) ?_ ?_
  · clear h
    rcases Bool.eq_false_or_eq_true ((((((!decide (r33.2 = 0)) || (!decide (r80.2 = 0))) || (!decide (r81.2 = 0))) || (!decide (r83.2.2 = 0))) || r80.1.isNone) || r81.1.isNone) with hc95 | hc95
    · skip
      refine wpR_pass (wantN rfl rfl rfl hc95) rfl rfl ?_
      refine wpR_pass (wantN rfl rfl rfl hc95) rfl rfl ?_
      refine wpR_pass (wantN rfl rfl rfl hc95) rfl rfl ?_
      refine rv (Value.bool true) w9 rfl rfl rfl (x_pickT (v := (Value.bool true)) rfl rfl hc95 rfl) ?_
      refine wpR_nil ?_
      exact ⟨(), ⟨(by rw [hc95]; rfl), e2, e5, e6, e8, e10, trivial⟩, rfl⟩
    · skip
      refine wpR_val (v := (Sl.v r56.1)) (w' := w9) (wantG rfl rfl rfl hc95) rfl rfl (x_move rfl e4) ?_
      refine wpR_val (v := (Value.int .i64 (r56.1.len : Int))) (w' := w9) (wantG rfl rfl rfl hc95) rfl rfl (x_lenS (s := r56.1) rfl rfl isSliceT_39) ?_
      refine wpR_val (v := (Value.bool (!decide ((r56.1.len : Int) = 0)))) (w' := w9) (wantG rfl rfl rfl hc95) rfl rfl (x_neq rfl rfl rfl) ?_
      refine rv (Value.bool (!decide ((r56.1.len : Int) = 0))) w9 rfl rfl rfl (x_pickF (v := (Value.bool (!decide ((r56.1.len : Int) = 0)))) rfl rfl hc95 rfl) ?_
      refine wpR_nil ?_
      exact ⟨(), ⟨(by rw [hc95]; rfl), e2, e5, e6, e8, e10, trivial⟩, rfl⟩
  rintro _ ρ wj ⟨e80, e2, e5, e6, e8, e10, -⟩ rfl
  refine rv (Value.bool (((((((!decide (r33.2 = 0)) || (!decide (r80.2 = 0))) || (!decide (r81.2 = 0))) || (!decide (r83.2.2 = 0))) || r80.1.isNone) || r81.1.isNone) || (!decide ((r56.1.len : Int) = 0)))) w9 rfl rfl rfl (x_move rfl e80) ?_
  refine wpR_joinJ 4 (fun (_ : Unit) ρ => ρ 85 = Value.bool ((((((((!decide (r33.2 = 0)) || (!decide (r80.2 = 0))) || (!decide (r81.2 = 0))) || (!decide (r83.2.2 = 0))) || r80.1.isNone) || r81.1.isNone) || (!decide ((r56.1.len : Int) = 0))) || (!decide ((r79.1.len : Int) = 1))) ∧ ρ 2 = (Sl.v r79.2) ∧ ρ 5 = (Sl.v r79.1) ∧ ρ 6 = (Value.pointer r80.1) ∧ ρ 8 = (Value.pointer r81.1) ∧ ρ 10 = (Sl.v r83.1) ∧ True) (fun _ w => w9 = w) ?_ ?_
  · clear h
    rcases Bool.eq_false_or_eq_true (((((((!decide (r33.2 = 0)) || (!decide (r80.2 = 0))) || (!decide (r81.2 = 0))) || (!decide (r83.2.2 = 0))) || r80.1.isNone) || r81.1.isNone) || (!decide ((r56.1.len : Int) = 0))) with hc97 | hc97
    · skip
      refine wpR_pass (wantN rfl rfl rfl hc97) rfl rfl ?_
      refine wpR_pass (wantN rfl rfl rfl hc97) rfl rfl ?_
      refine wpR_pass (wantN rfl rfl rfl hc97) rfl rfl ?_
      refine rv (Value.bool true) w9 rfl rfl rfl (x_pickT (v := (Value.bool true)) rfl rfl hc97 rfl) ?_
      refine wpR_nil ?_
      exact ⟨(), ⟨(by rw [hc97]; rfl), e2, e5, e6, e8, e10, trivial⟩, rfl⟩
    · skip
      refine wpR_val (v := (Sl.v r79.1)) (w' := w9) (wantG rfl rfl rfl hc97) rfl rfl (x_move rfl e5) ?_
      refine wpR_val (v := (Value.int .i64 (r79.1.len : Int))) (w' := w9) (wantG rfl rfl rfl hc97) rfl rfl (x_lenS (s := r79.1) rfl rfl isSliceT_39) ?_
      refine wpR_val (v := (Value.bool (!decide ((r79.1.len : Int) = 1)))) (w' := w9) (wantG rfl rfl rfl hc97) rfl rfl (x_neq rfl rfl rfl) ?_
      refine rv (Value.bool (!decide ((r79.1.len : Int) = 1))) w9 rfl rfl rfl (x_pickF (v := (Value.bool (!decide ((r79.1.len : Int) = 1)))) rfl rfl hc97 rfl) ?_
      refine wpR_nil ?_
      exact ⟨(), ⟨(by rw [hc97]; rfl), e2, e5, e6, e8, e10, trivial⟩, rfl⟩
  rintro _ ρ wj ⟨e85, e2, e5, e6, e8, e10, -⟩ rfl
  refine rv (Value.bool ((((((((!decide (r33.2 = 0)) || (!decide (r80.2 = 0))) || (!decide (r81.2 = 0))) || (!decide (r83.2.2 = 0))) || r80.1.isNone) || r81.1.isNone) || (!decide ((r56.1.len : Int) = 0))) || (!decide ((r79.1.len : Int) = 1)))) w9 rfl rfl rfl (x_move rfl e85) ?_
  refine wpR_joinJ 4 (fun (_ : Unit) ρ => ρ 90 = Value.bool (((((((((!decide (r33.2 = 0)) || (!decide (r80.2 = 0))) || (!decide (r81.2 = 0))) || (!decide (r83.2.2 = 0))) || r80.1.isNone) || r81.1.isNone) || (!decide ((r56.1.len : Int) = 0))) || (!decide ((r79.1.len : Int) = 1))) || (!decide ((r79.2.len : Int) = 0))) ∧ ρ 5 = (Sl.v r79.1) ∧ ρ 6 = (Value.pointer r80.1) ∧ ρ 8 = (Value.pointer r81.1) ∧ ρ 10 = (Sl.v r83.1) ∧ True) (fun _ w => w9 = w) ?_ ?_
  · clear h
    rcases Bool.eq_false_or_eq_true ((((((((!decide (r33.2 = 0)) || (!decide (r80.2 = 0))) || (!decide (r81.2 = 0))) || (!decide (r83.2.2 = 0))) || r80.1.isNone) || r81.1.isNone) || (!decide ((r56.1.len : Int) = 0))) || (!decide ((r79.1.len : Int) = 1))) with hc99 | hc99
    · skip
      refine wpR_pass (wantN rfl rfl rfl hc99) rfl rfl ?_
      refine wpR_pass (wantN rfl rfl rfl hc99) rfl rfl ?_
      refine wpR_pass (wantN rfl rfl rfl hc99) rfl rfl ?_
      refine rv (Value.bool true) w9 rfl rfl rfl (x_pickT (v := (Value.bool true)) rfl rfl hc99 rfl) ?_
      refine wpR_nil ?_
      exact ⟨(), ⟨(by rw [hc99]; rfl), e5, e6, e8, e10, trivial⟩, rfl⟩
    · skip
      refine wpR_val (v := (Sl.v r79.2)) (w' := w9) (wantG rfl rfl rfl hc99) rfl rfl (x_move rfl e2) ?_
      refine wpR_val (v := (Value.int .i64 (r79.2.len : Int))) (w' := w9) (wantG rfl rfl rfl hc99) rfl rfl (x_lenS (s := r79.2) rfl rfl isSliceT_66) ?_
      refine wpR_val (v := (Value.bool (!decide ((r79.2.len : Int) = 0)))) (w' := w9) (wantG rfl rfl rfl hc99) rfl rfl (x_neq rfl rfl rfl) ?_
      refine rv (Value.bool (!decide ((r79.2.len : Int) = 0))) w9 rfl rfl rfl (x_pickF (v := (Value.bool (!decide ((r79.2.len : Int) = 0)))) rfl rfl hc99 rfl) ?_
      refine wpR_nil ?_
      exact ⟨(), ⟨(by rw [hc99]; rfl), e5, e6, e8, e10, trivial⟩, rfl⟩
  rintro _ ρ wj ⟨e90, e5, e6, e8, e10, -⟩ rfl
  refine rv (Value.bool (((((((((!decide (r33.2 = 0)) || (!decide (r80.2 = 0))) || (!decide (r81.2 = 0))) || (!decide (r83.2.2 = 0))) || r80.1.isNone) || r81.1.isNone) || (!decide ((r56.1.len : Int) = 0))) || (!decide ((r79.1.len : Int) = 1))) || (!decide ((r79.2.len : Int) = 0)))) w9 rfl rfl rfl (x_move rfl e90) ?_
  refine wpR_joinJ 4 (fun (_ : Unit) ρ => ρ 95 = Value.bool ((((((((((!decide (r33.2 = 0)) || (!decide (r80.2 = 0))) || (!decide (r81.2 = 0))) || (!decide (r83.2.2 = 0))) || r80.1.isNone) || r81.1.isNone) || (!decide ((r56.1.len : Int) = 0))) || (!decide ((r79.1.len : Int) = 1))) || (!decide ((r79.2.len : Int) = 0))) || (!decide ((r83.1.len : Int) = 1))) ∧ ρ 5 = (Sl.v r79.1) ∧ ρ 6 = (Value.pointer r80.1) ∧ ρ 8 = (Value.pointer r81.1) ∧ True) (fun _ w => w9 = w) ?_ ?_
  · clear h
    rcases Bool.eq_false_or_eq_true (((((((((!decide (r33.2 = 0)) || (!decide (r80.2 = 0))) || (!decide (r81.2 = 0))) || (!decide (r83.2.2 = 0))) || r80.1.isNone) || r81.1.isNone) || (!decide ((r56.1.len : Int) = 0))) || (!decide ((r79.1.len : Int) = 1))) || (!decide ((r79.2.len : Int) = 0))) with hc101 | hc101
    · skip
      refine wpR_pass (wantN rfl rfl rfl hc101) rfl rfl ?_
      refine wpR_pass (wantN rfl rfl rfl hc101) rfl rfl ?_
      refine wpR_pass (wantN rfl rfl rfl hc101) rfl rfl ?_
      refine rv (Value.bool true) w9 rfl rfl rfl (x_pickT (v := (Value.bool true)) rfl rfl hc101 rfl) ?_
      refine wpR_nil ?_
      exact ⟨(), ⟨(by rw [hc101]; rfl), e5, e6, e8, trivial⟩, rfl⟩
    · skip
      refine wpR_val (v := (Sl.v r83.1)) (w' := w9) (wantG rfl rfl rfl hc101) rfl rfl (x_move rfl e10) ?_
      refine wpR_val (v := (Value.int .i64 (r83.1.len : Int))) (w' := w9) (wantG rfl rfl rfl hc101) rfl rfl (x_lenS (s := r83.1) rfl rfl isSliceT_39) ?_
      refine wpR_val (v := (Value.bool (!decide ((r83.1.len : Int) = 1)))) (w' := w9) (wantG rfl rfl rfl hc101) rfl rfl (x_neq rfl rfl rfl) ?_
      refine rv (Value.bool (!decide ((r83.1.len : Int) = 1))) w9 rfl rfl rfl (x_pickF (v := (Value.bool (!decide ((r83.1.len : Int) = 1)))) rfl rfl hc101 rfl) ?_
      refine wpR_nil ?_
      exact ⟨(), ⟨(by rw [hc101]; rfl), e5, e6, e8, trivial⟩, rfl⟩
  rintro _ ρ wj ⟨e95, e5, e6, e8, -⟩ rfl
  refine wpR_nil ?_
  refine wpC_cond (b := (((((((((!decide (r33.2 = 0)) || (!decide (r80.2 = 0))) || (!decide (r81.2 = 0))) || (!decide (r83.2.2 = 0))) || r80.1.isNone) || r81.1.isNone) || (!decide ((r56.1.len : Int) = 0))) || (!decide ((r79.1.len : Int) = 1))) || (!decide ((r79.2.len : Int) = 0))) || (!decide ((r83.1.len : Int) = 1))) e95 (fun hc102 => ?_) (fun hc102 => ?_)
  · replace h := h.1 hc102
    refine wpC_seq ?_
    refine wpC_region ?_
    refine rv (Value.bool false) w9 rfl rfl rfl (x_assign rfl rfl) ?_
    refine wpR_nil ?_
    refine wpC_ret ?_
    exact ⟨.inl rfl, fun a ha => ⟨_, results_rep1 rfl ha rfl, false, rfl, h⟩⟩
  · replace h := h.2 hc102
    refine wpC_skip ?_
    refine wpC_seq ?_
    refine wpC_region ?_
    refine rv (Value.pointer r80.1) w9 rfl rfl rfl (x_move rfl e6) ?_
    refine wpR_enter rfl rfl rfl (x_call (vs := [(Value.pointer r80.1)]) rfl rfl (mapl_cons rfl mapl_nil) Tryz.func8 NN_8 NB_8) (Calls.mono h ?_)
    rintro _ w10 ⟨r103, rfl, h⟩
    refine ⟨_, rfl, ?_⟩
    refine rv (Value.tuple #[(Value.int .i64 r103.1), (Value.int .i64 r103.2)]) w10 rfl rfl rfl (x_move rfl rfl) ?_
    refine rv (Value.int .i64 r103.1) w10 rfl rfl rfl (x_extract rfl rfl rfl) ?_
    refine rv (Value.int .i64 r103.2) w10 rfl rfl rfl (x_extract rfl rfl rfl) ?_
    refine rv (Value.int .i64 r103.1) w10 rfl rfl rfl (x_assign rfl rfl) ?_
    refine rv (Value.int .i64 r103.2) w10 rfl rfl rfl (x_assign rfl rfl) ?_
    refine wpR_nil ?_
    refine wpC_seq ?_
    refine wpC_cut (fun ρ => ρ 5 = (Sl.v r79.1) ∧ ρ 6 = (Value.pointer r80.1) ∧ ρ 8 = (Value.pointer r81.1) ∧ ρ 13 = (Value.int .i64 r103.1) ∧ ρ 14 = (Value.int .i64 r103.2) ∧ True) ⟨e5, e6, e8, rfl, rfl, trivial⟩ ?_
    rintro ρ ⟨e5, e6, e8, e13, e14, -⟩
    refine wpC_region ?_
    refine rv (Value.pointer r81.1) w10 rfl rfl rfl (x_move rfl e8) ?_
    refine rv (Value.int .i64 r103.1) w10 rfl rfl rfl (x_move rfl e13) ?_
    refine wpR_enter rfl rfl rfl (x_call (vs := [(Value.pointer r81.1), (Value.int .i64 r103.1)]) rfl rfl (mapl_cons rfl (mapl_cons rfl mapl_nil)) Tryz.func23 NN_23 NB_23) (Calls.mono h ?_)
    rintro _ w11 ⟨r104, rfl, h⟩
    refine ⟨_, rfl, ?_⟩
    refine rv (Value.tuple #[(Sl.v r104.1), (Value.int .i64 r104.2)]) w11 rfl rfl rfl (x_move rfl rfl) ?_
    refine rv (Sl.v r104.1) w11 rfl rfl rfl (x_extract rfl rfl rfl) ?_
    refine rv (Value.int .i64 r104.2) w11 rfl rfl rfl (x_extract rfl rfl rfl) ?_
    refine rv (Sl.v r104.1) w11 rfl rfl rfl (x_assign rfl rfl) ?_
    refine rv (Value.int .i64 r104.2) w11 rfl rfl rfl (x_assign rfl rfl) ?_
    refine wpR_nil ?_
    refine wpC_seq ?_
    refine wpC_cut (fun ρ => ρ 5 = (Sl.v r79.1) ∧ ρ 6 = (Value.pointer r80.1) ∧ ρ 14 = (Value.int .i64 r103.2) ∧ ρ 15 = (Sl.v r104.1) ∧ ρ 16 = (Value.int .i64 r104.2) ∧ True) ⟨e5, e6, e14, rfl, rfl, trivial⟩ ?_
    rintro ρ ⟨e5, e6, e14, e15, e16, -⟩
    refine wpC_region ?_
    refine rv (Value.agg #[(Value.int .i64 0), (Value.int .i64 0), (Value.int .i64 0), (Value.int .i64 (-1)), (Value.int .i64 (-1))]) w11 rfl rfl rfl (x_build (qs := [(0, (Value.int .i64 0)), (3, (Value.int .i64 (-1))), (4, (Value.int .i64 (-1)))]) rfl (by rfl) (BD_52_0_3_4 0 (-1) (-1) _)) ?_
    obtain ⟨b105, hb105⟩ : ∃ u, u = w11.heap.size := ⟨_, rfl⟩
    obtain ⟨w12, hw105⟩ : ∃ u, u = w11.alloc (.cells #[(Value.int .i64 0), (Value.int .i64 0), (Value.int .i64 0), (Value.int .i64 (-1)), (Value.int .i64 (-1))] 52) := ⟨_, rfl⟩
    replace h := h b105 w12 hb105 hw105
    refine rv (Sl.v (⟨some ⟨b105, 0, none⟩, 1, 1⟩ : Sl)) w12 rfl rfl rfl ((x_buildSlice (qs := [(0, (Value.agg #[(Value.int .i64 0), (Value.int .i64 0), (Value.int .i64 0), (Value.int .i64 (-1)), (Value.int .i64 (-1))]))]) rfl (by rfl) (BS_53_1_0 0 0 0 (-1) (-1))).trans (by rw [← hb105, ← hw105])) ?_
    refine rv (Value.agg #[(Value.int .i64 1), (Value.int .i64 0), (Value.int .i64 1), (Value.int .i64 (-1)), (Value.int .i64 (-1))]) w12 rfl rfl rfl (x_build (qs := [(0, (Value.int .i64 1)), (2, (Value.int .i64 1)), (3, (Value.int .i64 (-1))), (4, (Value.int .i64 (-1)))]) rfl (by rfl) (BD_52_0_2_3_4 1 1 (-1) (-1) _)) ?_
    refine wpR_enter rfl rfl rfl (x_call (vs := [(Sl.v (⟨some ⟨b105, 0, none⟩, 1, 1⟩ : Sl)), (Value.agg #[(Value.int .i64 1), (Value.int .i64 0), (Value.int .i64 1), (Value.int .i64 (-1)), (Value.int .i64 (-1))]), (Value.int .i64 3)]) rfl rfl (mapl_cons rfl (mapl_cons rfl (mapl_cons rfl mapl_nil))) Tryz.func17 NN_17 NB_17) (Calls.mono h ?_)
    rintro _ w13 ⟨r106, rfl, h⟩
    refine ⟨_, rfl, ?_⟩
    refine rv (Value.tuple #[(Value.int .i64 r106.1), (Value.bool r106.2)]) w13 rfl rfl rfl (x_move rfl rfl) ?_
    refine rv (Value.int .i64 r106.1) w13 rfl rfl rfl (x_extract rfl rfl rfl) ?_
    refine rv (Value.bool r106.2) w13 rfl rfl rfl (x_extract rfl rfl rfl) ?_
    refine rv (Value.int .i64 r106.1) w13 rfl rfl rfl (x_assign rfl rfl) ?_
    refine rv (Value.bool r106.2) w13 rfl rfl rfl (x_assign rfl rfl) ?_
    refine wpR_nil ?_
    refine wpC_seq ?_
    refine wpC_cut (fun ρ => ρ 5 = (Sl.v r79.1) ∧ ρ 6 = (Value.pointer r80.1) ∧ ρ 14 = (Value.int .i64 r103.2) ∧ ρ 15 = (Sl.v r104.1) ∧ ρ 16 = (Value.int .i64 r104.2) ∧ ρ 17 = (Value.int .i64 r106.1) ∧ ρ 18 = (Value.bool r106.2) ∧ True) ⟨e5, e6, e14, e15, e16, rfl, rfl, trivial⟩ ?_
    rintro ρ ⟨e5, e6, e14, e15, e16, e17, e18, -⟩
    refine wpC_region ?_
    refine rv (Sl.v r79.1) w13 rfl rfl rfl (x_move rfl e5) ?_
    obtain ⟨q107, z107, r107, h⟩ := h
    generalize hp107 : z107.add ((0 : Int).toNat * 1) = p107 at h
    refine rv (Value.pointer (some p107)) w13 rfl rfl rfl ((x_indexAddr (s := r79.1) rfl rfl rfl ES_39 q107 r107).trans (by rw [hp107])) ?_
    obtain ⟨x108, q108, h⟩ := h
    refine rv (Value.int .i64 x108) w13 rfl rfl rfl (x_load1 rfl rfl SH_3 q108) ?_
    refine rv (Value.bool (decide (x108 = 3))) w13 rfl rfl rfl (x_eql rfl rfl rfl) ?_
    refine rv (Value.bool (decide (x108 = 3))) w13 rfl rfl rfl (x_move rfl rfl) ?_
    refine wpR_joinJ 3 (fun (_ : Unit) ρ => ρ 121 = Value.bool ((decide (x108 = 3)) && (decide (r103.2 = 0))) ∧ ρ 6 = (Value.pointer r80.1) ∧ ρ 15 = (Sl.v r104.1) ∧ ρ 16 = (Value.int .i64 r104.2) ∧ ρ 17 = (Value.int .i64 r106.1) ∧ ρ 18 = (Value.bool r106.2) ∧ True) (fun _ w => w13 = w) ?_ ?_
    · clear h
      rcases Bool.eq_false_or_eq_true (decide (x108 = 3)) with hc110 | hc110
      · skip
        refine wpR_val (v := (Value.int .i64 r103.2)) (w' := w13) (wantG rfl rfl rfl hc110) rfl rfl (x_move rfl e14) ?_
        refine wpR_val (v := (Value.bool (decide (r103.2 = 0)))) (w' := w13) (wantG rfl rfl rfl hc110) rfl rfl (x_eql rfl rfl rfl) ?_
        refine rv (Value.bool (decide (r103.2 = 0))) w13 rfl rfl rfl (x_pickT (v := (Value.bool (decide (r103.2 = 0)))) rfl rfl hc110 rfl) ?_
        refine wpR_nil ?_
        exact ⟨(), ⟨(by rw [hc110]; rfl), e6, e15, e16, e17, e18, trivial⟩, rfl⟩
      · skip
        refine wpR_pass (wantN rfl rfl rfl hc110) rfl rfl ?_
        refine wpR_pass (wantN rfl rfl rfl hc110) rfl rfl ?_
        refine rv (Value.bool false) w13 rfl rfl rfl (x_pickF (v := (Value.bool false)) rfl rfl hc110 rfl) ?_
        refine wpR_nil ?_
        exact ⟨(), ⟨(by rw [hc110]; rfl), e6, e15, e16, e17, e18, trivial⟩, rfl⟩
    rintro _ ρ wj ⟨e121, e6, e15, e16, e17, e18, -⟩ rfl
    refine rv (Value.bool ((decide (x108 = 3)) && (decide (r103.2 = 0)))) w13 rfl rfl rfl (x_move rfl e121) ?_
    refine wpR_joinJ 4 (fun (_ : Unit) ρ => ρ 126 = Value.bool (((decide (x108 = 3)) && (decide (r103.2 = 0))) && (decide ((r104.1.len : Int) = 1))) ∧ ρ 6 = (Value.pointer r80.1) ∧ ρ 16 = (Value.int .i64 r104.2) ∧ ρ 17 = (Value.int .i64 r106.1) ∧ ρ 18 = (Value.bool r106.2) ∧ True) (fun _ w => w13 = w) ?_ ?_
    · clear h
      rcases Bool.eq_false_or_eq_true ((decide (x108 = 3)) && (decide (r103.2 = 0))) with hc112 | hc112
      · skip
        refine wpR_val (v := (Sl.v r104.1)) (w' := w13) (wantG rfl rfl rfl hc112) rfl rfl (x_move rfl e15) ?_
        refine wpR_val (v := (Value.int .i64 (r104.1.len : Int))) (w' := w13) (wantG rfl rfl rfl hc112) rfl rfl (x_lenS (s := r104.1) rfl rfl isSliceT_39) ?_
        refine wpR_val (v := (Value.bool (decide ((r104.1.len : Int) = 1)))) (w' := w13) (wantG rfl rfl rfl hc112) rfl rfl (x_eql rfl rfl rfl) ?_
        refine rv (Value.bool (decide ((r104.1.len : Int) = 1))) w13 rfl rfl rfl (x_pickT (v := (Value.bool (decide ((r104.1.len : Int) = 1)))) rfl rfl hc112 rfl) ?_
        refine wpR_nil ?_
        exact ⟨(), ⟨(by rw [hc112]; rfl), e6, e16, e17, e18, trivial⟩, rfl⟩
      · skip
        refine wpR_pass (wantN rfl rfl rfl hc112) rfl rfl ?_
        refine wpR_pass (wantN rfl rfl rfl hc112) rfl rfl ?_
        refine wpR_pass (wantN rfl rfl rfl hc112) rfl rfl ?_
        refine rv (Value.bool false) w13 rfl rfl rfl (x_pickF (v := (Value.bool false)) rfl rfl hc112 rfl) ?_
        refine wpR_nil ?_
        exact ⟨(), ⟨(by rw [hc112]; rfl), e6, e16, e17, e18, trivial⟩, rfl⟩
    rintro _ ρ wj ⟨e126, e6, e16, e17, e18, -⟩ rfl
    refine rv (Value.bool (((decide (x108 = 3)) && (decide (r103.2 = 0))) && (decide ((r104.1.len : Int) = 1)))) w13 rfl rfl rfl (x_move rfl e126) ?_
    refine wpR_joinJ 3 (fun (_ : Unit) ρ => ρ 130 = Value.bool ((((decide (x108 = 3)) && (decide (r103.2 = 0))) && (decide ((r104.1.len : Int) = 1))) && (decide (r104.2 = 1))) ∧ ρ 6 = (Value.pointer r80.1) ∧ ρ 16 = (Value.int .i64 r104.2) ∧ ρ 17 = (Value.int .i64 r106.1) ∧ ρ 18 = (Value.bool r106.2) ∧ True) (fun _ w => w13 = w) ?_ ?_
    · clear h
      rcases Bool.eq_false_or_eq_true (((decide (x108 = 3)) && (decide (r103.2 = 0))) && (decide ((r104.1.len : Int) = 1))) with hc114 | hc114
      · skip
        refine wpR_val (v := (Value.int .i64 r104.2)) (w' := w13) (wantG rfl rfl rfl hc114) rfl rfl (x_move rfl e16) ?_
        refine wpR_val (v := (Value.bool (decide (r104.2 = 1)))) (w' := w13) (wantG rfl rfl rfl hc114) rfl rfl (x_eql rfl rfl rfl) ?_
        refine rv (Value.bool (decide (r104.2 = 1))) w13 rfl rfl rfl (x_pickT (v := (Value.bool (decide (r104.2 = 1)))) rfl rfl hc114 rfl) ?_
        refine wpR_nil ?_
        exact ⟨(), ⟨(by rw [hc114]; rfl), e6, e16, e17, e18, trivial⟩, rfl⟩
      · skip
        refine wpR_pass (wantN rfl rfl rfl hc114) rfl rfl ?_
        refine wpR_pass (wantN rfl rfl rfl hc114) rfl rfl ?_
        refine rv (Value.bool false) w13 rfl rfl rfl (x_pickF (v := (Value.bool false)) rfl rfl hc114 rfl) ?_
        refine wpR_nil ?_
        exact ⟨(), ⟨(by rw [hc114]; rfl), e6, e16, e17, e18, trivial⟩, rfl⟩
    rintro _ ρ wj ⟨e130, e6, e16, e17, e18, -⟩ rfl
    refine rv (Value.bool ((((decide (x108 = 3)) && (decide (r103.2 = 0))) && (decide ((r104.1.len : Int) = 1))) && (decide (r104.2 = 1)))) w13 rfl rfl rfl (x_move rfl e130) ?_
    obtain ⟨J115, h, hk⟩ := h
    refine wpR_joinJ 5 (fun x ρ => ρ 136 = Value.bool x ∧ ρ 6 = (Value.pointer r80.1) ∧ ρ 17 = (Value.int .i64 r106.1) ∧ ρ 18 = (Value.bool r106.2) ∧ True) (J115) ?_ ?_
    · clear hk
      rcases Bool.eq_false_or_eq_true ((((decide (x108 = 3)) && (decide (r103.2 = 0))) && (decide ((r104.1.len : Int) = 1))) && (decide (r104.2 = 1))) with hc116 | hc116
      · replace h := h.1 hc116
        refine wpR_val (v := (Value.pointer r80.1)) (w' := w13) (wantG rfl rfl rfl hc116) rfl rfl (x_move rfl e6) ?_
        refine wpR_val (v := (Value.int .i64 r104.2)) (w' := w13) (wantG rfl rfl rfl hc116) rfl rfl (x_move rfl e16) ?_
        refine wpR_enter (wantG rfl rfl rfl hc116) rfl rfl (x_call (vs := [(Value.pointer r80.1), (Value.int .i64 r104.2)]) rfl rfl (mapl_cons rfl (mapl_cons rfl mapl_nil)) Tryz.func24 NN_24 NB_24) (Calls.mono h ?_)
        rintro _ w14 ⟨r117, rfl, h⟩
        refine ⟨_, rfl, ?_⟩
        refine wpR_val (v := (Value.bool (decide (r117 = 0)))) (w' := w14) (wantG rfl rfl rfl hc116) rfl rfl (x_eql rfl rfl rfl) ?_
        refine rv (Value.bool (decide (r117 = 0))) w14 rfl rfl rfl (x_pickT (v := (Value.bool (decide (r117 = 0)))) rfl rfl hc116 rfl) ?_
        refine wpR_nil ?_
        exact ⟨decide (r117 = 0), ⟨rfl, e6, e17, e18, trivial⟩, h⟩
      · replace h := h.2 hc116
        refine wpR_pass (wantN rfl rfl rfl hc116) rfl rfl ?_
        refine wpR_pass (wantN rfl rfl rfl hc116) rfl rfl ?_
        refine wpR_pass (wantN rfl rfl rfl hc116) rfl rfl ?_
        refine wpR_pass (wantN rfl rfl rfl hc116) rfl rfl ?_
        refine rv (Value.bool false) w13 rfl rfl rfl (x_pickF (v := (Value.bool false)) rfl rfl hc116 rfl) ?_
        refine wpR_nil ?_
        exact ⟨false, ⟨rfl, e6, e17, e18, trivial⟩, h⟩
    clear h
    rintro c118 ρ w15 ⟨e136, e6, e17, e18, -⟩ h
    replace h := hk c118 w15 h
    clear hk
    refine rv (Value.bool c118) w15 rfl rfl rfl (x_move rfl e136) ?_
    obtain ⟨J119, h, hk⟩ := h
    refine wpR_joinJ 4 (fun x ρ => ρ 141 = Value.bool x ∧ ρ 17 = (Value.int .i64 r106.1) ∧ ρ 18 = (Value.bool r106.2) ∧ True) (J119) ?_ ?_
    · clear hk
      rcases Bool.eq_false_or_eq_true (c118) with hc120 | hc120
      · replace h := h.1 hc120
        refine wpR_val (v := (Value.pointer r80.1)) (w' := w15) (wantG rfl rfl rfl hc120) rfl rfl (x_move rfl e6) ?_
        refine wpR_enter (wantG rfl rfl rfl hc120) rfl rfl (x_call (vs := [(Value.pointer r80.1)]) rfl rfl (mapl_cons rfl mapl_nil) Tryz.func12 NN_12 NB_12) (Calls.mono h ?_)
        rintro _ w16 ⟨r121, rfl, h⟩
        refine ⟨_, rfl, ?_⟩
        refine wpR_val (v := (Value.bool (decide (r121 = 0)))) (w' := w16) (wantG rfl rfl rfl hc120) rfl rfl (x_eql rfl rfl rfl) ?_
        refine rv (Value.bool (decide (r121 = 0))) w16 rfl rfl rfl (x_pickT (v := (Value.bool (decide (r121 = 0)))) rfl rfl hc120 rfl) ?_
        refine wpR_nil ?_
        exact ⟨decide (r121 = 0), ⟨rfl, e17, e18, trivial⟩, h⟩
      · replace h := h.2 hc120
        refine wpR_pass (wantN rfl rfl rfl hc120) rfl rfl ?_
        refine wpR_pass (wantN rfl rfl rfl hc120) rfl rfl ?_
        refine wpR_pass (wantN rfl rfl rfl hc120) rfl rfl ?_
        refine rv (Value.bool false) w15 rfl rfl rfl (x_pickF (v := (Value.bool false)) rfl rfl hc120 rfl) ?_
        refine wpR_nil ?_
        exact ⟨false, ⟨rfl, e17, e18, trivial⟩, h⟩
    clear h
    rintro c122 ρ w17 ⟨e141, e17, e18, -⟩ h
    replace h := hk c122 w17 h
    clear hk
    refine rv (Value.bool c122) w17 rfl rfl rfl (x_move rfl e141) ?_
    refine wpR_joinJ 3 (fun (_ : Unit) ρ => ρ 145 = Value.bool (c122 && (decide (r106.1 = 0))) ∧ ρ 18 = (Value.bool r106.2) ∧ True) (fun _ w => w17 = w) ?_ ?_
    · clear h
      rcases Bool.eq_false_or_eq_true (c122) with hc124 | hc124
      · skip
        refine wpR_val (v := (Value.int .i64 r106.1)) (w' := w17) (wantG rfl rfl rfl hc124) rfl rfl (x_move rfl e17) ?_
        refine wpR_val (v := (Value.bool (decide (r106.1 = 0)))) (w' := w17) (wantG rfl rfl rfl hc124) rfl rfl (x_eql rfl rfl rfl) ?_
        refine rv (Value.bool (decide (r106.1 = 0))) w17 rfl rfl rfl (x_pickT (v := (Value.bool (decide (r106.1 = 0)))) rfl rfl hc124 rfl) ?_
        refine wpR_nil ?_
        exact ⟨(), ⟨(by rw [hc124]; rfl), e18, trivial⟩, rfl⟩
      · skip
        refine wpR_pass (wantN rfl rfl rfl hc124) rfl rfl ?_
        refine wpR_pass (wantN rfl rfl rfl hc124) rfl rfl ?_
        refine rv (Value.bool false) w17 rfl rfl rfl (x_pickF (v := (Value.bool false)) rfl rfl hc124 rfl) ?_
        refine wpR_nil ?_
        exact ⟨(), ⟨(by rw [hc124]; rfl), e18, trivial⟩, rfl⟩
    rintro _ ρ wj ⟨e145, e18, -⟩ rfl
    refine rv (Value.bool (c122 && (decide (r106.1 = 0)))) w17 rfl rfl rfl (x_move rfl e145) ?_
    refine wpR_joinJ 2 (fun (_ : Unit) ρ => ρ 148 = Value.bool ((c122 && (decide (r106.1 = 0))) && r106.2) ∧ True) (fun _ w => w17 = w) ?_ ?_
    · clear h
      rcases Bool.eq_false_or_eq_true (c122 && (decide (r106.1 = 0))) with hc126 | hc126
      · skip
        refine wpR_val (v := (Value.bool r106.2)) (w' := w17) (wantG rfl rfl rfl hc126) rfl rfl (x_move rfl e18) ?_
        refine rv (Value.bool r106.2) w17 rfl rfl rfl (x_pickT (v := (Value.bool r106.2)) rfl rfl hc126 rfl) ?_
        refine wpR_nil ?_
        exact ⟨(), ⟨(by rw [hc126]; rfl), trivial⟩, rfl⟩
      · skip
        refine wpR_pass (wantN rfl rfl rfl hc126) rfl rfl ?_
        refine rv (Value.bool false) w17 rfl rfl rfl (x_pickF (v := (Value.bool false)) rfl rfl hc126 rfl) ?_
        refine wpR_nil ?_
        exact ⟨(), ⟨(by rw [hc126]; rfl), trivial⟩, rfl⟩
    rintro _ ρ wj ⟨e148, -⟩ rfl
    refine rv (Value.bool ((c122 && (decide (r106.1 = 0))) && r106.2)) w17 rfl rfl rfl (x_assign rfl e148) ?_
    refine wpR_nil ?_
    refine wpC_ret ?_
    exact ⟨.inl rfl, fun a ha => ⟨_, results_rep1 rfl ha rfl, (c122 && (decide (r106.1 = 0))) && r106.2, rfl, h⟩⟩

/-- link.NewSender -/
def F6 (p0 : Int) (w0 : World) (K : ((Option Addr) × Int) → World → Prop) : Prop :=
  cnd ((decide (p0 < 1)) || (decide (64 < p0)))
    (
    K (none, 1) w0
    )
    (
    nw 77 #[(Value.int .i64 p0), (Value.int .i64 0), (Value.int .i64 0)] w0 fun b12 w1 =>
    K (some (Addr.mk b12 0 none), 0) w1
    )
set_option maxRecDepth 100000 in
theorem D6 (p0 : Int) (w0 : World) (K : ((Option Addr) × Int) → World → Prop) (h : F6 p0 w0 K) : callC Tryz.prog 6 #[(Value.int .i64 p0)] (fun (r : (Option Addr) × Int) => (Value.tuple #[(Value.pointer r.1), (Value.int .i64 r.2)])) w0 K := by
  unfold F6 at h
  refine calls_of_wpC Tryz.func6 rfl 13 rfl (by simp) ?_
  intro ρ hρ
  have e0 : ρ 0 = (Value.int .i64 p0) := hρ 0
  clear hρ
  refine wpC_seq ?_
  refine wpC_region ?_
  refine rv (Value.pointer none) w0 rfl rfl rfl (x_assign rfl rfl) ?_
  refine rv (Value.int .i64 0) w0 rfl rfl rfl (x_assign rfl rfl) ?_
  refine wpR_nil ?_
  refine wpC_seq ?_
  refine wpC_seq ?_
  refine wpC_cut (fun ρ => ρ 0 = (Value.int .i64 p0) ∧ True) ⟨e0, trivial⟩ ?_
  rintro ρ ⟨e0, -⟩
  refine wpC_region ?_
  refine rv (Value.int .i64 p0) w0 rfl rfl rfl (x_move rfl e0) ?_
  refine rv (Value.bool (decide (p0 < 1))) w0 rfl rfl rfl (x_lss rfl rfl rfl) ?_
  refine rv (Value.bool (decide (p0 < 1))) w0 rfl rfl rfl (x_move rfl rfl) ?_
  refine wpR_joinJ 3 (fun (_ : Unit) ρ => ρ 9 = Value.bool ((decide (p0 < 1)) || (decide (64 < p0))) ∧ ρ 0 = (Value.int .i64 p0) ∧ True) (fun _ w => w0 = w) ?_ ?_
  · clear h
    rcases Bool.eq_false_or_eq_true (decide (p0 < 1)) with hc10 | hc10
    · skip
      refine wpR_pass (wantN rfl rfl rfl hc10) rfl rfl ?_
      refine wpR_pass (wantN rfl rfl rfl hc10) rfl rfl ?_
      refine rv (Value.bool true) w0 rfl rfl rfl (x_pickT (v := (Value.bool true)) rfl rfl hc10 rfl) ?_
      refine wpR_nil ?_
      exact ⟨(), ⟨(by rw [hc10]; rfl), e0, trivial⟩, rfl⟩
    · skip
      refine wpR_val (v := (Value.int .i64 p0)) (w' := w0) (wantG rfl rfl rfl hc10) rfl rfl (x_move rfl e0) ?_
      refine wpR_val (v := (Value.bool (decide (64 < p0)))) (w' := w0) (wantG rfl rfl rfl hc10) rfl rfl (x_gtr rfl rfl rfl) ?_
      refine rv (Value.bool (decide (64 < p0))) w0 rfl rfl rfl (x_pickF (v := (Value.bool (decide (64 < p0)))) rfl rfl hc10 rfl) ?_
      refine wpR_nil ?_
      exact ⟨(), ⟨(by rw [hc10]; rfl), e0, trivial⟩, rfl⟩
  rintro _ ρ wj ⟨e9, e0, -⟩ rfl
  refine wpR_nil ?_
  refine wpC_cond (b := (decide (p0 < 1)) || (decide (64 < p0))) e9 (fun hc11 => ?_) (fun hc11 => ?_)
  · replace h := h.1 hc11
    refine wpC_seq ?_
    refine wpC_region ?_
    refine rv (Value.pointer none) w0 rfl rfl rfl (x_assign rfl rfl) ?_
    refine rv (Value.int .i64 1) w0 rfl rfl rfl (x_assign rfl rfl) ?_
    refine wpR_nil ?_
    refine wpC_ret ?_
    exact ⟨.inl rfl, fun a ha => ⟨_, results_rep2 rfl ha rfl rfl, (none, 1), rfl, h⟩⟩
  · replace h := h.2 hc11
    refine wpC_skip ?_
    refine wpC_seq ?_
    refine wpC_region ?_
    refine rv (Value.int .i64 p0) w0 rfl rfl rfl (x_move rfl e0) ?_
    refine rv (Value.agg #[(Value.int .i64 p0), (Value.int .i64 0), (Value.int .i64 0)]) w0 rfl rfl rfl (x_build (qs := [(0, (Value.int .i64 p0))]) rfl (by rfl) (BD_77_0 p0 _)) ?_
    obtain ⟨b12, hb12⟩ : ∃ u, u = w0.heap.size := ⟨_, rfl⟩
    obtain ⟨w1, hw12⟩ : ∃ u, u = w0.alloc (.cells #[(Value.int .i64 p0), (Value.int .i64 0), (Value.int .i64 0)] 77) := ⟨_, rfl⟩
    replace h := h b12 w1 hb12 hw12
    refine rv (Value.pointer (some (Addr.mk b12 0 none))) w1 rfl rfl rfl ((x_box (v := (Value.agg #[(Value.int .i64 p0), (Value.int .i64 0), (Value.int .i64 0)])) rfl rfl).trans (by rw [hb12, hw12]; rfl)) ?_
    refine rv (Value.pointer (some (Addr.mk b12 0 none))) w1 rfl rfl rfl (x_assign rfl rfl) ?_
    refine rv (Value.int .i64 0) w1 rfl rfl rfl (x_assign rfl rfl) ?_
    refine wpR_nil ?_
    refine wpC_ret ?_
    exact ⟨.inl rfl, fun a ha => ⟨_, results_rep2 rfl ha rfl rfl, (some (Addr.mk b12 0 none), 0), rfl, h⟩⟩

/-- link.NewReceiver -/
def F7 (p0 : Int) (w0 : World) (K : ((Option Addr) × Int) → World → Prop) : Prop :=
  cnd ((decide (p0 < 1)) || (decide (64 < p0)))
    (
    K (none, 1) w0
    )
    (
    rn Tryz.prog (Instr.makeMap 78 none) (fun (r : (Option Nat)) => (Value.map r)) w0 fun r12 w1 =>
    nw 80 #[(Value.int .i64 p0), (Value.int .i64 0), (Value.map r12)] w1 fun b13 w2 =>
    K (some (Addr.mk b13 0 none), 0) w2
    )
set_option maxRecDepth 100000 in
theorem D7 (p0 : Int) (w0 : World) (K : ((Option Addr) × Int) → World → Prop) (h : F7 p0 w0 K) : callC Tryz.prog 7 #[(Value.int .i64 p0)] (fun (r : (Option Addr) × Int) => (Value.tuple #[(Value.pointer r.1), (Value.int .i64 r.2)])) w0 K := by
  unfold F7 at h
  refine calls_of_wpC Tryz.func7 rfl 14 rfl (by simp) ?_
  intro ρ hρ
  have e0 : ρ 0 = (Value.int .i64 p0) := hρ 0
  clear hρ
  refine wpC_seq ?_
  refine wpC_region ?_
  refine rv (Value.pointer none) w0 rfl rfl rfl (x_assign rfl rfl) ?_
  refine rv (Value.int .i64 0) w0 rfl rfl rfl (x_assign rfl rfl) ?_
  refine wpR_nil ?_
  refine wpC_seq ?_
  refine wpC_seq ?_
  refine wpC_cut (fun ρ => ρ 0 = (Value.int .i64 p0) ∧ True) ⟨e0, trivial⟩ ?_
  rintro ρ ⟨e0, -⟩
  refine wpC_region ?_
  refine rv (Value.int .i64 p0) w0 rfl rfl rfl (x_move rfl e0) ?_
  refine rv (Value.bool (decide (p0 < 1))) w0 rfl rfl rfl (x_lss rfl rfl rfl) ?_
  refine rv (Value.bool (decide (p0 < 1))) w0 rfl rfl rfl (x_move rfl rfl) ?_
  refine wpR_joinJ 3 (fun (_ : Unit) ρ => ρ 9 = Value.bool ((decide (p0 < 1)) || (decide (64 < p0))) ∧ ρ 0 = (Value.int .i64 p0) ∧ True) (fun _ w => w0 = w) ?_ ?_
  · clear h
    rcases Bool.eq_false_or_eq_true (decide (p0 < 1)) with hc10 | hc10
    · skip
      refine wpR_pass (wantN rfl rfl rfl hc10) rfl rfl ?_
      refine wpR_pass (wantN rfl rfl rfl hc10) rfl rfl ?_
      refine rv (Value.bool true) w0 rfl rfl rfl (x_pickT (v := (Value.bool true)) rfl rfl hc10 rfl) ?_
      refine wpR_nil ?_
      exact ⟨(), ⟨(by rw [hc10]; rfl), e0, trivial⟩, rfl⟩
    · skip
      refine wpR_val (v := (Value.int .i64 p0)) (w' := w0) (wantG rfl rfl rfl hc10) rfl rfl (x_move rfl e0) ?_
      refine wpR_val (v := (Value.bool (decide (64 < p0)))) (w' := w0) (wantG rfl rfl rfl hc10) rfl rfl (x_gtr rfl rfl rfl) ?_
      refine rv (Value.bool (decide (64 < p0))) w0 rfl rfl rfl (x_pickF (v := (Value.bool (decide (64 < p0)))) rfl rfl hc10 rfl) ?_
      refine wpR_nil ?_
      exact ⟨(), ⟨(by rw [hc10]; rfl), e0, trivial⟩, rfl⟩
  rintro _ ρ wj ⟨e9, e0, -⟩ rfl
  refine wpR_nil ?_
  refine wpC_cond (b := (decide (p0 < 1)) || (decide (64 < p0))) e9 (fun hc11 => ?_) (fun hc11 => ?_)
  · replace h := h.1 hc11
    refine wpC_seq ?_
    refine wpC_region ?_
    refine rv (Value.pointer none) w0 rfl rfl rfl (x_assign rfl rfl) ?_
    refine rv (Value.int .i64 1) w0 rfl rfl rfl (x_assign rfl rfl) ?_
    refine wpR_nil ?_
    refine wpC_ret ?_
    exact ⟨.inl rfl, fun a ha => ⟨_, results_rep2 rfl ha rfl rfl, (none, 1), rfl, h⟩⟩
  · replace h := h.2 hc11
    refine wpC_skip ?_
    refine wpC_seq ?_
    refine wpC_region ?_
    refine rv (Value.int .i64 p0) w0 rfl rfl rfl (x_move rfl e0) ?_
    obtain ⟨r12, w1, q12, h⟩ := h
    refine rv (Value.map r12) w1 rfl rfl rfl (x_makeMap rfl rfl q12) ?_
    refine rv (Value.agg #[(Value.int .i64 p0), (Value.int .i64 0), (Value.map r12)]) w1 rfl rfl rfl (x_build (qs := [(0, (Value.int .i64 p0)), (2, (Value.map r12))]) rfl (by rfl) (BD_80_0_2 p0 r12 _)) ?_
    obtain ⟨b13, hb13⟩ : ∃ u, u = w1.heap.size := ⟨_, rfl⟩
    obtain ⟨w2, hw13⟩ : ∃ u, u = w1.alloc (.cells #[(Value.int .i64 p0), (Value.int .i64 0), (Value.map r12)] 80) := ⟨_, rfl⟩
    replace h := h b13 w2 hb13 hw13
    refine rv (Value.pointer (some (Addr.mk b13 0 none))) w2 rfl rfl rfl ((x_box (v := (Value.agg #[(Value.int .i64 p0), (Value.int .i64 0), (Value.map r12)])) rfl rfl).trans (by rw [hb13, hw13]; rfl)) ?_
    refine rv (Value.pointer (some (Addr.mk b13 0 none))) w2 rfl rfl rfl (x_assign rfl rfl) ?_
    refine rv (Value.int .i64 0) w2 rfl rfl rfl (x_assign rfl rfl) ?_
    refine wpR_nil ?_
    refine wpC_ret ?_
    exact ⟨.inl rfl, fun a ha => ⟨_, results_rep2 rfl ha rfl rfl, (some (Addr.mk b13 0 none), 0), rfl, h⟩⟩

/-- (*link.Sender).Send -/
def F8 (p0 : Option Addr) (w0 : World) (K : (Int × Int) → World → Prop) : Prop :=
  callC Tryz.prog 12 #[(Value.pointer p0)] (fun (r : Int) => (Value.int .i64 r)) w0 fun r9 w1 =>
  cnd (decide (r9 = 1000))
    (
    K (0, 6) w1
    )
    (
    nn p0 fun a11 =>
    ld (Value.int .i64) (a11.add 1) w1 fun x12 =>
    nn p0 fun a13 =>
    ld (Value.int .i64) (a13.add 1) w1 fun x14 =>
    nn p0 fun a15 =>
    st (a15.add 1) [(Value.int .i64 (IntKind.i64.wrap (x14 + 1)))] w1 fun w2 =>
    K (x12, 0) w2
    )
set_option maxRecDepth 100000 in
theorem D8 (p0 : Option Addr) (w0 : World) (K : (Int × Int) → World → Prop) (h : F8 p0 w0 K) : callC Tryz.prog 8 #[(Value.pointer p0)] (fun (r : Int × Int) => (Value.tuple #[(Value.int .i64 r.1), (Value.int .i64 r.2)])) w0 K := by
  unfold F8 at h
  refine calls_of_wpC Tryz.func8 rfl 20 rfl (by simp) ?_
  intro ρ hρ
  have e0 : ρ 0 = (Value.pointer p0) := hρ 0
  clear hρ
  refine wpC_seq ?_
  refine wpC_region ?_
  refine rv (Value.int .i64 0) w0 rfl rfl rfl (x_assign rfl rfl) ?_
  refine rv (Value.int .i64 0) w0 rfl rfl rfl (x_assign rfl rfl) ?_
  refine wpR_nil ?_
  refine wpC_seq ?_
  refine wpC_seq ?_
  refine wpC_cut (fun ρ => ρ 0 = (Value.pointer p0) ∧ True) ⟨e0, trivial⟩ ?_
  rintro ρ ⟨e0, -⟩
  refine wpC_region ?_
  refine rv (Value.pointer p0) w0 rfl rfl rfl (x_move rfl e0) ?_
  refine wpR_enter rfl rfl rfl (x_call (vs := [(Value.pointer p0)]) rfl rfl (mapl_cons rfl mapl_nil) Tryz.func12 NN_12 NB_12) (Calls.mono h ?_)
  rintro _ w1 ⟨r9, rfl, h⟩
  refine ⟨_, rfl, ?_⟩
  refine rv (Value.bool (decide (r9 = 1000))) w1 rfl rfl rfl (x_eql rfl rfl rfl) ?_
  refine wpR_nil ?_
  refine wpC_cond (b := decide (r9 = 1000)) rfl (fun hc10 => ?_) (fun hc10 => ?_)
  · replace h := h.1 hc10
    refine wpC_seq ?_
    refine wpC_cut (fun ρ => True) trivial ?_
    rintro ρ -
    refine wpC_region ?_
    refine rv (Value.int .i64 0) w1 rfl rfl rfl (x_assign rfl rfl) ?_
    refine rv (Value.int .i64 6) w1 rfl rfl rfl (x_assign rfl rfl) ?_
    refine wpR_nil ?_
    refine wpC_ret ?_
    exact ⟨.inl rfl, fun a ha => ⟨_, results_rep2 rfl ha rfl rfl, (0, 6), rfl, h⟩⟩
  · replace h := h.2 hc10
    refine wpC_skip ?_
    refine wpC_seq ?_
    refine wpC_cut (fun ρ => ρ 0 = (Value.pointer p0) ∧ True) ⟨e0, trivial⟩ ?_
    rintro ρ ⟨e0, -⟩
    refine wpC_region ?_
    refine rv (Value.pointer p0) w1 rfl rfl rfl (x_move rfl e0) ?_
    obtain ⟨a11, q11, h⟩ := h
    refine rv (Value.pointer (some a11)) w1 rfl rfl rfl (x_nilCheck rfl rfl q11) ?_
    refine rv (Value.pointer (some (a11.add 1))) w1 rfl rfl rfl (x_fieldAddr rfl rfl FA_77_1) ?_
    obtain ⟨x12, q12, h⟩ := h
    refine rv (Value.int .i64 x12) w1 rfl rfl rfl (x_load1 rfl rfl SH_3 q12) ?_
    refine rv (Value.int .i64 x12) w1 rfl rfl rfl (x_assign rfl rfl) ?_
    refine wpR_nil ?_
    refine wpC_seq ?_
    refine wpC_cut (fun ρ => ρ 0 = (Value.pointer p0) ∧ ρ 4 = (Value.int .i64 x12) ∧ True) ⟨e0, rfl, trivial⟩ ?_
    rintro ρ ⟨e0, e4, -⟩
    refine wpC_region ?_
    refine rv (Value.pointer p0) w1 rfl rfl rfl (x_move rfl e0) ?_
    obtain ⟨a13, q13, h⟩ := h
    refine rv (Value.pointer (some a13)) w1 rfl rfl rfl (x_nilCheck rfl rfl q13) ?_
    refine rv (Value.pointer (some (a13.add 1))) w1 rfl rfl rfl (x_fieldAddr rfl rfl FA_77_1) ?_
    obtain ⟨x14, q14, h⟩ := h
    refine rv (Value.int .i64 x14) w1 rfl rfl rfl (x_load1 rfl rfl SH_3 q14) ?_
    refine rv (Value.int .i64 (IntKind.i64.wrap (x14 + 1))) w1 rfl rfl rfl (x_add rfl rfl rfl) ?_
    obtain ⟨a15, q15, h⟩ := h
    refine rv (Value.pointer (some a15)) w1 rfl rfl rfl (x_nilCheck rfl rfl q15) ?_
    refine rv (Value.pointer (some (a15.add 1))) w1 rfl rfl rfl (x_fieldAddr rfl rfl FA_77_1) ?_
    obtain ⟨q16, h⟩ := h
    obtain ⟨w2, hw16⟩ : ∃ u, u = setAll w1 (a15.add 1) [(Value.int .i64 (IntKind.i64.wrap (x14 + 1)))] 0 := ⟨_, rfl⟩
    replace h := h w2 hw16
    refine wpR_skp (w' := w2) rfl rfl ((x_store (v := (Value.int .i64 (IntKind.i64.wrap (x14 + 1)))) rfl rfl rfl SZ_3 (ones (by rfl)) q16).trans (by rw [hw16]; rfl)) ?_
    refine wpR_nil ?_
    refine wpC_seq ?_
    refine wpC_cut (fun ρ => ρ 4 = (Value.int .i64 x12) ∧ True) ⟨e4, trivial⟩ ?_
    rintro ρ ⟨e4, -⟩
    refine wpC_region ?_
    refine rv (Value.int .i64 x12) w2 rfl rfl rfl (x_move rfl e4) ?_
    refine rv (Value.int .i64 x12) w2 rfl rfl rfl (x_assign rfl rfl) ?_
    refine rv (Value.int .i64 0) w2 rfl rfl rfl (x_assign rfl rfl) ?_
    refine wpR_nil ?_
    refine wpC_ret ?_
    exact ⟨.inl rfl, fun a ha => ⟨_, results_rep2 rfl ha rfl rfl, (x12, 0), rfl, h⟩⟩

/-- (*link.Sender).Left -/
def F12 (p0 : Option Addr) (w0 : World) (K : Int → World → Prop) : Prop :=
  jn (fun (J10 : Int → World → Prop) => tk w0 fun w1 =>
    nn p0 fun a11 =>
    ld (Value.int .i64) (a11.add 1) w1 fun x12 =>
    nn p0 fun a13 =>
    ld (Value.int .i64) (a13.add 2) w1 fun x14 =>
    J10 (IntKind.i64.wrap (x12 - x14)) w1
  )
  fun l15 w2 =>
  K l15 w2
set_option maxRecDepth 100000 in
theorem D12 (p0 : Option Addr) (w0 : World) (K : Int → World → Prop) (h : F12 p0 w0 K) : callC Tryz.prog 12 #[(Value.pointer p0)] (fun (r : Int) => (Value.int .i64 r)) w0 K := by
  unfold F12 at h
  refine calls_of_wpC Tryz.func12 rfl 12 rfl (by simp) ?_
  intro ρ hρ
  have e0 : ρ 0 = (Value.pointer p0) := hρ 0
  clear hρ
  refine wpC_seq ?_
  refine wpC_region ?_
  refine rv (Value.int .i64 0) w0 rfl rfl rfl (x_assign rfl rfl) ?_
  refine wpR_nil ?_
  refine wpC_seq ?_
  refine wpC_cut (fun ρ => ρ 0 = (Value.pointer p0) ∧ True) ⟨e0, trivial⟩ ?_
  rintro ρ ⟨e0, -⟩
  obtain ⟨J10, h, hk⟩ := h
  refine wpC_drawJ (by kernel_rfl) (fun (x : Int) ρ => ρ 2 = (Value.int .i64 x) ∧ True) J10 ?_ ?_
  · clear hk
    unfold tk at h
    generalize w0.drew = w1 at h ⊢
    refine wpD_take (v := (Value.pointer p0)) 0 (fun _ => True) rfl (by kernel_rfl) (by kernel_rfl) (by kernel_rfl) rfl rfl rfl trivial (fun w _ => (x_move (v := (Value.pointer p0)) rfl e0)) ?_
    obtain ⟨a11, q11, h⟩ := h
    refine wpD_take (v := (Value.pointer (some a11))) 1 (fun _ => True) rfl (by kernel_rfl) (by kernel_rfl) (by kernel_rfl) rfl rfl rfl trivial (fun w _ => (x_nilCheck rfl rfl q11)) ?_
    refine wpD_take (v := (Value.pointer (some (a11.add 1)))) 2 (fun _ => True) rfl (by kernel_rfl) (by kernel_rfl) (by kernel_rfl) rfl rfl rfl trivial (fun w _ => (x_fieldAddr rfl rfl FA_77_1)) ?_
    obtain ⟨x12, q12, h⟩ := h
    refine wpD_take (v := (Value.int .i64 x12)) 3 (fun w => w.cell? (a11.add 1) = some (Value.int .i64 x12)) rfl (by kernel_rfl) (by kernel_rfl) (by kernel_rfl) rfl rfl rfl q12 (fun w q12 => (x_load1 rfl rfl SH_3 q12)) ?_
    refine wpD_take (v := (Value.pointer p0)) 4 (fun _ => True) rfl (by kernel_rfl) (by kernel_rfl) (by kernel_rfl) rfl rfl rfl trivial (fun w _ => (x_move (v := (Value.pointer p0)) rfl e0)) ?_
    obtain ⟨a13, q13, h⟩ := h
    refine wpD_take (v := (Value.pointer (some a13))) 5 (fun _ => True) rfl (by kernel_rfl) (by kernel_rfl) (by kernel_rfl) rfl rfl rfl trivial (fun w _ => (x_nilCheck rfl rfl q13)) ?_
    refine wpD_take (v := (Value.pointer (some (a13.add 2)))) 6 (fun _ => True) rfl (by kernel_rfl) (by kernel_rfl) (by kernel_rfl) rfl rfl rfl trivial (fun w _ => (x_fieldAddr rfl rfl FA_77_2)) ?_
    obtain ⟨x14, q14, h⟩ := h
    refine wpD_take (v := (Value.int .i64 x14)) 7 (fun w => w.cell? (a13.add 2) = some (Value.int .i64 x14)) rfl (by kernel_rfl) (by kernel_rfl) (by kernel_rfl) rfl rfl rfl q14 (fun w q14 => (x_load1 rfl rfl SH_3 q14)) ?_
    refine wpD_take (v := (Value.int .i64 (IntKind.i64.wrap (x12 - x14)))) 8 (fun _ => True) rfl (by kernel_rfl) (by kernel_rfl) (by kernel_rfl) rfl rfl rfl trivial (fun w _ => (x_sub rfl rfl rfl)) ?_
    refine wpD_take (v := (Value.int .i64 (IntKind.i64.wrap (x12 - x14)))) 9 (fun _ => True) rfl (by kernel_rfl) (by kernel_rfl) (by kernel_rfl) rfl rfl rfl trivial (fun w _ => (x_assign (v := (Value.int .i64 (IntKind.i64.wrap (x12 - x14)))) rfl rfl)) ?_
    exact wpD_done (by kernel_rfl) ⟨IntKind.i64.wrap (x12 - x14), ⟨rfl, trivial⟩, h⟩
  clear h
  rintro l15 ρ w2 ⟨e2, -⟩ h
  replace h := hk l15 w2 h
  clear hk
  refine wpC_ret ?_
  exact ⟨.inl rfl, fun a ha => ⟨_, results_rep1 rfl ha e2, l15, rfl, h⟩⟩

/-- ring.Cut -/
def F15 (p0 : Sl) (p1 : Int) (w0 : World) (K : (Sl × Sl × Int) → World → Prop) : Prop :=
  callC Tryz.prog 33 #[(Sl.v p0), (Value.int .i64 p1)] (fun (r : Bool) => (Value.bool r)) w0 fun r9 w1 =>
  cnd (!r9)
    (
    K (Sl.nil, Sl.nil, 1) w1
    )
    (
    lp (fun (next11 : (Sl × Int) → World → Prop) l11 w2 =>
      cnd (decide (l11.2 < (p0.len : Int)))
        (
        jn (fun (J13 : Sl → World → Prop) =>
          ix p0 l11.2 3 fun p15 =>
          ld (Value.int .i64) (p15.add 0) w2 fun x16 =>
          ld (Value.int .i64) (p15.add 1) w2 fun x17 =>
          ld Value.bool (p15.add 2) w2 fun x18 =>
          nw 56 #[(Value.int .i64 0), (Value.int .i64 0), (Value.bool false)] w2 fun b19 w4 =>
          st (Addr.mk b19 0 none) [(Value.int .i64 x16), (Value.int .i64 x17), (Value.bool x18)] w4 fun w5 =>
          ld Value.bool ((Addr.mk b19 0 none).add 2) w5 fun x21 =>
          cnd (x21)
            (
            J13 l11.1 w5
            )
            (
            ld (Value.int .i64) ((Addr.mk b19 0 none).add 1) w5 fun x23 =>
            ld (Value.int .i64) ((Addr.mk b19 0 none).add 0) w5 fun x24 =>
            callC Tryz.prog 34 #[(Sl.v p0), (Sl.v l11.1), (Value.int .i64 x23), (Value.int .i64 x24)] (fun (r : Sl × Bool) => (Value.tuple #[(Sl.v r.1), (Value.bool r.2)])) w5 fun r25 w6 =>
            cnd (r25.2)
              (
              nw 3 #[(Value.int .i64 l11.2)] w6 fun b27 w7 =>
              rn Tryz.prog (Builtin.append_ #[39, 39] 39 #[Sl.v r25.1, Sl.v (⟨some ⟨b27, 0, none⟩, 1, 1⟩ : Sl)]) Sl.v w7 fun r28 w8 =>
              K (r28, Sl.nil, 19) w8
              )
              (
              nw 3 #[(Value.int .i64 l11.2)] w6 fun b29 w9 =>
              rn Tryz.prog (Builtin.append_ #[39, 39] 39 #[Sl.v l11.1, Sl.v (⟨some ⟨b29, 0, none⟩, 1, 1⟩ : Sl)]) Sl.v w9 fun r30 w10 =>
              J13 r30 w10
              )
            )
        )
        fun l14 w3 =>
        next11 (l14, IntKind.i64.wrap (l11.2 + 1)) w3
        )
        (
        lp (fun (next31 : (Sl × Sl × Int) → World → Prop) l31 w11 =>
          cnd (decide (l31.2.2 < (p0.len : Int)))
            (
            jn (fun (J33 : (Sl × Sl) → World → Prop) =>
              ix p0 l31.2.2 3 fun p35 =>
              ld (Value.int .i64) (p35.add 0) w11 fun x36 =>
              ld (Value.int .i64) (p35.add 1) w11 fun x37 =>
              ld Value.bool (p35.add 2) w11 fun x38 =>
              nw 56 #[(Value.int .i64 0), (Value.int .i64 0), (Value.bool false)] w11 fun b39 w13 =>
              st (Addr.mk b39 0 none) [(Value.int .i64 x36), (Value.int .i64 x37), (Value.bool x38)] w13 fun w14 =>
              ld Value.bool ((Addr.mk b39 0 none).add 2) w14 fun x41 =>
              cnd (!x41)
                (
                J33 (l31.1, l31.2.1) w14
                )
                (
                ld (Value.int .i64) ((Addr.mk b39 0 none).add 1) w14 fun x43 =>
                ld (Value.int .i64) ((Addr.mk b39 0 none).add 0) w14 fun x44 =>
                callC Tryz.prog 34 #[(Sl.v p0), (Sl.v l31.1), (Value.int .i64 x43), (Value.int .i64 x44)] (fun (r : Sl × Bool) => (Value.tuple #[(Sl.v r.1), (Value.bool r.2)])) w14 fun r45 w15 =>
                cnd (r45.2)
                  (
                  nw 3 #[(Value.int .i64 l31.2.2)] w15 fun b47 w16 =>
                  rn Tryz.prog (Builtin.append_ #[39, 39] 39 #[Sl.v l31.2.1, Sl.v (⟨some ⟨b47, 0, none⟩, 1, 1⟩ : Sl)]) Sl.v w16 fun r48 w17 =>
                  J33 (l31.1, r48) w17
                  )
                  (
                  nw 3 #[(Value.int .i64 l31.2.2)] w15 fun b49 w18 =>
                  rn Tryz.prog (Builtin.append_ #[39, 39] 39 #[Sl.v l31.1, Sl.v (⟨some ⟨b49, 0, none⟩, 1, 1⟩ : Sl)]) Sl.v w18 fun r50 w19 =>
                  J33 (r50, l31.2.1) w19
                  )
                )
            )
            fun l34 w12 =>
            next31 (l34.1, l34.2, IntKind.i64.wrap (l31.2.2 + 1)) w12
            )
            (
            callC Tryz.prog 35 #[(Sl.v p0), (Sl.v l31.1), (Value.int .i64 p1)] (fun (r : Sl) => (Sl.v r)) w11 fun r51 w20 =>
            K (l31.2.1, r51, 0) w20
            )
        ) (l11.1, Sl.nil, 0) w2
        )
    ) (Sl.nil, 0) w1
    )
set_option maxRecDepth 100000 in
theorem D15 (p0 : Sl) (p1 : Int) (w0 : World) (K : (Sl × Sl × Int) → World → Prop) (h : F15 p0 p1 w0 K) : callC Tryz.prog 15 #[(Sl.v p0), (Value.int .i64 p1)] (fun (r : Sl × Sl × Int) => (Value.tuple #[(Sl.v r.1), (Sl.v r.2.1), (Value.int .i64 r.2.2)])) w0 K := by
  unfold F15 at h
  refine calls_of_wpC Tryz.func15 rfl 85 rfl (by simp) ?_
  intro ρ hρ
  have e0 : ρ 0 = (Sl.v p0) := hρ 0
  have e1 : ρ 1 = (Value.int .i64 p1) := hρ 1
  clear hρ
  refine wpC_seq ?_
  refine wpC_region ?_
  refine rv (Sl.v Sl.nil) w0 rfl rfl rfl (x_assign rfl rfl) ?_
  refine rv (Sl.v Sl.nil) w0 rfl rfl rfl (x_assign rfl rfl) ?_
  refine rv (Value.int .i64 0) w0 rfl rfl rfl (x_assign rfl rfl) ?_
  refine wpR_nil ?_
  refine wpC_seq ?_
  refine wpC_seq ?_
  refine wpC_cut (fun ρ => ρ 0 = (Sl.v p0) ∧ ρ 1 = (Value.int .i64 p1) ∧ True) ⟨e0, e1, trivial⟩ ?_
  rintro ρ ⟨e0, e1, -⟩
  refine wpC_region ?_
  refine rv (Sl.v p0) w0 rfl rfl rfl (x_move rfl e0) ?_
  refine rv (Value.int .i64 p1) w0 rfl rfl rfl (x_move rfl e1) ?_
  refine wpR_enter rfl rfl rfl (x_call (vs := [(Sl.v p0), (Value.int .i64 p1)]) rfl rfl (mapl_cons rfl (mapl_cons rfl mapl_nil)) Tryz.func33 NN_33 NB_33) (Calls.mono h ?_)
  rintro _ w1 ⟨r9, rfl, h⟩
  refine ⟨_, rfl, ?_⟩
  refine rv (Value.bool (!r9)) w1 rfl rfl rfl (x_not rfl rfl) ?_
  refine wpR_nil ?_
  refine wpC_cond (b := !r9) rfl (fun hc10 => ?_) (fun hc10 => ?_)
  · replace h := h.1 hc10
    refine wpC_seq ?_
    refine wpC_cut (fun ρ => True) trivial ?_
    rintro ρ -
    refine wpC_region ?_
    refine rv (Sl.v Sl.nil) w1 rfl rfl rfl (x_assign rfl rfl) ?_
    refine rv (Sl.v Sl.nil) w1 rfl rfl rfl (x_assign rfl rfl) ?_
    refine rv (Value.int .i64 1) w1 rfl rfl rfl (x_assign rfl rfl) ?_
    refine wpR_nil ?_
    refine wpC_ret ?_
    exact ⟨.inl rfl, fun a ha => ⟨_, results_rep3 rfl ha rfl rfl rfl, (Sl.nil, Sl.nil, 1), rfl, h⟩⟩
  · replace h := h.2 hc10
    refine wpC_skip ?_
    refine wpC_seq ?_
    refine wpC_cut (fun ρ => ρ 0 = (Sl.v p0) ∧ ρ 1 = (Value.int .i64 p1) ∧ True) ⟨e0, e1, trivial⟩ ?_
    rintro ρ ⟨e0, e1, -⟩
    refine wpC_region ?_
    refine rv (Sl.v Sl.nil) w1 rfl rfl rfl (x_assign rfl rfl) ?_
    refine rv (Sl.v Sl.nil) w1 rfl rfl rfl (x_assign rfl rfl) ?_
    refine wpR_nil ?_
    refine wpC_seq ?_
    refine wpC_seq ?_
    refine wpC_cut (fun ρ => ρ 0 = (Sl.v p0) ∧ ρ 1 = (Value.int .i64 p1) ∧ ρ 7 = (Sl.v Sl.nil) ∧ ρ 8 = (Sl.v Sl.nil) ∧ True) ⟨e0, e1, rfl, rfl, trivial⟩ ?_
    rintro ρ ⟨e0, e1, e7, e8, -⟩
    refine wpC_region ?_
    refine rv (Sl.v p0) w1 rfl rfl rfl (x_move rfl e0) ?_
    refine rv (Value.int .i64 (p0.len : Int)) w1 rfl rfl rfl (x_lenS (s := p0) rfl rfl isSliceT_47) ?_
    refine rv (Value.int .i64 0) w1 rfl rfl rfl (x_move rfl rfl) ?_
    refine wpR_nil ?_
    refine wpC_block ?_
    obtain ⟨I11, μ11, hI11, hr11⟩ := h
    refine wpC_loop (fun (x : Sl × Int) ρ => ρ 7 = (Sl.v x.1) ∧ ρ 23 = (Value.int .i64 x.2) ∧ ρ 0 = (Sl.v p0) ∧ ρ 1 = (Value.int .i64 p1) ∧ ρ 8 = (Sl.v Sl.nil) ∧ ρ 21 = (Sl.v p0) ∧ ρ 22 = (Value.int .i64 (p0.len : Int)) ∧ True) I11 μ11 (Sl.nil, 0) ⟨e7, rfl, e0, e1, e8, rfl, rfl, trivial⟩ hI11 ?_
    rintro l11 ρ w2 ⟨e7, e23, e0, e1, e8, e21, e22, -⟩ h
    replace h := hr11 l11 w2 h
    clear hr11 hI11
    refine wpC_seq ?_
    refine wpC_region ?_
    refine rv (Value.bool (decide (l11.2 < (p0.len : Int)))) w2 rfl rfl rfl (x_lss rfl e23 e22) ?_
    refine wpR_nil ?_
    refine wpC_seq ?_
    refine wpC_cond (b := decide (l11.2 < (p0.len : Int))) rfl (fun hc12 => ?_) (fun hc12 => ?_)
    · replace h := h.1 hc12
      refine wpC_skip ?_
      obtain ⟨J13, h, hk⟩ := h
      refine wpC_seqJ (fun (x : Sl) ρ => ρ 7 = (Sl.v x) ∧ ρ 0 = (Sl.v p0) ∧ ρ 1 = (Value.int .i64 p1) ∧ ρ 8 = (Sl.v Sl.nil) ∧ ρ 21 = (Sl.v p0) ∧ ρ 22 = (Value.int .i64 (p0.len : Int)) ∧ ρ 23 = (Value.int .i64 l11.2) ∧ True) J13 ?_ ?_
      · clear hk
        refine wpC_block ?_
        refine wpC_seq ?_
        refine wpC_cut (fun ρ => ρ 0 = (Sl.v p0) ∧ ρ 1 = (Value.int .i64 p1) ∧ ρ 7 = (Sl.v l11.1) ∧ ρ 8 = (Sl.v Sl.nil) ∧ ρ 21 = (Sl.v p0) ∧ ρ 22 = (Value.int .i64 (p0.len : Int)) ∧ ρ 23 = (Value.int .i64 l11.2) ∧ True) ⟨e0, e1, e7, e8, e21, e22, e23, trivial⟩ ?_
        rintro ρ ⟨e0, e1, e7, e8, e21, e22, e23, -⟩
        refine wpC_region ?_
        refine rv (Value.int .i64 l11.2) w2 rfl rfl rfl (x_move rfl e23) ?_
        obtain ⟨q15, z15, r15, h⟩ := h
        generalize hp15 : z15.add ((l11.2 : Int).toNat * 3) = p15 at h
        refine rv (Value.pointer (some p15)) w2 rfl rfl rfl ((x_indexAddr (s := p0) rfl e21 e23 ES_47 q15 r15).trans (by rw [hp15])) ?_
        obtain ⟨x16, q16, x17, q17, x18, q18, h⟩ := h
        refine rv (Value.agg #[(Value.int .i64 x16), (Value.int .i64 x17), (Value.bool x18)]) w2 rfl rfl rfl (x_loadN [(Value.int .i64 x16), (Value.int .i64 x17), (Value.bool x18)] rfl rfl SH_56 (CellsAt.out (CellsAt.cons q16 (CellsAt.cons q17 (CellsAt.cons q18 CellsAt.nil))))) ?_
        obtain ⟨b19, hb19⟩ : ∃ u, u = w2.heap.size := ⟨_, rfl⟩
        obtain ⟨w4, hw19⟩ : ∃ u, u = w2.alloc (.cells #[(Value.int .i64 0), (Value.int .i64 0), (Value.bool false)] 56) := ⟨_, rfl⟩
        replace h := h b19 w4 hb19 hw19
        refine rv (Value.pointer (some (Addr.mk b19 0 none))) w4 rfl rfl rfl ((x_alloc rfl ZV_56).trans (by rw [hb19, hw19]; rfl)) ?_
        refine rv (Value.int .i64 l11.2) w4 rfl rfl rfl (x_assign rfl rfl) ?_
        obtain ⟨q20, h⟩ := h
        obtain ⟨w5, hw20⟩ : ∃ u, u = setAll w4 (Addr.mk b19 0 none) [(Value.int .i64 x16), (Value.int .i64 x17), (Value.bool x18)] 0 := ⟨_, rfl⟩
        replace h := h w5 hw20
        refine wpR_skp (w' := w5) rfl rfl ((x_store (v := (Value.agg #[(Value.int .i64 x16), (Value.int .i64 x17), (Value.bool x18)])) rfl rfl rfl SZ_56 (ones (by rfl)) q20).trans (by rw [hw20]; rfl)) ?_
        refine wpR_nil ?_
        refine wpC_seq ?_
        refine wpC_seq ?_
        refine wpC_cut (fun ρ => ρ 0 = (Sl.v p0) ∧ ρ 1 = (Value.int .i64 p1) ∧ ρ 7 = (Sl.v l11.1) ∧ ρ 8 = (Sl.v Sl.nil) ∧ ρ 9 = (Value.int .i64 l11.2) ∧ ρ 10 = (Value.pointer (some (Addr.mk b19 0 none))) ∧ ρ 21 = (Sl.v p0) ∧ ρ 22 = (Value.int .i64 (p0.len : Int)) ∧ ρ 23 = (Value.int .i64 l11.2) ∧ True) ⟨e0, e1, e7, e8, rfl, rfl, e21, e22, e23, trivial⟩ ?_
        rintro ρ ⟨e0, e1, e7, e8, e9, e10, e21, e22, e23, -⟩
        refine wpC_region ?_
        refine rv (Value.pointer (some ((Addr.mk b19 0 none).add 2))) w5 rfl rfl rfl (x_fieldAddr rfl e10 FA_56_2) ?_
        obtain ⟨x21, q21, h⟩ := h
        refine rv (Value.bool x21) w5 rfl rfl rfl (x_load1 rfl rfl SH_4 q21) ?_
        refine wpR_nil ?_
        refine wpC_cond (b := x21) rfl (fun hc22 => ?_) (fun hc22 => ?_)
        · replace h := h.1 hc22
          refine wpC_exit ?_
          exact ⟨l11.1, ⟨e7, e0, e1, e8, e21, e22, e23, trivial⟩, h⟩
        · replace h := h.2 hc22
          refine wpC_skip ?_
          refine wpC_seq ?_
          refine wpC_seq ?_
          refine wpC_cut (fun ρ => ρ 0 = (Sl.v p0) ∧ ρ 1 = (Value.int .i64 p1) ∧ ρ 7 = (Sl.v l11.1) ∧ ρ 8 = (Sl.v Sl.nil) ∧ ρ 9 = (Value.int .i64 l11.2) ∧ ρ 10 = (Value.pointer (some (Addr.mk b19 0 none))) ∧ ρ 21 = (Sl.v p0) ∧ ρ 22 = (Value.int .i64 (p0.len : Int)) ∧ ρ 23 = (Value.int .i64 l11.2) ∧ True) ⟨e0, e1, e7, e8, e9, e10, e21, e22, e23, trivial⟩ ?_
          rintro ρ ⟨e0, e1, e7, e8, e9, e10, e21, e22, e23, -⟩
          refine wpC_region ?_
          refine rv (Sl.v p0) w5 rfl rfl rfl (x_move rfl e0) ?_
          refine rv (Sl.v l11.1) w5 rfl rfl rfl (x_move rfl e7) ?_
          refine rv (Value.pointer (some ((Addr.mk b19 0 none).add 1))) w5 rfl rfl rfl (x_fieldAddr rfl e10 FA_56_1) ?_
          obtain ⟨x23, q23, h⟩ := h
          refine rv (Value.int .i64 x23) w5 rfl rfl rfl (x_load1 rfl rfl SH_3 q23) ?_
          refine rv (Value.pointer (some ((Addr.mk b19 0 none).add 0))) w5 rfl rfl rfl (x_fieldAddr rfl e10 FA_56_0) ?_
          obtain ⟨x24, q24, h⟩ := h
          refine rv (Value.int .i64 x24) w5 rfl rfl rfl (x_load1 rfl rfl SH_3 q24) ?_
          refine wpR_enter rfl rfl rfl (x_call (vs := [(Sl.v p0), (Sl.v l11.1), (Value.int .i64 x23), (Value.int .i64 x24)]) rfl rfl (mapl_cons rfl (mapl_cons rfl (mapl_cons rfl (mapl_cons rfl mapl_nil)))) Tryz.func34 NN_34 NB_34) (Calls.mono h ?_)
          rintro _ w6 ⟨r25, rfl, h⟩
          refine ⟨_, rfl, ?_⟩
          refine rv (Value.tuple #[(Sl.v r25.1), (Value.bool r25.2)]) w6 rfl rfl rfl (x_move rfl rfl) ?_
          refine rv (Sl.v r25.1) w6 rfl rfl rfl (x_extract rfl rfl rfl) ?_
          refine rv (Value.bool r25.2) w6 rfl rfl rfl (x_extract rfl rfl rfl) ?_
          refine rv (Sl.v r25.1) w6 rfl rfl rfl (x_assign rfl rfl) ?_
          refine rv (Value.bool r25.2) w6 rfl rfl rfl (x_assign rfl rfl) ?_
          refine wpR_nil ?_
          refine wpC_seq ?_
          refine wpC_cut (fun ρ => ρ 0 = (Sl.v p0) ∧ ρ 1 = (Value.int .i64 p1) ∧ ρ 7 = (Sl.v l11.1) ∧ ρ 8 = (Sl.v Sl.nil) ∧ ρ 9 = (Value.int .i64 l11.2) ∧ ρ 11 = (Sl.v r25.1) ∧ ρ 12 = (Value.bool r25.2) ∧ ρ 21 = (Sl.v p0) ∧ ρ 22 = (Value.int .i64 (p0.len : Int)) ∧ ρ 23 = (Value.int .i64 l11.2) ∧ True) ⟨e0, e1, e7, e8, e9, rfl, rfl, e21, e22, e23, trivial⟩ ?_
          rintro ρ ⟨e0, e1, e7, e8, e9, e11, e12, e21, e22, e23, -⟩
          refine wpC_region ?_
          refine rv (Value.bool r25.2) w6 rfl rfl rfl (x_move rfl e12) ?_
          refine wpR_nil ?_
          refine wpC_cond (b := r25.2) rfl (fun hc26 => ?_) (fun hc26 => ?_)
          · replace h := h.1 hc26
            refine wpC_seq ?_
            refine wpC_cut (fun ρ => ρ 9 = (Value.int .i64 l11.2) ∧ ρ 11 = (Sl.v r25.1) ∧ True) ⟨e9, e11, trivial⟩ ?_
            rintro ρ ⟨e9, e11, -⟩
            refine wpC_region ?_
            refine rv (Sl.v r25.1) w6 rfl rfl rfl (x_move rfl e11) ?_
            refine rv (Value.int .i64 l11.2) w6 rfl rfl rfl (x_move rfl e9) ?_
            obtain ⟨b27, hb27⟩ : ∃ u, u = w6.heap.size := ⟨_, rfl⟩
            obtain ⟨w7, hw27⟩ : ∃ u, u = w6.alloc (.cells #[(Value.int .i64 l11.2)] 3) := ⟨_, rfl⟩
            replace h := h b27 w7 hb27 hw27
            refine rv (Sl.v (⟨some ⟨b27, 0, none⟩, 1, 1⟩ : Sl)) w7 rfl rfl rfl ((x_buildSlice (qs := [(0, (Value.int .i64 l11.2))]) rfl (by rfl) (BS_39_1_0 l11.2)).trans (by rw [← hb27, ← hw27])) ?_
            obtain ⟨r28, w8, q28, h⟩ := h
            refine rv (Sl.v r28) w8 rfl rfl rfl (x_append (s := r25.1) (u := (⟨some ⟨b27, 0, none⟩, 1, 1⟩ : Sl)) rfl rfl rfl rfl q28) ?_
            refine rv (Sl.v r28) w8 rfl rfl rfl (x_assign rfl rfl) ?_
            refine rv (Sl.v Sl.nil) w8 rfl rfl rfl (x_assign rfl rfl) ?_
            refine rv (Value.int .i64 19) w8 rfl rfl rfl (x_assign rfl rfl) ?_
            refine wpR_nil ?_
            refine wpC_ret ?_
            exact ⟨.inl rfl, fun a ha => ⟨_, results_rep3 rfl ha rfl rfl rfl, (r28, Sl.nil, 19), rfl, h⟩⟩
          · replace h := h.2 hc26
            refine wpC_skip ?_
            refine wpC_cut (fun ρ => ρ 0 = (Sl.v p0) ∧ ρ 1 = (Value.int .i64 p1) ∧ ρ 7 = (Sl.v l11.1) ∧ ρ 8 = (Sl.v Sl.nil) ∧ ρ 9 = (Value.int .i64 l11.2) ∧ ρ 21 = (Sl.v p0) ∧ ρ 22 = (Value.int .i64 (p0.len : Int)) ∧ ρ 23 = (Value.int .i64 l11.2) ∧ True) ⟨e0, e1, e7, e8, e9, e21, e22, e23, trivial⟩ ?_
            rintro ρ ⟨e0, e1, e7, e8, e9, e21, e22, e23, -⟩
            refine wpC_region ?_
            refine rv (Sl.v l11.1) w6 rfl rfl rfl (x_move rfl e7) ?_
            refine rv (Value.int .i64 l11.2) w6 rfl rfl rfl (x_move rfl e9) ?_
            obtain ⟨b29, hb29⟩ : ∃ u, u = w6.heap.size := ⟨_, rfl⟩
            obtain ⟨w9, hw29⟩ : ∃ u, u = w6.alloc (.cells #[(Value.int .i64 l11.2)] 3) := ⟨_, rfl⟩
            replace h := h b29 w9 hb29 hw29
            refine rv (Sl.v (⟨some ⟨b29, 0, none⟩, 1, 1⟩ : Sl)) w9 rfl rfl rfl ((x_buildSlice (qs := [(0, (Value.int .i64 l11.2))]) rfl (by rfl) (BS_39_1_0 l11.2)).trans (by rw [← hb29, ← hw29])) ?_
            obtain ⟨r30, w10, q30, h⟩ := h
            refine rv (Sl.v r30) w10 rfl rfl rfl (x_append (s := l11.1) (u := (⟨some ⟨b29, 0, none⟩, 1, 1⟩ : Sl)) rfl rfl rfl rfl q30) ?_
            refine rv (Sl.v r30) w10 rfl rfl rfl (x_assign rfl rfl) ?_
            refine wpR_nil ?_
            exact ⟨r30, ⟨rfl, e0, e1, e8, e21, e22, e23, trivial⟩, h⟩
      clear h
      rintro l14 ρ w3 ⟨e7, e0, e1, e8, e21, e22, e23, -⟩ h
      replace h := hk l14 w3 h
      clear hk
      refine wpC_region ?_
      refine rv (Value.int .i64 (IntKind.i64.wrap (l11.2 + 1))) w3 rfl rfl rfl (x_add rfl e23 rfl) ?_
      refine rv (Value.int .i64 (IntKind.i64.wrap (l11.2 + 1))) w3 rfl rfl rfl (x_move rfl rfl) ?_
      refine wpR_nil ?_
      exact ⟨(l14, IntKind.i64.wrap (l11.2 + 1)), ⟨e7, rfl, e0, e1, e8, e21, e22, trivial⟩, h⟩
    · replace h := h.2 hc12
      refine wpC_exit ?_
      refine wpC_seq ?_
      refine wpC_seq ?_
      refine wpC_cut (fun ρ => ρ 0 = (Sl.v p0) ∧ ρ 1 = (Value.int .i64 p1) ∧ ρ 7 = (Sl.v l11.1) ∧ ρ 8 = (Sl.v Sl.nil) ∧ True) ⟨e0, e1, e7, e8, trivial⟩ ?_
      rintro ρ ⟨e0, e1, e7, e8, -⟩
      refine wpC_region ?_
      refine rv (Sl.v p0) w2 rfl rfl rfl (x_move rfl e0) ?_
      refine rv (Value.int .i64 (p0.len : Int)) w2 rfl rfl rfl (x_lenS (s := p0) rfl rfl isSliceT_47) ?_
      refine rv (Value.int .i64 0) w2 rfl rfl rfl (x_move rfl rfl) ?_
      refine wpR_nil ?_
      refine wpC_block ?_
      obtain ⟨I31, μ31, hI31, hr31⟩ := h
      refine wpC_loop (fun (x : Sl × Sl × Int) ρ => ρ 7 = (Sl.v x.1) ∧ ρ 8 = (Sl.v x.2.1) ∧ ρ 52 = (Value.int .i64 x.2.2) ∧ ρ 0 = (Sl.v p0) ∧ ρ 1 = (Value.int .i64 p1) ∧ ρ 50 = (Sl.v p0) ∧ ρ 51 = (Value.int .i64 (p0.len : Int)) ∧ True) I31 μ31 (l11.1, Sl.nil, 0) ⟨e7, e8, rfl, e0, e1, rfl, rfl, trivial⟩ hI31 ?_
      rintro l31 ρ w11 ⟨e7, e8, e52, e0, e1, e50, e51, -⟩ h
      replace h := hr31 l31 w11 h
      clear hr31 hI31
      refine wpC_seq ?_
      refine wpC_region ?_
      refine rv (Value.bool (decide (l31.2.2 < (p0.len : Int)))) w11 rfl rfl rfl (x_lss rfl e52 e51) ?_
      refine wpR_nil ?_
      refine wpC_seq ?_
      refine wpC_cond (b := decide (l31.2.2 < (p0.len : Int))) rfl (fun hc32 => ?_) (fun hc32 => ?_)
      · replace h := h.1 hc32
        refine wpC_skip ?_
        obtain ⟨J33, h, hk⟩ := h
        refine wpC_seqJ (fun (x : Sl × Sl) ρ => ρ 7 = (Sl.v x.1) ∧ ρ 8 = (Sl.v x.2) ∧ ρ 0 = (Sl.v p0) ∧ ρ 1 = (Value.int .i64 p1) ∧ ρ 50 = (Sl.v p0) ∧ ρ 51 = (Value.int .i64 (p0.len : Int)) ∧ ρ 52 = (Value.int .i64 l31.2.2) ∧ True) J33 ?_ ?_
        · clear hk
          refine wpC_block ?_
          refine wpC_seq ?_
          refine wpC_cut (fun ρ => ρ 0 = (Sl.v p0) ∧ ρ 1 = (Value.int .i64 p1) ∧ ρ 7 = (Sl.v l31.1) ∧ ρ 8 = (Sl.v l31.2.1) ∧ ρ 50 = (Sl.v p0) ∧ ρ 51 = (Value.int .i64 (p0.len : Int)) ∧ ρ 52 = (Value.int .i64 l31.2.2) ∧ True) ⟨e0, e1, e7, e8, e50, e51, e52, trivial⟩ ?_
          rintro ρ ⟨e0, e1, e7, e8, e50, e51, e52, -⟩
          refine wpC_region ?_
          refine rv (Value.int .i64 l31.2.2) w11 rfl rfl rfl (x_move rfl e52) ?_
          obtain ⟨q35, z35, r35, h⟩ := h
          generalize hp35 : z35.add ((l31.2.2 : Int).toNat * 3) = p35 at h
          refine rv (Value.pointer (some p35)) w11 rfl rfl rfl ((x_indexAddr (s := p0) rfl e50 e52 ES_47 q35 r35).trans (by rw [hp35])) ?_
          obtain ⟨x36, q36, x37, q37, x38, q38, h⟩ := h
          refine rv (Value.agg #[(Value.int .i64 x36), (Value.int .i64 x37), (Value.bool x38)]) w11 rfl rfl rfl (x_loadN [(Value.int .i64 x36), (Value.int .i64 x37), (Value.bool x38)] rfl rfl SH_56 (CellsAt.out (CellsAt.cons q36 (CellsAt.cons q37 (CellsAt.cons q38 CellsAt.nil))))) ?_
          obtain ⟨b39, hb39⟩ : ∃ u, u = w11.heap.size := ⟨_, rfl⟩
          obtain ⟨w13, hw39⟩ : ∃ u, u = w11.alloc (.cells #[(Value.int .i64 0), (Value.int .i64 0), (Value.bool false)] 56) := ⟨_, rfl⟩
          replace h := h b39 w13 hb39 hw39
          refine rv (Value.pointer (some (Addr.mk b39 0 none))) w13 rfl rfl rfl ((x_alloc rfl ZV_56).trans (by rw [hb39, hw39]; rfl)) ?_
          refine rv (Value.int .i64 l31.2.2) w13 rfl rfl rfl (x_assign rfl rfl) ?_
          obtain ⟨q40, h⟩ := h
          obtain ⟨w14, hw40⟩ : ∃ u, u = setAll w13 (Addr.mk b39 0 none) [(Value.int .i64 x36), (Value.int .i64 x37), (Value.bool x38)] 0 := ⟨_, rfl⟩
          replace h := h w14 hw40
          refine wpR_skp (w' := w14) rfl rfl ((x_store (v := (Value.agg #[(Value.int .i64 x36), (Value.int .i64 x37), (Value.bool x38)])) rfl rfl rfl SZ_56 (ones (by rfl)) q40).trans (by rw [hw40]; rfl)) ?_
          refine wpR_nil ?_
          refine wpC_seq ?_
          refine wpC_seq ?_
          refine wpC_cut (fun ρ => ρ 0 = (Sl.v p0) ∧ ρ 1 = (Value.int .i64 p1) ∧ ρ 7 = (Sl.v l31.1) ∧ ρ 8 = (Sl.v l31.2.1) ∧ ρ 13 = (Value.int .i64 l31.2.2) ∧ ρ 14 = (Value.pointer (some (Addr.mk b39 0 none))) ∧ ρ 50 = (Sl.v p0) ∧ ρ 51 = (Value.int .i64 (p0.len : Int)) ∧ ρ 52 = (Value.int .i64 l31.2.2) ∧ True) ⟨e0, e1, e7, e8, rfl, rfl, e50, e51, e52, trivial⟩ ?_
          rintro ρ ⟨e0, e1, e7, e8, e13, e14, e50, e51, e52, -⟩
          refine wpC_region ?_
          refine rv (Value.pointer (some ((Addr.mk b39 0 none).add 2))) w14 rfl rfl rfl (x_fieldAddr rfl e14 FA_56_2) ?_
          obtain ⟨x41, q41, h⟩ := h
          refine rv (Value.bool x41) w14 rfl rfl rfl (x_load1 rfl rfl SH_4 q41) ?_
          refine rv (Value.bool (!x41)) w14 rfl rfl rfl (x_not rfl rfl) ?_
          refine wpR_nil ?_
          refine wpC_cond (b := !x41) rfl (fun hc42 => ?_) (fun hc42 => ?_)
          · replace h := h.1 hc42
            refine wpC_exit ?_
            exact ⟨(l31.1, l31.2.1), ⟨e7, e8, e0, e1, e50, e51, e52, trivial⟩, h⟩
          · replace h := h.2 hc42
            refine wpC_skip ?_
            refine wpC_seq ?_
            refine wpC_cut (fun ρ => ρ 0 = (Sl.v p0) ∧ ρ 1 = (Value.int .i64 p1) ∧ ρ 7 = (Sl.v l31.1) ∧ ρ 8 = (Sl.v l31.2.1) ∧ ρ 13 = (Value.int .i64 l31.2.2) ∧ ρ 14 = (Value.pointer (some (Addr.mk b39 0 none))) ∧ ρ 50 = (Sl.v p0) ∧ ρ 51 = (Value.int .i64 (p0.len : Int)) ∧ ρ 52 = (Value.int .i64 l31.2.2) ∧ True) ⟨e0, e1, e7, e8, e13, e14, e50, e51, e52, trivial⟩ ?_
            rintro ρ ⟨e0, e1, e7, e8, e13, e14, e50, e51, e52, -⟩
            refine wpC_region ?_
            refine rv (Sl.v p0) w14 rfl rfl rfl (x_move rfl e0) ?_
            refine rv (Sl.v l31.1) w14 rfl rfl rfl (x_move rfl e7) ?_
            refine rv (Value.pointer (some ((Addr.mk b39 0 none).add 1))) w14 rfl rfl rfl (x_fieldAddr rfl e14 FA_56_1) ?_
            obtain ⟨x43, q43, h⟩ := h
            refine rv (Value.int .i64 x43) w14 rfl rfl rfl (x_load1 rfl rfl SH_3 q43) ?_
            refine rv (Value.pointer (some ((Addr.mk b39 0 none).add 0))) w14 rfl rfl rfl (x_fieldAddr rfl e14 FA_56_0) ?_
            obtain ⟨x44, q44, h⟩ := h
            refine rv (Value.int .i64 x44) w14 rfl rfl rfl (x_load1 rfl rfl SH_3 q44) ?_
            refine wpR_enter rfl rfl rfl (x_call (vs := [(Sl.v p0), (Sl.v l31.1), (Value.int .i64 x43), (Value.int .i64 x44)]) rfl rfl (mapl_cons rfl (mapl_cons rfl (mapl_cons rfl (mapl_cons rfl mapl_nil)))) Tryz.func34 NN_34 NB_34) (Calls.mono h ?_)
            rintro _ w15 ⟨r45, rfl, h⟩
            refine ⟨_, rfl, ?_⟩
            refine rv (Value.tuple #[(Sl.v r45.1), (Value.bool r45.2)]) w15 rfl rfl rfl (x_move rfl rfl) ?_
            refine rv (Sl.v r45.1) w15 rfl rfl rfl (x_extract rfl rfl rfl) ?_
            refine rv (Value.bool r45.2) w15 rfl rfl rfl (x_extract rfl rfl rfl) ?_
            refine rv (Sl.v r45.1) w15 rfl rfl rfl (x_assign rfl rfl) ?_
            refine rv (Value.bool r45.2) w15 rfl rfl rfl (x_assign rfl rfl) ?_
            refine wpR_nil ?_
            refine wpC_seq ?_
            refine wpC_cut (fun ρ => ρ 0 = (Sl.v p0) ∧ ρ 1 = (Value.int .i64 p1) ∧ ρ 7 = (Sl.v l31.1) ∧ ρ 8 = (Sl.v l31.2.1) ∧ ρ 13 = (Value.int .i64 l31.2.2) ∧ ρ 16 = (Value.bool r45.2) ∧ ρ 50 = (Sl.v p0) ∧ ρ 51 = (Value.int .i64 (p0.len : Int)) ∧ ρ 52 = (Value.int .i64 l31.2.2) ∧ True) ⟨e0, e1, e7, e8, e13, rfl, e50, e51, e52, trivial⟩ ?_
            rintro ρ ⟨e0, e1, e7, e8, e13, e16, e50, e51, e52, -⟩
            refine wpC_region ?_
            refine rv (Value.bool r45.2) w15 rfl rfl rfl (x_move rfl e16) ?_
            refine wpR_nil ?_
            refine wpC_cond (b := r45.2) rfl (fun hc46 => ?_) (fun hc46 => ?_)
            · replace h := h.1 hc46
              refine wpC_cut (fun ρ => ρ 0 = (Sl.v p0) ∧ ρ 1 = (Value.int .i64 p1) ∧ ρ 7 = (Sl.v l31.1) ∧ ρ 8 = (Sl.v l31.2.1) ∧ ρ 13 = (Value.int .i64 l31.2.2) ∧ ρ 50 = (Sl.v p0) ∧ ρ 51 = (Value.int .i64 (p0.len : Int)) ∧ ρ 52 = (Value.int .i64 l31.2.2) ∧ True) ⟨e0, e1, e7, e8, e13, e50, e51, e52, trivial⟩ ?_
              rintro ρ ⟨e0, e1, e7, e8, e13, e50, e51, e52, -⟩
              refine wpC_region ?_
              refine rv (Sl.v l31.2.1) w15 rfl rfl rfl (x_move rfl e8) ?_
              refine rv (Value.int .i64 l31.2.2) w15 rfl rfl rfl (x_move rfl e13) ?_
              obtain ⟨b47, hb47⟩ : ∃ u, u = w15.heap.size := ⟨_, rfl⟩
              obtain ⟨w16, hw47⟩ : ∃ u, u = w15.alloc (.cells #[(Value.int .i64 l31.2.2)] 3) := ⟨_, rfl⟩
              replace h := h b47 w16 hb47 hw47
              refine rv (Sl.v (⟨some ⟨b47, 0, none⟩, 1, 1⟩ : Sl)) w16 rfl rfl rfl ((x_buildSlice (qs := [(0, (Value.int .i64 l31.2.2))]) rfl (by rfl) (BS_39_1_0 l31.2.2)).trans (by rw [← hb47, ← hw47])) ?_
              obtain ⟨r48, w17, q48, h⟩ := h
              refine rv (Sl.v r48) w17 rfl rfl rfl (x_append (s := l31.2.1) (u := (⟨some ⟨b47, 0, none⟩, 1, 1⟩ : Sl)) rfl rfl rfl rfl q48) ?_
              refine rv (Sl.v r48) w17 rfl rfl rfl (x_assign rfl rfl) ?_
              refine wpR_nil ?_
              exact ⟨(l31.1, r48), ⟨e7, rfl, e0, e1, e50, e51, e52, trivial⟩, h⟩
            · replace h := h.2 hc46
              refine wpC_cut (fun ρ => ρ 0 = (Sl.v p0) ∧ ρ 1 = (Value.int .i64 p1) ∧ ρ 7 = (Sl.v l31.1) ∧ ρ 8 = (Sl.v l31.2.1) ∧ ρ 13 = (Value.int .i64 l31.2.2) ∧ ρ 50 = (Sl.v p0) ∧ ρ 51 = (Value.int .i64 (p0.len : Int)) ∧ ρ 52 = (Value.int .i64 l31.2.2) ∧ True) ⟨e0, e1, e7, e8, e13, e50, e51, e52, trivial⟩ ?_
              rintro ρ ⟨e0, e1, e7, e8, e13, e50, e51, e52, -⟩
              refine wpC_region ?_
              refine rv (Sl.v l31.1) w15 rfl rfl rfl (x_move rfl e7) ?_
              refine rv (Value.int .i64 l31.2.2) w15 rfl rfl rfl (x_move rfl e13) ?_
              obtain ⟨b49, hb49⟩ : ∃ u, u = w15.heap.size := ⟨_, rfl⟩
              obtain ⟨w18, hw49⟩ : ∃ u, u = w15.alloc (.cells #[(Value.int .i64 l31.2.2)] 3) := ⟨_, rfl⟩
              replace h := h b49 w18 hb49 hw49
              refine rv (Sl.v (⟨some ⟨b49, 0, none⟩, 1, 1⟩ : Sl)) w18 rfl rfl rfl ((x_buildSlice (qs := [(0, (Value.int .i64 l31.2.2))]) rfl (by rfl) (BS_39_1_0 l31.2.2)).trans (by rw [← hb49, ← hw49])) ?_
              obtain ⟨r50, w19, q50, h⟩ := h
              refine rv (Sl.v r50) w19 rfl rfl rfl (x_append (s := l31.1) (u := (⟨some ⟨b49, 0, none⟩, 1, 1⟩ : Sl)) rfl rfl rfl rfl q50) ?_
              refine rv (Sl.v r50) w19 rfl rfl rfl (x_assign rfl rfl) ?_
              refine wpR_nil ?_
              exact ⟨(r50, l31.2.1), ⟨rfl, e8, e0, e1, e50, e51, e52, trivial⟩, h⟩
        clear h
        rintro l34 ρ w12 ⟨e7, e8, e0, e1, e50, e51, e52, -⟩ h
        replace h := hk l34 w12 h
        clear hk
        refine wpC_region ?_
        refine rv (Value.int .i64 (IntKind.i64.wrap (l31.2.2 + 1))) w12 rfl rfl rfl (x_add rfl e52 rfl) ?_
        refine rv (Value.int .i64 (IntKind.i64.wrap (l31.2.2 + 1))) w12 rfl rfl rfl (x_move rfl rfl) ?_
        refine wpR_nil ?_
        exact ⟨(l34.1, l34.2, IntKind.i64.wrap (l31.2.2 + 1)), ⟨e7, e8, rfl, e0, e1, e50, e51, trivial⟩, h⟩
      · replace h := h.2 hc32
        refine wpC_exit ?_
        refine wpC_seq ?_
        refine wpC_cut (fun ρ => ρ 0 = (Sl.v p0) ∧ ρ 1 = (Value.int .i64 p1) ∧ ρ 7 = (Sl.v l31.1) ∧ ρ 8 = (Sl.v l31.2.1) ∧ True) ⟨e0, e1, e7, e8, trivial⟩ ?_
        rintro ρ ⟨e0, e1, e7, e8, -⟩
        refine wpC_region ?_
        refine rv (Sl.v l31.2.1) w11 rfl rfl rfl (x_move rfl e8) ?_
        refine rv (Sl.v p0) w11 rfl rfl rfl (x_move rfl e0) ?_
        refine rv (Sl.v l31.1) w11 rfl rfl rfl (x_move rfl e7) ?_
        refine rv (Value.int .i64 p1) w11 rfl rfl rfl (x_move rfl e1) ?_
        refine wpR_enter rfl rfl rfl (x_call (vs := [(Sl.v p0), (Sl.v l31.1), (Value.int .i64 p1)]) rfl rfl (mapl_cons rfl (mapl_cons rfl (mapl_cons rfl mapl_nil))) Tryz.func35 NN_35 NB_35) (Calls.mono h ?_)
        rintro _ w20 ⟨r51, rfl, h⟩
        refine ⟨_, rfl, ?_⟩
        refine rv (Sl.v l31.2.1) w20 rfl rfl rfl (x_assign rfl rfl) ?_
        refine rv (Sl.v r51) w20 rfl rfl rfl (x_assign rfl rfl) ?_
        refine rv (Value.int .i64 0) w20 rfl rfl rfl (x_assign rfl rfl) ?_
        refine wpR_nil ?_
        refine wpC_ret ?_
        exact ⟨.inl rfl, fun a ha => ⟨_, results_rep3 rfl ha rfl rfl rfl, (l31.2.1, r51, 0), rfl, h⟩⟩

/-- echo.Match -/
def F17 (p0 : Sl) (p1_0 : Int) (p1_1 : Int) (p1_2 : Int) (p1_3 : Int) (p1_4 : Int) (p2 : Int) (w0 : World) (K : (Int × Bool) → World → Prop) : Prop :=
  nw 52 #[(Value.int .i64 p1_0), (Value.int .i64 p1_1), (Value.int .i64 p1_2), (Value.int .i64 p1_3), (Value.int .i64 p1_4)] w0 fun b9 w1 =>
  ld (Value.int .i64) ((Addr.mk b9 0 none).add 0) w1 fun x10 =>
  ld (Value.int .i64) ((Addr.mk b9 0 none).add 1) w1 fun x11 =>
  ld (Value.int .i64) ((Addr.mk b9 0 none).add 2) w1 fun x12 =>
  ld (Value.int .i64) ((Addr.mk b9 0 none).add 3) w1 fun x13 =>
  ld (Value.int .i64) ((Addr.mk b9 0 none).add 4) w1 fun x14 =>
  callC Tryz.prog 36 #[(Sl.v p0), (Value.agg #[(Value.int .i64 x10), (Value.int .i64 x11), (Value.int .i64 x12), (Value.int .i64 x13), (Value.int .i64 x14)]), (Value.int .i64 p2), (Value.func (.func 37) #[] #[])] (fun (r : Int) => (Value.int .i64 r)) w1 fun r15 w2 =>
  K (max r15 0, decide (0 ≤ r15)) w2
set_option maxRecDepth 100000 in
theorem D17 (p0 : Sl) (p1_0 : Int) (p1_1 : Int) (p1_2 : Int) (p1_3 : Int) (p1_4 : Int) (p2 : Int) (w0 : World) (K : (Int × Bool) → World → Prop) (h : F17 p0 p1_0 p1_1 p1_2 p1_3 p1_4 p2 w0 K) : callC Tryz.prog 17 #[(Sl.v p0), (Value.agg #[(Value.int .i64 p1_0), (Value.int .i64 p1_1), (Value.int .i64 p1_2), (Value.int .i64 p1_3), (Value.int .i64 p1_4)]), (Value.int .i64 p2)] (fun (r : Int × Bool) => (Value.tuple #[(Value.int .i64 r.1), (Value.bool r.2)])) w0 K := by
  unfold F17 at h
  refine calls_of_wpC Tryz.func17 rfl 17 rfl (by simp) ?_
  intro ρ hρ
  have e0 : ρ 0 = (Sl.v p0) := hρ 0
  have e1 : ρ 1 = (Value.agg #[(Value.int .i64 p1_0), (Value.int .i64 p1_1), (Value.int .i64 p1_2), (Value.int .i64 p1_3), (Value.int .i64 p1_4)]) := hρ 1
  have e2 : ρ 2 = (Value.int .i64 p2) := hρ 2
  clear hρ
  refine wpC_seq ?_
  refine wpC_region ?_
  obtain ⟨b9, hb9⟩ : ∃ u, u = w0.heap.size := ⟨_, rfl⟩
  obtain ⟨w1, hw9⟩ : ∃ u, u = w0.alloc (.cells #[(Value.int .i64 p1_0), (Value.int .i64 p1_1), (Value.int .i64 p1_2), (Value.int .i64 p1_3), (Value.int .i64 p1_4)] 52) := ⟨_, rfl⟩
  replace h := h b9 w1 hb9 hw9
  refine rv (Value.pointer (some (Addr.mk b9 0 none))) w1 rfl rfl rfl ((x_box (v := (Value.agg #[(Value.int .i64 p1_0), (Value.int .i64 p1_1), (Value.int .i64 p1_2), (Value.int .i64 p1_3), (Value.int .i64 p1_4)])) rfl e1).trans (by rw [hb9, hw9]; rfl)) ?_
  refine rv (Value.int .i64 0) w1 rfl rfl rfl (x_assign rfl rfl) ?_
  refine rv (Value.bool false) w1 rfl rfl rfl (x_assign rfl rfl) ?_
  refine wpR_nil ?_
  refine wpC_seq ?_
  refine wpC_cut (fun ρ => ρ 0 = (Sl.v p0) ∧ ρ 2 = (Value.int .i64 p2) ∧ ρ 4 = (Value.pointer (some (Addr.mk b9 0 none))) ∧ True) ⟨e0, e2, rfl, trivial⟩ ?_
  rintro ρ ⟨e0, e2, e4, -⟩
  refine wpC_region ?_
  refine rv (Sl.v p0) w1 rfl rfl rfl (x_move rfl e0) ?_
  obtain ⟨x10, q10, x11, q11, x12, q12, x13, q13, x14, q14, h⟩ := h
  refine rv (Value.agg #[(Value.int .i64 x10), (Value.int .i64 x11), (Value.int .i64 x12), (Value.int .i64 x13), (Value.int .i64 x14)]) w1 rfl rfl rfl (x_loadN [(Value.int .i64 x10), (Value.int .i64 x11), (Value.int .i64 x12), (Value.int .i64 x13), (Value.int .i64 x14)] rfl e4 SH_52 (CellsAt.out (CellsAt.cons q10 (CellsAt.cons q11 (CellsAt.cons q12 (CellsAt.cons q13 (CellsAt.cons q14 CellsAt.nil))))))) ?_
  refine rv (Value.int .i64 p2) w1 rfl rfl rfl (x_move rfl e2) ?_
  refine wpR_enter rfl rfl rfl (x_call (vs := [(Sl.v p0), (Value.agg #[(Value.int .i64 x10), (Value.int .i64 x11), (Value.int .i64 x12), (Value.int .i64 x13), (Value.int .i64 x14)]), (Value.int .i64 p2), (Value.func (.func 37) #[] #[])]) rfl rfl (mapl_cons rfl (mapl_cons rfl (mapl_cons rfl (mapl_cons rfl mapl_nil)))) Tryz.func36 NN_36 NB_36) (Calls.mono h ?_)
  rintro _ w2 ⟨r15, rfl, h⟩
  refine ⟨_, rfl, ?_⟩
  refine rv (Value.int .i64 r15) w2 rfl rfl rfl (x_assign rfl rfl) ?_
  refine wpR_nil ?_
  refine wpC_seq ?_
  refine wpC_cut (fun ρ => ρ 8 = (Value.int .i64 r15) ∧ True) ⟨rfl, trivial⟩ ?_
  rintro ρ ⟨e8, -⟩
  refine wpC_region ?_
  refine rv (Value.int .i64 r15) w2 rfl rfl rfl (x_move rfl e8) ?_
  refine rv (Value.int .i64 (max r15 0)) w2 rfl rfl rfl (x_max rfl rfl rfl) ?_
  refine rv (Value.int .i64 r15) w2 rfl rfl rfl (x_move rfl e8) ?_
  refine rv (Value.bool (decide (0 ≤ r15))) w2 rfl rfl rfl (x_geq rfl rfl rfl) ?_
  refine rv (Value.int .i64 (max r15 0)) w2 rfl rfl rfl (x_assign rfl rfl) ?_
  refine rv (Value.bool (decide (0 ≤ r15))) w2 rfl rfl rfl (x_assign rfl rfl) ?_
  refine wpR_nil ?_
  refine wpC_ret ?_
  exact ⟨.inl rfl, fun a ha => ⟨_, results_rep2 rfl ha rfl rfl, (max r15 0, decide (0 ≤ r15)), rfl, h⟩⟩

/-- event.Net -/
def F18 (p0 : Int) (w0 : World) (K : Int → World → Prop) : Prop :=
  callC Tryz.prog 38 #[(Value.int .i64 p0), (Value.int .i64 2000)] (fun (r : Bool) => (Value.bool r)) w0 fun r9 w1 =>
  cnd (!r9)
    (
    K (-1) w1
    )
    (
    K (p0.tmod 12) w1
    )
set_option maxRecDepth 100000 in
theorem D18 (p0 : Int) (w0 : World) (K : Int → World → Prop) (h : F18 p0 w0 K) : callC Tryz.prog 18 #[(Value.int .i64 p0)] (fun (r : Int) => (Value.int .i64 r)) w0 K := by
  unfold F18 at h
  refine calls_of_wpC Tryz.func18 rfl 8 rfl (by simp) ?_
  intro ρ hρ
  have e0 : ρ 0 = (Value.int .i64 p0) := hρ 0
  clear hρ
  refine wpC_seq ?_
  refine wpC_region ?_
  refine rv (Value.int .i64 0) w0 rfl rfl rfl (x_assign rfl rfl) ?_
  refine wpR_nil ?_
  refine wpC_seq ?_
  refine wpC_seq ?_
  refine wpC_cut (fun ρ => ρ 0 = (Value.int .i64 p0) ∧ True) ⟨e0, trivial⟩ ?_
  rintro ρ ⟨e0, -⟩
  refine wpC_region ?_
  refine rv (Value.int .i64 p0) w0 rfl rfl rfl (x_move rfl e0) ?_
  refine wpR_enter rfl rfl rfl (x_call (vs := [(Value.int .i64 p0), (Value.int .i64 2000)]) rfl rfl (mapl_cons rfl (mapl_cons rfl mapl_nil)) Tryz.func38 NN_38 NB_38) (Calls.mono h ?_)
  rintro _ w1 ⟨r9, rfl, h⟩
  refine ⟨_, rfl, ?_⟩
  refine rv (Value.bool (!r9)) w1 rfl rfl rfl (x_not rfl rfl) ?_
  refine wpR_nil ?_
  refine wpC_cond (b := !r9) rfl (fun hc10 => ?_) (fun hc10 => ?_)
  · replace h := h.1 hc10
    refine wpC_seq ?_
    refine wpC_cut (fun ρ => True) trivial ?_
    rintro ρ -
    refine wpC_region ?_
    refine rv (Value.int .i64 (-1)) w1 rfl rfl rfl (x_assign rfl rfl) ?_
    refine wpR_nil ?_
    refine wpC_ret ?_
    exact ⟨.inl rfl, fun a ha => ⟨_, results_rep1 rfl ha rfl, (-1), rfl, h⟩⟩
  · replace h := h.2 hc10
    refine wpC_skip ?_
    refine wpC_seq ?_
    refine wpC_cut (fun ρ => ρ 0 = (Value.int .i64 p0) ∧ True) ⟨e0, trivial⟩ ?_
    rintro ρ ⟨e0, -⟩
    refine wpC_region ?_
    refine rv (Value.int .i64 p0) w1 rfl rfl rfl (x_move rfl e0) ?_
    refine rv (Value.int .i64 (p0.tmod 12)) w1 rfl rfl rfl (x_rem rfl rfl rfl (by decide)) ?_
    refine rv (Value.int .i64 (p0.tmod 12)) w1 rfl rfl rfl (x_assign rfl rfl) ?_
    refine wpR_nil ?_
    refine wpC_ret ?_
    exact ⟨.inl rfl, fun a ha => ⟨_, results_rep1 rfl ha rfl, p0.tmod 12, rfl, h⟩⟩

/-- queue.Put -/
def F21 (p0_0 : ByteArray) (p0_1 : Int) (p0_2 : Int) (p0_3 : Int) (p0_4 : Bool) (p0_5 : Int) (p0_6 : Bool) (p0_7 : Bool) (p0_8 : Int) (p0_9 : Int) (p0_10 : Int) (p0_11 : Int) (p0_12 : Sl) (p0_13 : Int) (p0_14 : Int) (p0_15 : Int) (p0_16 : Int) (p0_17 : Bool) (p0_18 : Int) (p0_19 : Int) (p0_20 : Int) (p0_21 : Int) (p1 : Sl) (p2_0 : Int) (p2_1 : Int) (p2_2 : Int) (p2_3 : Int) (p3 : Int) (w0 : World) (K : (Sl × Int) → World → Prop) : Prop :=
  nw 65 (A64 p0_0 p0_1 p0_2 p0_3 p0_4 p0_5 p0_6 p0_7 p0_8 p0_9 p0_10 p0_11 p0_12 p0_13 p0_14 p0_15 p0_16 p0_17 p0_18 p0_19 p0_20 p0_21) w0 fun b9 w1 =>
  nw 70 #[(Value.int .i64 p2_0), (Value.int .i64 p2_1), (Value.int .i64 p2_2), (Value.int .i64 p2_3)] w1 fun b10 w2 =>
  callC Tryz.prog 42 #[(Sl.v p1)] (fun (r : Sl) => (Sl.v r)) w2 fun r11 w3 =>
  callC Tryz.prog 43 #[(Sl.v p1)] (fun (r : Bool) => (Value.bool r)) w3 fun r12 w4 =>
  jn (fun J13 => cnd (!r12)
    (
    J13 true w4
    )
    (
    ld (Value.int .i64) ((Addr.mk b10 0 none).add 0) w4 fun x15 =>
    ld (Value.int .i64) ((Addr.mk b10 0 none).add 1) w4 fun x16 =>
    ld (Value.int .i64) ((Addr.mk b10 0 none).add 2) w4 fun x17 =>
    ld (Value.int .i64) ((Addr.mk b10 0 none).add 3) w4 fun x18 =>
    callC Tryz.prog 44 #[(Value.agg #[(Value.int .i64 x15), (Value.int .i64 x16), (Value.int .i64 x17), (Value.int .i64 x18)])] (fun (r : Bool) => (Value.bool r)) w4 fun r19 w5 =>
    J13 (!r19) w5
    ))
  fun c20 w6 =>
  cnd (c20)
    (
    K (r11, 1) w6
    )
    (
    ld (Value.int .i64) ((Addr.mk b10 0 none).add 0) w6 fun x22 =>
    ld (Value.int .i64) ((Addr.mk b10 0 none).add 1) w6 fun x23 =>
    callC Tryz.prog 45 #[(Sl.v p1), (Value.int .i64 x22), (Value.int .i64 x23)] (fun (r : Bool) => (Value.bool r)) w6 fun r24 w7 =>
    cnd (r24)
      (
      K (r11, 5) w7
      )
      (
      jn (fun (J27 : Sl → World → Prop) => tk w7 fun w8 =>
        ld (Value.int .i64) ((Addr.mk b10 0 none).add 0) w8 fun x28 =>
        ld (Value.int .i64) ((Addr.mk b10 0 none).add 1) w8 fun x29 =>
        ld (Value.int .i64) ((Addr.mk b10 0 none).add 2) w8 fun x30 =>
        ld (Value.int .i64) ((Addr.mk b10 0 none).add 3) w8 fun x31 =>
        (
          callC Tryz.prog 42 #[(Sl.v p1)] (fun (r : Sl) => (Sl.v r)) w8 fun r32 w9 =>
          (w9.cell? ((Addr.mk b10 0 none).add 0) = some (Value.int .i64 x28) ∧ w9.cell? ((Addr.mk b10 0 none).add 1) = some (Value.int .i64 x29) ∧ w9.cell? ((Addr.mk b10 0 none).add 2) = some (Value.int .i64 x30) ∧ w9.cell? ((Addr.mk b10 0 none).add 3) = some (Value.int .i64 x31)) ∧
          nw 70 #[(Value.int .i64 x28), (Value.int .i64 x29), (Value.int .i64 x30), (Value.int .i64 x31)] w9 fun b33 w10 =>
          rn Tryz.prog (Builtin.append_ #[66, 66] 66 #[Sl.v r32, Sl.v (⟨some ⟨b33, 0, none⟩, 1, 1⟩ : Sl)]) Sl.v w10 fun r34 w11 =>
          J27 r34 w11
        )
        ∧
        (
          nw 70 #[(Value.int .i64 x28), (Value.int .i64 x29), (Value.int .i64 x30), (Value.int .i64 x31)] w8 fun b35 w12 =>
          callC Tryz.prog 42 #[(Sl.v p1)] (fun (r : Sl) => (Sl.v r)) w12 fun r36 w13 =>
          rn Tryz.prog (Builtin.append_ #[66, 66] 66 #[Sl.v r36, Sl.v (⟨some ⟨b35, 0, none⟩, 1, 1⟩ : Sl)]) Sl.v w13 fun r37 w14 =>
          J27 r37 w14
        )
      )
      fun l38 w15 =>
      lp (fun (next39 : (Sl × Int) → World → Prop) l39 w16 =>
        cnd (decide (l39.2 < (l38.len : Int)))
          (
          jn (fun (J41 : Sl → World → Prop) =>
            ix l38 l39.2 4 fun p43 =>
            ld (Value.int .i64) (p43.add 0) w16 fun x44 =>
            ld (Value.int .i64) (p43.add 1) w16 fun x45 =>
            ld (Value.int .i64) (p43.add 2) w16 fun x46 =>
            ld (Value.int .i64) (p43.add 3) w16 fun x47 =>
            nw 70 #[(Value.int .i64 0), (Value.int .i64 0), (Value.int .i64 0), (Value.int .i64 0)] w16 fun b48 w18 =>
            st (Addr.mk b48 0 none) [(Value.int .i64 x44), (Value.int .i64 x45), (Value.int .i64 x46), (Value.int .i64 x47)] w18 fun w19 =>
            ld (Value.int .i64) ((Addr.mk b48 0 none).add 1) w19 fun x50 =>
            ld (Value.int .i64) ((Addr.mk b10 0 none).add 1) w19 fun x51 =>
            cnd (decide (x50 = x51))
              (
              ld (Value.int .i64) ((Addr.mk b48 0 none).add 0) w19 fun x53 =>
              ld (Value.int .i64) ((Addr.mk b48 0 none).add 2) w19 fun x54 =>
              ld (Value.int .i64) ((Addr.mk b48 0 none).add 3) w19 fun x55 =>
              nw 103 #[(Value.int .i64 x53), (Value.int .i64 x54), (Value.int .i64 x55)] w19 fun b56 w20 =>
              rn Tryz.prog (Builtin.append_ #[101, 101] 101 #[Sl.v l39.1, Sl.v (⟨some ⟨b56, 0, none⟩, 1, 1⟩ : Sl)]) Sl.v w20 fun r57 w21 =>
              J41 r57 w21
              )
              (
              J41 l39.1 w19
              )
          )
          fun l42 w17 =>
          next39 (l42, IntKind.i64.wrap (l39.2 + 1)) w17
          )
          (
          L64 (Addr.mk b9 0 none) w16 fun x58 x59 x60 x61 x62 x63 x64 x65 x66 x67 x68 x69 x70 x71 x72 x73 x74 x75 x76 x77 x78 x79 =>
          callC Tryz.prog 46 #[(V64 x58 x59 x60 x61 x62 x63 x64 x65 x66 x67 x68 x69 x70 x71 x72 x73 x74 x75 x76 x77 x78 x79), (Sl.v l39.1), (Value.int .i64 p3)] (fun (r : Sl × Int × Int) => (Value.tuple #[(Sl.v r.1), (Value.int .i64 r.2.1), (Value.int .i64 r.2.2)])) w16 fun r80 w22 =>
          cnd (!decide (r80.2.2 = 0))
            (
            K (r11, r80.2.2) w22
            )
            (
            K (l38, 0) w22
            )
          )
      ) (Sl.nil, 0) w15
      )
    )
set_option maxRecDepth 100000 in
theorem D21 (p0_0 : ByteArray) (p0_1 : Int) (p0_2 : Int) (p0_3 : Int) (p0_4 : Bool) (p0_5 : Int) (p0_6 : Bool) (p0_7 : Bool) (p0_8 : Int) (p0_9 : Int) (p0_10 : Int) (p0_11 : Int) (p0_12 : Sl) (p0_13 : Int) (p0_14 : Int) (p0_15 : Int) (p0_16 : Int) (p0_17 : Bool) (p0_18 : Int) (p0_19 : Int) (p0_20 : Int) (p0_21 : Int) (p1 : Sl) (p2_0 : Int) (p2_1 : Int) (p2_2 : Int) (p2_3 : Int) (p3 : Int) (w0 : World) (K : (Sl × Int) → World → Prop) (h : F21 p0_0 p0_1 p0_2 p0_3 p0_4 p0_5 p0_6 p0_7 p0_8 p0_9 p0_10 p0_11 p0_12 p0_13 p0_14 p0_15 p0_16 p0_17 p0_18 p0_19 p0_20 p0_21 p1 p2_0 p2_1 p2_2 p2_3 p3 w0 K) : callC Tryz.prog 21 #[(V64 p0_0 p0_1 p0_2 p0_3 p0_4 p0_5 p0_6 p0_7 p0_8 p0_9 p0_10 p0_11 p0_12 p0_13 p0_14 p0_15 p0_16 p0_17 p0_18 p0_19 p0_20 p0_21), (Sl.v p1), (Value.agg #[(Value.int .i64 p2_0), (Value.int .i64 p2_1), (Value.int .i64 p2_2), (Value.int .i64 p2_3)]), (Value.int .i64 p3)] (fun (r : Sl × Int) => (Value.tuple #[(Sl.v r.1), (Value.int .i64 r.2)])) w0 K := by
  unfold F21 at h
  refine calls_of_wpC Tryz.func21 rfl 78 rfl (by simp) ?_
  intro ρ hρ
  have e0 : ρ 0 = (V64 p0_0 p0_1 p0_2 p0_3 p0_4 p0_5 p0_6 p0_7 p0_8 p0_9 p0_10 p0_11 p0_12 p0_13 p0_14 p0_15 p0_16 p0_17 p0_18 p0_19 p0_20 p0_21) := hρ 0
  have e1 : ρ 1 = (Sl.v p1) := hρ 1
  have e2 : ρ 2 = (Value.agg #[(Value.int .i64 p2_0), (Value.int .i64 p2_1), (Value.int .i64 p2_2), (Value.int .i64 p2_3)]) := hρ 2
  have e3 : ρ 3 = (Value.int .i64 p3) := hρ 3
  clear hρ
  refine wpC_seq ?_
  refine wpC_region ?_
  obtain ⟨b9, hb9⟩ : ∃ u, u = w0.heap.size := ⟨_, rfl⟩
  obtain ⟨w1, hw9⟩ : ∃ u, u = w0.alloc (.cells (A64 p0_0 p0_1 p0_2 p0_3 p0_4 p0_5 p0_6 p0_7 p0_8 p0_9 p0_10 p0_11 p0_12 p0_13 p0_14 p0_15 p0_16 p0_17 p0_18 p0_19 p0_20 p0_21) 65) := ⟨_, rfl⟩
  replace h := h b9 w1 hb9 hw9
  refine rv (Value.pointer (some (Addr.mk b9 0 none))) w1 rfl rfl rfl ((x_box (v := (V64 p0_0 p0_1 p0_2 p0_3 p0_4 p0_5 p0_6 p0_7 p0_8 p0_9 p0_10 p0_11 p0_12 p0_13 p0_14 p0_15 p0_16 p0_17 p0_18 p0_19 p0_20 p0_21)) rfl e0).trans (by rw [hb9, hw9]; rfl)) ?_
  obtain ⟨b10, hb10⟩ : ∃ u, u = w1.heap.size := ⟨_, rfl⟩
  obtain ⟨w2, hw10⟩ : ∃ u, u = w1.alloc (.cells #[(Value.int .i64 p2_0), (Value.int .i64 p2_1), (Value.int .i64 p2_2), (Value.int .i64 p2_3)] 70) := ⟨_, rfl⟩
  replace h := h b10 w2 hb10 hw10
  refine rv (Value.pointer (some (Addr.mk b10 0 none))) w2 rfl rfl rfl ((x_box (v := (Value.agg #[(Value.int .i64 p2_0), (Value.int .i64 p2_1), (Value.int .i64 p2_2), (Value.int .i64 p2_3)])) rfl e2).trans (by rw [hb10, hw10]; rfl)) ?_
  refine rv (Sl.v Sl.nil) w2 rfl rfl rfl (x_assign rfl rfl) ?_
  refine rv (Value.int .i64 0) w2 rfl rfl rfl (x_assign rfl rfl) ?_
  refine wpR_nil ?_
  refine wpC_seq ?_
  refine wpC_cut (fun ρ => ρ 1 = (Sl.v p1) ∧ ρ 3 = (Value.int .i64 p3) ∧ ρ 4 = (Value.pointer (some (Addr.mk b9 0 none))) ∧ ρ 6 = (Value.pointer (some (Addr.mk b10 0 none))) ∧ True) ⟨e1, e3, rfl, rfl, trivial⟩ ?_
  rintro ρ ⟨e1, e3, e4, e6, -⟩
  refine wpC_region ?_
  refine rv (Sl.v p1) w2 rfl rfl rfl (x_move rfl e1) ?_
  refine wpR_enter rfl rfl rfl (x_call (vs := [(Sl.v p1)]) rfl rfl (mapl_cons rfl mapl_nil) Tryz.func42 NN_42 NB_42) (Calls.mono h ?_)
  rintro _ w3 ⟨r11, rfl, h⟩
  refine ⟨_, rfl, ?_⟩
  refine rv (Sl.v r11) w3 rfl rfl rfl (x_assign rfl rfl) ?_
  refine wpR_nil ?_
  refine wpC_seq ?_
  refine wpC_block ?_
  refine wpC_seq ?_
  refine wpC_cut (fun ρ => ρ 1 = (Sl.v p1) ∧ ρ 3 = (Value.int .i64 p3) ∧ ρ 4 = (Value.pointer (some (Addr.mk b9 0 none))) ∧ ρ 6 = (Value.pointer (some (Addr.mk b10 0 none))) ∧ ρ 10 = (Sl.v r11) ∧ True) ⟨e1, e3, e4, e6, rfl, trivial⟩ ?_
  rintro ρ ⟨e1, e3, e4, e6, e10, -⟩
  refine wpC_region ?_
  refine rv (Sl.v p1) w3 rfl rfl rfl (x_move rfl e1) ?_
  refine wpR_enter rfl rfl rfl (x_call (vs := [(Sl.v p1)]) rfl rfl (mapl_cons rfl mapl_nil) Tryz.func43 NN_43 NB_43) (Calls.mono h ?_)
  rintro _ w4 ⟨r12, rfl, h⟩
  refine ⟨_, rfl, ?_⟩
  refine rv (Value.bool (!r12)) w4 rfl rfl rfl (x_not rfl rfl) ?_
  refine rv (Value.bool (!r12)) w4 rfl rfl rfl (x_move rfl rfl) ?_
  obtain ⟨J13, h, hk⟩ := h
  refine wpR_joinJ 4 (fun x ρ => ρ 28 = Value.bool x ∧ ρ 1 = (Sl.v p1) ∧ ρ 3 = (Value.int .i64 p3) ∧ ρ 4 = (Value.pointer (some (Addr.mk b9 0 none))) ∧ ρ 6 = (Value.pointer (some (Addr.mk b10 0 none))) ∧ ρ 10 = (Sl.v r11) ∧ True) (J13) ?_ ?_
  · clear hk
    rcases Bool.eq_false_or_eq_true (!r12) with hc14 | hc14
    · replace h := h.1 hc14
      refine wpR_pass (wantN rfl rfl rfl hc14) rfl rfl ?_
      refine wpR_pass (wantN rfl rfl rfl hc14) rfl rfl ?_
      refine wpR_pass (wantN rfl rfl rfl hc14) rfl rfl ?_
      refine rv (Value.bool true) w4 rfl rfl rfl (x_pickT (v := (Value.bool true)) rfl rfl hc14 rfl) ?_
      refine wpR_nil ?_
      exact ⟨true, ⟨rfl, e1, e3, e4, e6, e10, trivial⟩, h⟩
    · replace h := h.2 hc14
      obtain ⟨x15, q15, x16, q16, x17, q17, x18, q18, h⟩ := h
      refine wpR_val (v := (Value.agg #[(Value.int .i64 x15), (Value.int .i64 x16), (Value.int .i64 x17), (Value.int .i64 x18)])) (w' := w4) (wantG rfl rfl rfl hc14) rfl rfl (x_loadN [(Value.int .i64 x15), (Value.int .i64 x16), (Value.int .i64 x17), (Value.int .i64 x18)] rfl e6 SH_70 (CellsAt.out (CellsAt.cons q15 (CellsAt.cons q16 (CellsAt.cons q17 (CellsAt.cons q18 CellsAt.nil)))))) ?_
      refine wpR_enter (wantG rfl rfl rfl hc14) rfl rfl (x_call (vs := [(Value.agg #[(Value.int .i64 x15), (Value.int .i64 x16), (Value.int .i64 x17), (Value.int .i64 x18)])]) rfl rfl (mapl_cons rfl mapl_nil) Tryz.func44 NN_44 NB_44) (Calls.mono h ?_)
      rintro _ w5 ⟨r19, rfl, h⟩
      refine ⟨_, rfl, ?_⟩
      refine wpR_val (v := (Value.bool (!r19))) (w' := w5) (wantG rfl rfl rfl hc14) rfl rfl (x_not rfl rfl) ?_
      refine rv (Value.bool (!r19)) w5 rfl rfl rfl (x_pickF (v := (Value.bool (!r19))) rfl rfl hc14 rfl) ?_
      refine wpR_nil ?_
      exact ⟨!r19, ⟨rfl, e1, e3, e4, e6, e10, trivial⟩, h⟩
  clear h
  rintro c20 ρ w6 ⟨e28, e1, e3, e4, e6, e10, -⟩ h
  replace h := hk c20 w6 h
  clear hk
  refine rv (Value.bool c20) w6 rfl rfl rfl (x_assign rfl e28) ?_
  refine wpR_nil ?_
  refine wpC_cond (b := c20) rfl (fun hc21 => ?_) (fun hc21 => ?_)
  · replace h := h.1 hc21
    refine wpC_seq ?_
    refine wpC_cut (fun ρ => ρ 10 = (Sl.v r11) ∧ True) ⟨e10, trivial⟩ ?_
    rintro ρ ⟨e10, -⟩
    refine wpC_region ?_
    refine rv (Sl.v r11) w6 rfl rfl rfl (x_move rfl e10) ?_
    refine rv (Sl.v r11) w6 rfl rfl rfl (x_assign rfl rfl) ?_
    refine rv (Value.int .i64 1) w6 rfl rfl rfl (x_assign rfl rfl) ?_
    refine wpR_nil ?_
    refine wpC_ret ?_
    exact ⟨.inl rfl, fun a ha => ⟨_, results_rep2 rfl ha rfl rfl, (r11, 1), rfl, h⟩⟩
  · replace h := h.2 hc21
    refine wpC_seq ?_
    refine wpC_cut (fun ρ => ρ 1 = (Sl.v p1) ∧ ρ 3 = (Value.int .i64 p3) ∧ ρ 4 = (Value.pointer (some (Addr.mk b9 0 none))) ∧ ρ 6 = (Value.pointer (some (Addr.mk b10 0 none))) ∧ ρ 10 = (Sl.v r11) ∧ True) ⟨e1, e3, e4, e6, e10, trivial⟩ ?_
    rintro ρ ⟨e1, e3, e4, e6, e10, -⟩
    refine wpC_region ?_
    refine rv (Sl.v p1) w6 rfl rfl rfl (x_move rfl e1) ?_
    refine rv (Value.pointer (some ((Addr.mk b10 0 none).add 0))) w6 rfl rfl rfl (x_fieldAddr rfl e6 FA_70_0) ?_
    obtain ⟨x22, q22, h⟩ := h
    refine rv (Value.int .i64 x22) w6 rfl rfl rfl (x_load1 rfl rfl SH_3 q22) ?_
    refine rv (Value.pointer (some ((Addr.mk b10 0 none).add 1))) w6 rfl rfl rfl (x_fieldAddr rfl e6 FA_70_1) ?_
    obtain ⟨x23, q23, h⟩ := h
    refine rv (Value.int .i64 x23) w6 rfl rfl rfl (x_load1 rfl rfl SH_3 q23) ?_
    refine wpR_enter rfl rfl rfl (x_call (vs := [(Sl.v p1), (Value.int .i64 x22), (Value.int .i64 x23)]) rfl rfl (mapl_cons rfl (mapl_cons rfl (mapl_cons rfl mapl_nil))) Tryz.func45 NN_45 NB_45) (Calls.mono h ?_)
    rintro _ w7 ⟨r24, rfl, h⟩
    refine ⟨_, rfl, ?_⟩
    refine rv (Value.bool r24) w7 rfl rfl rfl (x_assign rfl rfl) ?_
    refine wpR_nil ?_
    refine wpC_cond (b := r24) rfl (fun hc25 => ?_) (fun hc25 => ?_)
    · replace h := h.1 hc25
      refine wpC_seq ?_
      refine wpC_cut (fun ρ => ρ 10 = (Sl.v r11) ∧ True) ⟨e10, trivial⟩ ?_
      rintro ρ ⟨e10, -⟩
      refine wpC_region ?_
      refine rv (Sl.v r11) w7 rfl rfl rfl (x_move rfl e10) ?_
      refine rv (Sl.v r11) w7 rfl rfl rfl (x_assign rfl rfl) ?_
      refine rv (Value.int .i64 5) w7 rfl rfl rfl (x_assign rfl rfl) ?_
      refine wpR_nil ?_
      refine wpC_ret ?_
      exact ⟨.inl rfl, fun a ha => ⟨_, results_rep2 rfl ha rfl rfl, (r11, 5), rfl, h⟩⟩
    · replace h := h.2 hc25
      refine wpC_skip ?_
      refine wpC_seq ?_
      refine wpC_cut (fun ρ => ρ 1 = (Sl.v p1) ∧ ρ 3 = (Value.int .i64 p3) ∧ ρ 4 = (Value.pointer (some (Addr.mk b9 0 none))) ∧ ρ 6 = (Value.pointer (some (Addr.mk b10 0 none))) ∧ ρ 10 = (Sl.v r11) ∧ True) ⟨e1, e3, e4, e6, e10, trivial⟩ ?_
      rintro ρ ⟨e1, e3, e4, e6, e10, -⟩
      obtain ⟨J27, h, hk⟩ := h
      refine wpC_drawJ (by kernel_rfl) (fun (x : Sl) ρ => ρ 11 = (Sl.v x) ∧ ρ 3 = (Value.int .i64 p3) ∧ ρ 4 = (Value.pointer (some (Addr.mk b9 0 none))) ∧ ρ 6 = (Value.pointer (some (Addr.mk b10 0 none))) ∧ ρ 10 = (Sl.v r11) ∧ True) J27 ?_ ?_
      · clear hk
        unfold tk at h
        generalize w7.drew = w8 at h ⊢
        refine wpD_take (v := (Sl.v p1)) 0 (fun _ => True) rfl (by kernel_rfl) (by kernel_rfl) (by kernel_rfl) rfl rfl rfl trivial (fun w _ => (x_move (v := (Sl.v p1)) rfl e1)) ?_
        obtain ⟨x28, q28, x29, q29, x30, q30, x31, q31, h⟩ := h
        refine wpD_take (v := (Value.agg #[(Value.int .i64 x28), (Value.int .i64 x29), (Value.int .i64 x30), (Value.int .i64 x31)])) 2 (fun w => w.cell? ((Addr.mk b10 0 none).add 0) = some (Value.int .i64 x28) ∧ w.cell? ((Addr.mk b10 0 none).add 1) = some (Value.int .i64 x29) ∧ w.cell? ((Addr.mk b10 0 none).add 2) = some (Value.int .i64 x30) ∧ w.cell? ((Addr.mk b10 0 none).add 3) = some (Value.int .i64 x31)) rfl (by kernel_rfl) (by kernel_rfl) (by kernel_rfl) rfl rfl rfl ⟨q28, q29, q30, q31⟩ (fun w ⟨q28, q29, q30, q31⟩ => (x_loadN [(Value.int .i64 x28), (Value.int .i64 x29), (Value.int .i64 x30), (Value.int .i64 x31)] rfl e6 SH_70 (CellsAt.out (CellsAt.cons q28 (CellsAt.cons q29 (CellsAt.cons q30 (CellsAt.cons q31 CellsAt.nil))))))) ?_
        refine wpD_all (rs := [1, 3]) (by kernel_rfl) (by simp) (allD_cons ?_ (allD_cons ?_ allD_nil))
        · replace h := h.1
          refine stepD_enterL (L' := [(2, fun w => w.cell? ((Addr.mk b10 0 none).add 0) = some (Value.int .i64 x28) ∧ w.cell? ((Addr.mk b10 0 none).add 1) = some (Value.int .i64 x29) ∧ w.cell? ((Addr.mk b10 0 none).add 2) = some (Value.int .i64 x30) ∧ w.cell? ((Addr.mk b10 0 none).add 3) = some (Value.int .i64 x31))]) rfl rfl rfl rfl (x_call (vs := [(Sl.v p1)]) rfl rfl (mapl_cons rfl mapl_nil) Tryz.func42 NN_42 NB_42) (by kernel_rfl) (Calls.mono h ?_)
          rintro _ w9 ⟨r32, rfl, h⟩
          obtain ⟨o2, h⟩ := h
          refine ⟨_, rfl, (held_cons o2 held_nil), ?_⟩
          refine wpD_all (rs := [3]) (by kernel_rfl) (by simp) (allD_cons ?_ allD_nil)
          obtain ⟨b33, hb33⟩ : ∃ u, u = w9.heap.size := ⟨_, rfl⟩
          obtain ⟨w10, hw33⟩ : ∃ u, u = w9.alloc (.cells #[(Value.int .i64 x28), (Value.int .i64 x29), (Value.int .i64 x30), (Value.int .i64 x31)] 70) := ⟨_, rfl⟩
          replace h := h b33 w10 hb33 hw33
          refine stepD_valL (L' := []) (v := (Sl.v (⟨some ⟨b33, 0, none⟩, 1, 1⟩ : Sl))) (w' := w10) rfl rfl rfl rfl ((x_buildSlice (qs := [(0, (Value.agg #[(Value.int .i64 x28), (Value.int .i64 x29), (Value.int .i64 x30), (Value.int .i64 x31)]))]) rfl (by rfl) (BS_66_1_0 x28 x29 x30 x31)).trans (by rw [← hb33, ← hw33])) (by kernel_rfl) held_nil ?_
          refine wpD_all (rs := [4]) (by kernel_rfl) (by simp) (allD_cons ?_ allD_nil)
          obtain ⟨r34, w11, q34, h⟩ := h
          refine stepD_valL (L' := []) (v := (Sl.v r34)) (w' := w11) rfl rfl rfl rfl (x_append (s := r32) (u := (⟨some ⟨b33, 0, none⟩, 1, 1⟩ : Sl)) rfl rfl rfl rfl q34) (by kernel_rfl) held_nil ?_
          refine wpD_take (v := (Sl.v r34)) 5 (fun _ => True) rfl (by kernel_rfl) (by kernel_rfl) (by kernel_rfl) rfl rfl rfl trivial (fun w _ => (x_assign (v := (Sl.v r34)) rfl rfl)) ?_
          exact wpD_done (by kernel_rfl) ⟨r34, ⟨rfl, e3, e4, e6, e10, trivial⟩, h⟩
        · replace h := h.2
          obtain ⟨b35, hb35⟩ : ∃ u, u = w8.heap.size := ⟨_, rfl⟩
          obtain ⟨w12, hw35⟩ : ∃ u, u = w8.alloc (.cells #[(Value.int .i64 x28), (Value.int .i64 x29), (Value.int .i64 x30), (Value.int .i64 x31)] 70) := ⟨_, rfl⟩
          replace h := h b35 w12 hb35 hw35
          refine stepD_valL (L' := [(0, fun _ => True)]) (v := (Sl.v (⟨some ⟨b35, 0, none⟩, 1, 1⟩ : Sl))) (w' := w12) rfl rfl rfl rfl ((x_buildSlice (qs := [(0, (Value.agg #[(Value.int .i64 x28), (Value.int .i64 x29), (Value.int .i64 x30), (Value.int .i64 x31)]))]) rfl (by rfl) (BS_66_1_0 x28 x29 x30 x31)).trans (by rw [← hb35, ← hw35])) (by kernel_rfl) (held_cons trivial held_nil) ?_
          refine wpD_all (rs := [1]) (by kernel_rfl) (by simp) (allD_cons ?_ allD_nil)
          refine stepD_enterL (L' := []) rfl rfl rfl rfl (x_call (vs := [(Sl.v p1)]) rfl rfl (mapl_cons rfl mapl_nil) Tryz.func42 NN_42 NB_42) (by kernel_rfl) (Calls.mono h ?_)
          rintro _ w13 ⟨r36, rfl, h⟩
          refine ⟨_, rfl, held_nil, ?_⟩
          refine wpD_all (rs := [4]) (by kernel_rfl) (by simp) (allD_cons ?_ allD_nil)
          obtain ⟨r37, w14, q37, h⟩ := h
          refine stepD_valL (L' := []) (v := (Sl.v r37)) (w' := w14) rfl rfl rfl rfl (x_append (s := r36) (u := (⟨some ⟨b35, 0, none⟩, 1, 1⟩ : Sl)) rfl rfl rfl rfl q37) (by kernel_rfl) held_nil ?_
          refine wpD_take (v := (Sl.v r37)) 5 (fun _ => True) rfl (by kernel_rfl) (by kernel_rfl) (by kernel_rfl) rfl rfl rfl trivial (fun w _ => (x_assign (v := (Sl.v r37)) rfl rfl)) ?_
          exact wpD_done (by kernel_rfl) ⟨r37, ⟨rfl, e3, e4, e6, e10, trivial⟩, h⟩
      clear h
      rintro l38 ρ w15 ⟨e11, e3, e4, e6, e10, -⟩ h
      replace h := hk l38 w15 h
      clear hk
      refine wpC_seq ?_
      refine wpC_region ?_
      refine rv (Sl.v Sl.nil) w15 rfl rfl rfl (x_assign rfl rfl) ?_
      refine wpR_nil ?_
      refine wpC_seq ?_
      refine wpC_seq ?_
      refine wpC_cut (fun ρ => ρ 3 = (Value.int .i64 p3) ∧ ρ 4 = (Value.pointer (some (Addr.mk b9 0 none))) ∧ ρ 6 = (Value.pointer (some (Addr.mk b10 0 none))) ∧ ρ 10 = (Sl.v r11) ∧ ρ 11 = (Sl.v l38) ∧ ρ 12 = (Sl.v Sl.nil) ∧ True) ⟨e3, e4, e6, e10, e11, rfl, trivial⟩ ?_
      rintro ρ ⟨e3, e4, e6, e10, e11, e12, -⟩
      refine wpC_region ?_
      refine rv (Sl.v l38) w15 rfl rfl rfl (x_move rfl e11) ?_
      refine rv (Value.int .i64 (l38.len : Int)) w15 rfl rfl rfl (x_lenS (s := l38) rfl rfl isSliceT_66) ?_
      refine rv (Value.int .i64 0) w15 rfl rfl rfl (x_move rfl rfl) ?_
      refine wpR_nil ?_
      refine wpC_block ?_
      obtain ⟨I39, μ39, hI39, hr39⟩ := h
      refine wpC_loop (fun (x : Sl × Int) ρ => ρ 12 = (Sl.v x.1) ∧ ρ 45 = (Value.int .i64 x.2) ∧ ρ 3 = (Value.int .i64 p3) ∧ ρ 4 = (Value.pointer (some (Addr.mk b9 0 none))) ∧ ρ 6 = (Value.pointer (some (Addr.mk b10 0 none))) ∧ ρ 10 = (Sl.v r11) ∧ ρ 11 = (Sl.v l38) ∧ ρ 43 = (Sl.v l38) ∧ ρ 44 = (Value.int .i64 (l38.len : Int)) ∧ True) I39 μ39 (Sl.nil, 0) ⟨e12, rfl, e3, e4, e6, e10, e11, rfl, rfl, trivial⟩ hI39 ?_
      rintro l39 ρ w16 ⟨e12, e45, e3, e4, e6, e10, e11, e43, e44, -⟩ h
      replace h := hr39 l39 w16 h
      clear hr39 hI39
      refine wpC_seq ?_
      refine wpC_region ?_
      refine rv (Value.bool (decide (l39.2 < (l38.len : Int)))) w16 rfl rfl rfl (x_lss rfl e45 e44) ?_
      refine wpR_nil ?_
      refine wpC_seq ?_
      refine wpC_cond (b := decide (l39.2 < (l38.len : Int))) rfl (fun hc40 => ?_) (fun hc40 => ?_)
      · replace h := h.1 hc40
        refine wpC_skip ?_
        obtain ⟨J41, h, hk⟩ := h
        refine wpC_seqJ (fun (x : Sl) ρ => ρ 12 = (Sl.v x) ∧ ρ 3 = (Value.int .i64 p3) ∧ ρ 4 = (Value.pointer (some (Addr.mk b9 0 none))) ∧ ρ 6 = (Value.pointer (some (Addr.mk b10 0 none))) ∧ ρ 10 = (Sl.v r11) ∧ ρ 11 = (Sl.v l38) ∧ ρ 43 = (Sl.v l38) ∧ ρ 44 = (Value.int .i64 (l38.len : Int)) ∧ ρ 45 = (Value.int .i64 l39.2) ∧ True) J41 ?_ ?_
        · clear hk
          refine wpC_block ?_
          refine wpC_seq ?_
          refine wpC_cut (fun ρ => ρ 3 = (Value.int .i64 p3) ∧ ρ 4 = (Value.pointer (some (Addr.mk b9 0 none))) ∧ ρ 6 = (Value.pointer (some (Addr.mk b10 0 none))) ∧ ρ 10 = (Sl.v r11) ∧ ρ 11 = (Sl.v l38) ∧ ρ 12 = (Sl.v l39.1) ∧ ρ 43 = (Sl.v l38) ∧ ρ 44 = (Value.int .i64 (l38.len : Int)) ∧ ρ 45 = (Value.int .i64 l39.2) ∧ True) ⟨e3, e4, e6, e10, e11, e12, e43, e44, e45, trivial⟩ ?_
          rintro ρ ⟨e3, e4, e6, e10, e11, e12, e43, e44, e45, -⟩
          refine wpC_region ?_
          obtain ⟨q43, z43, r43, h⟩ := h
          generalize hp43 : z43.add ((l39.2 : Int).toNat * 4) = p43 at h
          refine rv (Value.pointer (some p43)) w16 rfl rfl rfl ((x_indexAddr (s := l38) rfl e43 e45 ES_66 q43 r43).trans (by rw [hp43])) ?_
          obtain ⟨x44, q44, x45, q45, x46, q46, x47, q47, h⟩ := h
          refine rv (Value.agg #[(Value.int .i64 x44), (Value.int .i64 x45), (Value.int .i64 x46), (Value.int .i64 x47)]) w16 rfl rfl rfl (x_loadN [(Value.int .i64 x44), (Value.int .i64 x45), (Value.int .i64 x46), (Value.int .i64 x47)] rfl rfl SH_70 (CellsAt.out (CellsAt.cons q44 (CellsAt.cons q45 (CellsAt.cons q46 (CellsAt.cons q47 CellsAt.nil)))))) ?_
          obtain ⟨b48, hb48⟩ : ∃ u, u = w16.heap.size := ⟨_, rfl⟩
          obtain ⟨w18, hw48⟩ : ∃ u, u = w16.alloc (.cells #[(Value.int .i64 0), (Value.int .i64 0), (Value.int .i64 0), (Value.int .i64 0)] 70) := ⟨_, rfl⟩
          replace h := h b48 w18 hb48 hw48
          refine rv (Value.pointer (some (Addr.mk b48 0 none))) w18 rfl rfl rfl ((x_alloc rfl ZV_70).trans (by rw [hb48, hw48]; rfl)) ?_
          obtain ⟨q49, h⟩ := h
          obtain ⟨w19, hw49⟩ : ∃ u, u = setAll w18 (Addr.mk b48 0 none) [(Value.int .i64 x44), (Value.int .i64 x45), (Value.int .i64 x46), (Value.int .i64 x47)] 0 := ⟨_, rfl⟩
          replace h := h w19 hw49
          refine wpR_skp (w' := w19) rfl rfl ((x_store (v := (Value.agg #[(Value.int .i64 x44), (Value.int .i64 x45), (Value.int .i64 x46), (Value.int .i64 x47)])) rfl rfl rfl SZ_70 (ones (by rfl)) q49).trans (by rw [hw49]; rfl)) ?_
          refine wpR_nil ?_
          refine wpC_seq ?_
          refine wpC_cut (fun ρ => ρ 3 = (Value.int .i64 p3) ∧ ρ 4 = (Value.pointer (some (Addr.mk b9 0 none))) ∧ ρ 6 = (Value.pointer (some (Addr.mk b10 0 none))) ∧ ρ 10 = (Sl.v r11) ∧ ρ 11 = (Sl.v l38) ∧ ρ 12 = (Sl.v l39.1) ∧ ρ 14 = (Value.pointer (some (Addr.mk b48 0 none))) ∧ ρ 43 = (Sl.v l38) ∧ ρ 44 = (Value.int .i64 (l38.len : Int)) ∧ ρ 45 = (Value.int .i64 l39.2) ∧ True) ⟨e3, e4, e6, e10, e11, e12, rfl, e43, e44, e45, trivial⟩ ?_
          rintro ρ ⟨e3, e4, e6, e10, e11, e12, e14, e43, e44, e45, -⟩
          refine wpC_region ?_
          refine rv (Value.pointer (some ((Addr.mk b48 0 none).add 1))) w19 rfl rfl rfl (x_fieldAddr rfl e14 FA_70_1) ?_
          obtain ⟨x50, q50, h⟩ := h
          refine rv (Value.int .i64 x50) w19 rfl rfl rfl (x_load1 rfl rfl SH_3 q50) ?_
          refine rv (Value.pointer (some ((Addr.mk b10 0 none).add 1))) w19 rfl rfl rfl (x_fieldAddr rfl e6 FA_70_1) ?_
          obtain ⟨x51, q51, h⟩ := h
          refine rv (Value.int .i64 x51) w19 rfl rfl rfl (x_load1 rfl rfl SH_3 q51) ?_
          refine rv (Value.bool (decide (x50 = x51))) w19 rfl rfl rfl (x_eql rfl rfl rfl) ?_
          refine wpR_nil ?_
          refine wpC_cond (b := decide (x50 = x51)) rfl (fun hc52 => ?_) (fun hc52 => ?_)
          · replace h := h.1 hc52
            refine wpC_cut (fun ρ => ρ 3 = (Value.int .i64 p3) ∧ ρ 4 = (Value.pointer (some (Addr.mk b9 0 none))) ∧ ρ 6 = (Value.pointer (some (Addr.mk b10 0 none))) ∧ ρ 10 = (Sl.v r11) ∧ ρ 11 = (Sl.v l38) ∧ ρ 12 = (Sl.v l39.1) ∧ ρ 14 = (Value.pointer (some (Addr.mk b48 0 none))) ∧ ρ 43 = (Sl.v l38) ∧ ρ 44 = (Value.int .i64 (l38.len : Int)) ∧ ρ 45 = (Value.int .i64 l39.2) ∧ True) ⟨e3, e4, e6, e10, e11, e12, e14, e43, e44, e45, trivial⟩ ?_
            rintro ρ ⟨e3, e4, e6, e10, e11, e12, e14, e43, e44, e45, -⟩
            refine wpC_region ?_
            refine rv (Sl.v l39.1) w19 rfl rfl rfl (x_move rfl e12) ?_
            refine rv (Value.pointer (some ((Addr.mk b48 0 none).add 0))) w19 rfl rfl rfl (x_fieldAddr rfl e14 FA_70_0) ?_
            obtain ⟨x53, q53, h⟩ := h
            refine rv (Value.int .i64 x53) w19 rfl rfl rfl (x_load1 rfl rfl SH_3 q53) ?_
            refine rv (Value.pointer (some ((Addr.mk b48 0 none).add 2))) w19 rfl rfl rfl (x_fieldAddr rfl e14 FA_70_2) ?_
            obtain ⟨x54, q54, h⟩ := h
            refine rv (Value.int .i64 x54) w19 rfl rfl rfl (x_load1 rfl rfl SH_3 q54) ?_
            refine rv (Value.pointer (some ((Addr.mk b48 0 none).add 3))) w19 rfl rfl rfl (x_fieldAddr rfl e14 FA_70_3) ?_
            obtain ⟨x55, q55, h⟩ := h
            refine rv (Value.int .i64 x55) w19 rfl rfl rfl (x_load1 rfl rfl SH_3 q55) ?_
            refine rv (Value.agg #[(Value.int .i64 x53), (Value.int .i64 x54), (Value.int .i64 x55)]) w19 rfl rfl rfl (x_build (qs := [(0, (Value.int .i64 x53)), (1, (Value.int .i64 x54)), (2, (Value.int .i64 x55))]) rfl (by rfl) (BD_103_0_1_2 x53 x54 x55 _)) ?_
            obtain ⟨b56, hb56⟩ : ∃ u, u = w19.heap.size := ⟨_, rfl⟩
            obtain ⟨w20, hw56⟩ : ∃ u, u = w19.alloc (.cells #[(Value.int .i64 x53), (Value.int .i64 x54), (Value.int .i64 x55)] 103) := ⟨_, rfl⟩
            replace h := h b56 w20 hb56 hw56
            refine rv (Sl.v (⟨some ⟨b56, 0, none⟩, 1, 1⟩ : Sl)) w20 rfl rfl rfl ((x_buildSlice (qs := [(0, (Value.agg #[(Value.int .i64 x53), (Value.int .i64 x54), (Value.int .i64 x55)]))]) rfl (by rfl) (BS_101_1_0 x53 x54 x55)).trans (by rw [← hb56, ← hw56])) ?_
            obtain ⟨r57, w21, q57, h⟩ := h
            refine rv (Sl.v r57) w21 rfl rfl rfl (x_append (s := l39.1) (u := (⟨some ⟨b56, 0, none⟩, 1, 1⟩ : Sl)) rfl rfl rfl rfl q57) ?_
            refine rv (Sl.v r57) w21 rfl rfl rfl (x_assign rfl rfl) ?_
            refine wpR_nil ?_
            exact ⟨r57, ⟨rfl, e3, e4, e6, e10, e11, e43, e44, e45, trivial⟩, h⟩
          · replace h := h.2 hc52
            refine wpC_skip ?_
            exact ⟨l39.1, ⟨e12, e3, e4, e6, e10, e11, e43, e44, e45, trivial⟩, h⟩
        clear h
        rintro l42 ρ w17 ⟨e12, e3, e4, e6, e10, e11, e43, e44, e45, -⟩ h
        replace h := hk l42 w17 h
        clear hk
        refine wpC_region ?_
        refine rv (Value.int .i64 (IntKind.i64.wrap (l39.2 + 1))) w17 rfl rfl rfl (x_add rfl e45 rfl) ?_
        refine rv (Value.int .i64 (IntKind.i64.wrap (l39.2 + 1))) w17 rfl rfl rfl (x_move rfl rfl) ?_
        refine wpR_nil ?_
        exact ⟨(l42, IntKind.i64.wrap (l39.2 + 1)), ⟨e12, rfl, e3, e4, e6, e10, e11, e43, e44, trivial⟩, h⟩
      · replace h := h.2 hc40
        refine wpC_exit ?_
        refine wpC_seq ?_
        refine wpC_seq ?_
        refine wpC_cut (fun ρ => ρ 3 = (Value.int .i64 p3) ∧ ρ 4 = (Value.pointer (some (Addr.mk b9 0 none))) ∧ ρ 10 = (Sl.v r11) ∧ ρ 11 = (Sl.v l38) ∧ ρ 12 = (Sl.v l39.1) ∧ True) ⟨e3, e4, e10, e11, e12, trivial⟩ ?_
        rintro ρ ⟨e3, e4, e10, e11, e12, -⟩
        refine wpC_region ?_
        obtain ⟨x58, q58, x59, q59, x60, q60, x61, q61, x62, q62, x63, q63, x64, q64, x65, q65, x66, q66, x67, q67, x68, q68, x69, q69, x70, q70, x71, q71, x72, q72, x73, q73, x74, q74, x75, q75, x76, q76, x77, q77, x78, q78, x79, q79, h⟩ := h
        refine rv (V64 x58 x59 x60 x61 x62 x63 x64 x65 x66 x67 x68 x69 x70 x71 x72 x73 x74 x75 x76 x77 x78 x79) w16 rfl rfl rfl (x_loadN (S64 x58 x59 x60 x61 x62 x63 x64 x65 x66 x67 x68 x69 x70 x71 x72 x73 x74 x75 x76 x77 x78 x79) rfl e4 SH_65 (K64 ⟨q58, q59, q60, q61, q62, q63, q64, q65, q66, q67, q68, q69, q70, q71, q72, q73, q74, q75, q76, q77, q78, q79⟩)) ?_
        refine rv (Sl.v l39.1) w16 rfl rfl rfl (x_move rfl e12) ?_
        refine rv (Value.int .i64 p3) w16 rfl rfl rfl (x_move rfl e3) ?_
        refine wpR_enter rfl rfl rfl (x_call (vs := [(V64 x58 x59 x60 x61 x62 x63 x64 x65 x66 x67 x68 x69 x70 x71 x72 x73 x74 x75 x76 x77 x78 x79), (Sl.v l39.1), (Value.int .i64 p3)]) rfl rfl (mapl_cons rfl (mapl_cons rfl (mapl_cons rfl mapl_nil))) Tryz.func46 NN_46 NB_46) (Calls.mono h ?_)
        rintro _ w22 ⟨r80, rfl, h⟩
        refine ⟨_, rfl, ?_⟩
        refine rv (Value.tuple #[(Sl.v r80.1), (Value.int .i64 r80.2.1), (Value.int .i64 r80.2.2)]) w22 rfl rfl rfl (x_move rfl rfl) ?_
        refine rv (Sl.v r80.1) w22 rfl rfl rfl (x_extract rfl rfl rfl) ?_
        refine rv (Value.int .i64 r80.2.1) w22 rfl rfl rfl (x_extract rfl rfl rfl) ?_
        refine rv (Value.int .i64 r80.2.2) w22 rfl rfl rfl (x_extract rfl rfl rfl) ?_
        refine rv (Sl.v r80.1) w22 rfl rfl rfl (x_assign rfl rfl) ?_
        refine rv (Value.int .i64 r80.2.1) w22 rfl rfl rfl (x_assign rfl rfl) ?_
        refine rv (Value.int .i64 r80.2.2) w22 rfl rfl rfl (x_assign rfl rfl) ?_
        refine wpR_nil ?_
        refine wpC_seq ?_
        refine wpC_cut (fun ρ => ρ 10 = (Sl.v r11) ∧ ρ 11 = (Sl.v l38) ∧ ρ 17 = (Value.int .i64 r80.2.2) ∧ True) ⟨e10, e11, rfl, trivial⟩ ?_
        rintro ρ ⟨e10, e11, e17, -⟩
        refine wpC_region ?_
        refine rv (Value.int .i64 r80.2.2) w22 rfl rfl rfl (x_move rfl e17) ?_
        refine rv (Value.bool (!decide (r80.2.2 = 0))) w22 rfl rfl rfl (x_neq rfl rfl rfl) ?_
        refine wpR_nil ?_
        refine wpC_cond (b := !decide (r80.2.2 = 0)) rfl (fun hc81 => ?_) (fun hc81 => ?_)
        · replace h := h.1 hc81
          refine wpC_seq ?_
          refine wpC_cut (fun ρ => ρ 10 = (Sl.v r11) ∧ ρ 17 = (Value.int .i64 r80.2.2) ∧ True) ⟨e10, e17, trivial⟩ ?_
          rintro ρ ⟨e10, e17, -⟩
          refine wpC_region ?_
          refine rv (Sl.v r11) w22 rfl rfl rfl (x_move rfl e10) ?_
          refine rv (Value.int .i64 r80.2.2) w22 rfl rfl rfl (x_move rfl e17) ?_
          refine rv (Sl.v r11) w22 rfl rfl rfl (x_assign rfl rfl) ?_
          refine rv (Value.int .i64 r80.2.2) w22 rfl rfl rfl (x_assign rfl rfl) ?_
          refine wpR_nil ?_
          refine wpC_ret ?_
          exact ⟨.inl rfl, fun a ha => ⟨_, results_rep2 rfl ha rfl rfl, (r11, r80.2.2), rfl, h⟩⟩
        · replace h := h.2 hc81
          refine wpC_skip ?_
          refine wpC_seq ?_
          refine wpC_cut (fun ρ => ρ 11 = (Sl.v l38) ∧ True) ⟨e11, trivial⟩ ?_
          rintro ρ ⟨e11, -⟩
          refine wpC_region ?_
          refine rv (Sl.v l38) w22 rfl rfl rfl (x_move rfl e11) ?_
          refine rv (Sl.v l38) w22 rfl rfl rfl (x_assign rfl rfl) ?_
          refine rv (Value.int .i64 0) w22 rfl rfl rfl (x_assign rfl rfl) ?_
          refine wpR_nil ?_
          refine wpC_ret ?_
          exact ⟨.inl rfl, fun a ha => ⟨_, results_rep2 rfl ha rfl rfl, (l38, 0), rfl, h⟩⟩

/-- queue.Step -/
def F22 (p0_0 : ByteArray) (p0_1 : Int) (p0_2 : Int) (p0_3 : Int) (p0_4 : Bool) (p0_5 : Int) (p0_6 : Bool) (p0_7 : Bool) (p0_8 : Int) (p0_9 : Int) (p0_10 : Int) (p0_11 : Int) (p0_12 : Sl) (p0_13 : Int) (p0_14 : Int) (p0_15 : Int) (p0_16 : Int) (p0_17 : Bool) (p0_18 : Int) (p0_19 : Int) (p0_20 : Int) (p0_21 : Int) (p1 : Int) (p2 : Sl) (p3 : Bool) (w0 : World) (K : (Sl × Sl) → World → Prop) : Prop :=
  nw 65 (A64 p0_0 p0_1 p0_2 p0_3 p0_4 p0_5 p0_6 p0_7 p0_8 p0_9 p0_10 p0_11 p0_12 p0_13 p0_14 p0_15 p0_16 p0_17 p0_18 p0_19 p0_20 p0_21) w0 fun b9 w1 =>
  callC Tryz.prog 42 #[(Sl.v p2)] (fun (r : Sl) => (Sl.v r)) w1 fun r10 w2 =>
  nw 66 #[(Sl.v Sl.nil)] w2 fun b11 w3 =>
  st (Addr.mk b11 0 none) [(Sl.v r10)] w3 fun w4 =>
  jn (fun J13 => cnd (!p3)
    (
    J13 true w4
    )
    (
    L64 (Addr.mk b9 0 none) w4 fun x15 x16 x17 x18 x19 x20 x21 x22 x23 x24 x25 x26 x27 x28 x29 x30 x31 x32 x33 x34 x35 x36 =>
    callC Tryz.prog 47 #[(V64 x15 x16 x17 x18 x19 x20 x21 x22 x23 x24 x25 x26 x27 x28 x29 x30 x31 x32 x33 x34 x35 x36)] (fun (r : Int) => (Value.int .i64 r)) w4 fun r37 w5 =>
    J13 (!decide (r37 = 0)) w5
    ))
  fun c38 w6 =>
  jn (fun J39 => cnd (c38)
    (
    J39 true w6
    )
    (
    callC Tryz.prog 43 #[(Sl.v p2)] (fun (r : Bool) => (Value.bool r)) w6 fun r41 w7 =>
    J39 (!r41) w7
    ))
  fun c42 w8 =>
  cnd (c42)
    (
    jn (fun (J45 : (Sl × Sl) → World → Prop) => tk w8 fun w9 =>
      ld Sl.v (Addr.mk b11 0 none) w9 fun x46 =>
      J45 (Sl.nil, x46) w9
    )
    fun l47 w10 =>
    K (l47.1, l47.2) w10
    )
    (
    ld Sl.v (Addr.mk b11 0 none) w8 fun x48 =>
    lp (fun (next49 : (Sl × Int) → World → Prop) l49 w11 =>
      cnd (decide (l49.2 < (x48.len : Int)))
        (
        jn (fun (J51 : Sl → World → Prop) =>
          ix x48 l49.2 4 fun p53 =>
          ld (Value.int .i64) (p53.add 0) w11 fun x54 =>
          ld (Value.int .i64) (p53.add 1) w11 fun x55 =>
          ld (Value.int .i64) (p53.add 2) w11 fun x56 =>
          ld (Value.int .i64) (p53.add 3) w11 fun x57 =>
          nw 70 #[(Value.int .i64 0), (Value.int .i64 0), (Value.int .i64 0), (Value.int .i64 0)] w11 fun b58 w13 =>
          st (Addr.mk b58 0 none) [(Value.int .i64 x54), (Value.int .i64 x55), (Value.int .i64 x56), (Value.int .i64 x57)] w13 fun w14 =>
          ld (Value.int .i64) ((Addr.mk b58 0 none).add 1) w14 fun x60 =>
          cnd (decide (x60 = p1))
            (
            nw 3 #[(Value.int .i64 l49.2)] w14 fun b62 w15 =>
            rn Tryz.prog (Builtin.append_ #[39, 39] 39 #[Sl.v l49.1, Sl.v (⟨some ⟨b62, 0, none⟩, 1, 1⟩ : Sl)]) Sl.v w15 fun r63 w16 =>
            J51 r63 w16
            )
            (
            J51 l49.1 w14
            )
        )
        fun l52 w12 =>
        next49 (l52, IntKind.i64.wrap (l49.2 + 1)) w12
        )
        (
        callC Tryz.prog 48 #[(Sl.v l49.1), (Value.func (.func 49) #[] (List.toArray [(Value.pointer (some (Addr.mk b11 0 none)))]))] (fun (_ : Unit) => (Value.tuple #[])) w11 fun _r64 w17 =>
        ld (Value.int .i64) ((Addr.mk b9 0 none).add 18) w17 fun x65 =>
        lp (fun (next66 : (Sl × Int × Int) → World → Prop) l66 w18 =>
          cnd (decide (l66.2.2 < (l49.1.len : Int)))
            (
            jn (fun (J68 : (Sl × Int) → World → Prop) =>
              ix l49.1 l66.2.2 1 fun p70 =>
              ld (Value.int .i64) p70 w18 fun x71 =>
              ld Sl.v (Addr.mk b11 0 none) w18 fun x72 =>
              ix x72 x71 4 fun p73 =>
              ld (Value.int .i64) (p73.add 2) w18 fun x74 =>
              ld Sl.v (Addr.mk b11 0 none) w18 fun x75 =>
              ix x75 x71 4 fun p76 =>
              ld (Value.int .i64) (p76.add 2) w18 fun x77 =>
              ix x75 x71 4 fun p78 =>
              st (p78.add 2) [(Value.int .i64 (IntKind.i64.wrap (x77 - (min l66.2.1 x74))))] w18 fun w20 =>
              ld Sl.v (Addr.mk b11 0 none) w20 fun x80 =>
              ix x80 x71 4 fun p81 =>
              ld (Value.int .i64) (p81.add 2) w20 fun x82 =>
              cnd (decide (x82 = 0))
                (
                ld Sl.v (Addr.mk b11 0 none) w20 fun x84 =>
                ix x84 x71 4 fun p85 =>
                ld (Value.int .i64) (p85.add 0) w20 fun x86 =>
                nw 3 #[(Value.int .i64 x86)] w20 fun b87 w21 =>
                rn Tryz.prog (Builtin.append_ #[39, 39] 39 #[Sl.v l66.1, Sl.v (⟨some ⟨b87, 0, none⟩, 1, 1⟩ : Sl)]) Sl.v w21 fun r88 w22 =>
                J68 (r88, IntKind.i64.wrap (l66.2.1 - (min l66.2.1 x74))) w22
                )
                (
                J68 (l66.1, IntKind.i64.wrap (l66.2.1 - (min l66.2.1 x74))) w20
                )
            )
            fun l69 w19 =>
            next66 (l69.1, l69.2, IntKind.i64.wrap (l66.2.2 + 1)) w19
            )
            (
            ld Sl.v (Addr.mk b11 0 none) w18 fun x89 =>
            callC Tryz.prog 52 #[(Sl.v x89), (Value.func (.func 53) #[] #[])] (fun (r : Sl) => (Sl.v r)) w18 fun r90 w23 =>
            K (l66.1, r90) w23
            )
        ) (Sl.nil, x65, 0) w17
        )
    ) (Sl.nil, 0) w8
    )
set_option maxRecDepth 100000 in
theorem D22 (p0_0 : ByteArray) (p0_1 : Int) (p0_2 : Int) (p0_3 : Int) (p0_4 : Bool) (p0_5 : Int) (p0_6 : Bool) (p0_7 : Bool) (p0_8 : Int) (p0_9 : Int) (p0_10 : Int) (p0_11 : Int) (p0_12 : Sl) (p0_13 : Int) (p0_14 : Int) (p0_15 : Int) (p0_16 : Int) (p0_17 : Bool) (p0_18 : Int) (p0_19 : Int) (p0_20 : Int) (p0_21 : Int) (p1 : Int) (p2 : Sl) (p3 : Bool) (w0 : World) (K : (Sl × Sl) → World → Prop) (h : F22 p0_0 p0_1 p0_2 p0_3 p0_4 p0_5 p0_6 p0_7 p0_8 p0_9 p0_10 p0_11 p0_12 p0_13 p0_14 p0_15 p0_16 p0_17 p0_18 p0_19 p0_20 p0_21 p1 p2 p3 w0 K) : callC Tryz.prog 22 #[(V64 p0_0 p0_1 p0_2 p0_3 p0_4 p0_5 p0_6 p0_7 p0_8 p0_9 p0_10 p0_11 p0_12 p0_13 p0_14 p0_15 p0_16 p0_17 p0_18 p0_19 p0_20 p0_21), (Value.int .i64 p1), (Sl.v p2), (Value.bool p3)] (fun (r : Sl × Sl) => (Value.tuple #[(Sl.v r.1), (Sl.v r.2)])) w0 K := by
  unfold F22 at h
  refine calls_of_wpC Tryz.func22 rfl 98 rfl (by simp) ?_
  intro ρ hρ
  have e0 : ρ 0 = (V64 p0_0 p0_1 p0_2 p0_3 p0_4 p0_5 p0_6 p0_7 p0_8 p0_9 p0_10 p0_11 p0_12 p0_13 p0_14 p0_15 p0_16 p0_17 p0_18 p0_19 p0_20 p0_21) := hρ 0
  have e1 : ρ 1 = (Value.int .i64 p1) := hρ 1
  have e2 : ρ 2 = (Sl.v p2) := hρ 2
  have e3 : ρ 3 = (Value.bool p3) := hρ 3
  clear hρ
  refine wpC_seq ?_
  refine wpC_region ?_
  obtain ⟨b9, hb9⟩ : ∃ u, u = w0.heap.size := ⟨_, rfl⟩
  obtain ⟨w1, hw9⟩ : ∃ u, u = w0.alloc (.cells (A64 p0_0 p0_1 p0_2 p0_3 p0_4 p0_5 p0_6 p0_7 p0_8 p0_9 p0_10 p0_11 p0_12 p0_13 p0_14 p0_15 p0_16 p0_17 p0_18 p0_19 p0_20 p0_21) 65) := ⟨_, rfl⟩
  replace h := h b9 w1 hb9 hw9
  refine rv (Value.pointer (some (Addr.mk b9 0 none))) w1 rfl rfl rfl ((x_box (v := (V64 p0_0 p0_1 p0_2 p0_3 p0_4 p0_5 p0_6 p0_7 p0_8 p0_9 p0_10 p0_11 p0_12 p0_13 p0_14 p0_15 p0_16 p0_17 p0_18 p0_19 p0_20 p0_21)) rfl e0).trans (by rw [hb9, hw9]; rfl)) ?_
  refine rv (Sl.v Sl.nil) w1 rfl rfl rfl (x_assign rfl rfl) ?_
  refine rv (Sl.v Sl.nil) w1 rfl rfl rfl (x_assign rfl rfl) ?_
  refine wpR_nil ?_
  refine wpC_seq ?_
  refine wpC_cut (fun ρ => ρ 1 = (Value.int .i64 p1) ∧ ρ 2 = (Sl.v p2) ∧ ρ 3 = (Value.bool p3) ∧ ρ 4 = (Value.pointer (some (Addr.mk b9 0 none))) ∧ True) ⟨e1, e2, e3, rfl, trivial⟩ ?_
  rintro ρ ⟨e1, e2, e3, e4, -⟩
  refine wpC_region ?_
  refine rv (Sl.v p2) w1 rfl rfl rfl (x_move rfl e2) ?_
  refine wpR_enter rfl rfl rfl (x_call (vs := [(Sl.v p2)]) rfl rfl (mapl_cons rfl mapl_nil) Tryz.func42 NN_42 NB_42) (Calls.mono h ?_)
  rintro _ w2 ⟨r10, rfl, h⟩
  refine ⟨_, rfl, ?_⟩
  obtain ⟨b11, hb11⟩ : ∃ u, u = w2.heap.size := ⟨_, rfl⟩
  obtain ⟨w3, hw11⟩ : ∃ u, u = w2.alloc (.cells #[(Sl.v Sl.nil)] 66) := ⟨_, rfl⟩
  replace h := h b11 w3 hb11 hw11
  refine rv (Value.pointer (some (Addr.mk b11 0 none))) w3 rfl rfl rfl ((x_alloc rfl ZV_66).trans (by rw [hb11, hw11]; rfl)) ?_
  obtain ⟨q12, h⟩ := h
  obtain ⟨w4, hw12⟩ : ∃ u, u = setAll w3 (Addr.mk b11 0 none) [(Sl.v r10)] 0 := ⟨_, rfl⟩
  replace h := h w4 hw12
  refine wpR_skp (w' := w4) rfl rfl ((x_store (v := (Sl.v r10)) rfl rfl rfl SZ_66 (ones (by rfl)) q12).trans (by rw [hw12]; rfl)) ?_
  refine wpR_nil ?_
  refine wpC_seq ?_
  refine wpC_seq ?_
  refine wpC_cut (fun ρ => ρ 1 = (Value.int .i64 p1) ∧ ρ 2 = (Sl.v p2) ∧ ρ 3 = (Value.bool p3) ∧ ρ 4 = (Value.pointer (some (Addr.mk b9 0 none))) ∧ ρ 10 = (Value.pointer (some (Addr.mk b11 0 none))) ∧ True) ⟨e1, e2, e3, e4, rfl, trivial⟩ ?_
  rintro ρ ⟨e1, e2, e3, e4, e10, -⟩
  refine wpC_region ?_
  refine rv (Value.bool p3) w4 rfl rfl rfl (x_move rfl e3) ?_
  refine rv (Value.bool (!p3)) w4 rfl rfl rfl (x_not rfl rfl) ?_
  refine rv (Value.bool (!p3)) w4 rfl rfl rfl (x_move rfl rfl) ?_
  obtain ⟨J13, h, hk⟩ := h
  refine wpR_joinJ 4 (fun x ρ => ρ 27 = Value.bool x ∧ ρ 1 = (Value.int .i64 p1) ∧ ρ 2 = (Sl.v p2) ∧ ρ 4 = (Value.pointer (some (Addr.mk b9 0 none))) ∧ ρ 10 = (Value.pointer (some (Addr.mk b11 0 none))) ∧ True) (J13) ?_ ?_
  · clear hk
    rcases Bool.eq_false_or_eq_true (!p3) with hc14 | hc14
    · replace h := h.1 hc14
      refine wpR_pass (wantN rfl rfl rfl hc14) rfl rfl ?_
      refine wpR_pass (wantN rfl rfl rfl hc14) rfl rfl ?_
      refine wpR_pass (wantN rfl rfl rfl hc14) rfl rfl ?_
      refine rv (Value.bool true) w4 rfl rfl rfl (x_pickT (v := (Value.bool true)) rfl rfl hc14 rfl) ?_
      refine wpR_nil ?_
      exact ⟨true, ⟨rfl, e1, e2, e4, e10, trivial⟩, h⟩
    · replace h := h.2 hc14
      obtain ⟨x15, q15, x16, q16, x17, q17, x18, q18, x19, q19, x20, q20, x21, q21, x22, q22, x23, q23, x24, q24, x25, q25, x26, q26, x27, q27, x28, q28, x29, q29, x30, q30, x31, q31, x32, q32, x33, q33, x34, q34, x35, q35, x36, q36, h⟩ := h
      refine wpR_val (v := (V64 x15 x16 x17 x18 x19 x20 x21 x22 x23 x24 x25 x26 x27 x28 x29 x30 x31 x32 x33 x34 x35 x36)) (w' := w4) (wantG rfl rfl rfl hc14) rfl rfl (x_loadN (S64 x15 x16 x17 x18 x19 x20 x21 x22 x23 x24 x25 x26 x27 x28 x29 x30 x31 x32 x33 x34 x35 x36) rfl e4 SH_65 (K64 ⟨q15, q16, q17, q18, q19, q20, q21, q22, q23, q24, q25, q26, q27, q28, q29, q30, q31, q32, q33, q34, q35, q36⟩)) ?_
      refine wpR_enter (wantG rfl rfl rfl hc14) rfl rfl (x_call (vs := [(V64 x15 x16 x17 x18 x19 x20 x21 x22 x23 x24 x25 x26 x27 x28 x29 x30 x31 x32 x33 x34 x35 x36)]) rfl rfl (mapl_cons rfl mapl_nil) Tryz.func47 NN_47 NB_47) (Calls.mono h ?_)
      rintro _ w5 ⟨r37, rfl, h⟩
      refine ⟨_, rfl, ?_⟩
      refine wpR_val (v := (Value.bool (!decide (r37 = 0)))) (w' := w5) (wantG rfl rfl rfl hc14) rfl rfl (x_neq rfl rfl rfl) ?_
      refine rv (Value.bool (!decide (r37 = 0))) w5 rfl rfl rfl (x_pickF (v := (Value.bool (!decide (r37 = 0)))) rfl rfl hc14 rfl) ?_
      refine wpR_nil ?_
      exact ⟨!decide (r37 = 0), ⟨rfl, e1, e2, e4, e10, trivial⟩, h⟩
  clear h
  rintro c38 ρ w6 ⟨e27, e1, e2, e4, e10, -⟩ h
  replace h := hk c38 w6 h
  clear hk
  refine rv (Value.bool c38) w6 rfl rfl rfl (x_move rfl e27) ?_
  obtain ⟨J39, h, hk⟩ := h
  refine wpR_joinJ 4 (fun x ρ => ρ 32 = Value.bool x ∧ ρ 1 = (Value.int .i64 p1) ∧ ρ 4 = (Value.pointer (some (Addr.mk b9 0 none))) ∧ ρ 10 = (Value.pointer (some (Addr.mk b11 0 none))) ∧ True) (J39) ?_ ?_
  · clear hk
    rcases Bool.eq_false_or_eq_true (c38) with hc40 | hc40
    · replace h := h.1 hc40
      refine wpR_pass (wantN rfl rfl rfl hc40) rfl rfl ?_
      refine wpR_pass (wantN rfl rfl rfl hc40) rfl rfl ?_
      refine wpR_pass (wantN rfl rfl rfl hc40) rfl rfl ?_
      refine rv (Value.bool true) w6 rfl rfl rfl (x_pickT (v := (Value.bool true)) rfl rfl hc40 rfl) ?_
      refine wpR_nil ?_
      exact ⟨true, ⟨rfl, e1, e4, e10, trivial⟩, h⟩
    · replace h := h.2 hc40
      refine wpR_val (v := (Sl.v p2)) (w' := w6) (wantG rfl rfl rfl hc40) rfl rfl (x_move rfl e2) ?_
      refine wpR_enter (wantG rfl rfl rfl hc40) rfl rfl (x_call (vs := [(Sl.v p2)]) rfl rfl (mapl_cons rfl mapl_nil) Tryz.func43 NN_43 NB_43) (Calls.mono h ?_)
      rintro _ w7 ⟨r41, rfl, h⟩
      refine ⟨_, rfl, ?_⟩
      refine wpR_val (v := (Value.bool (!r41))) (w' := w7) (wantG rfl rfl rfl hc40) rfl rfl (x_not rfl rfl) ?_
      refine rv (Value.bool (!r41)) w7 rfl rfl rfl (x_pickF (v := (Value.bool (!r41))) rfl rfl hc40 rfl) ?_
      refine wpR_nil ?_
      exact ⟨!r41, ⟨rfl, e1, e4, e10, trivial⟩, h⟩
  clear h
  rintro c42 ρ w8 ⟨e32, e1, e4, e10, -⟩ h
  replace h := hk c42 w8 h
  clear hk
  refine wpR_nil ?_
  refine wpC_cond (b := c42) e32 (fun hc43 => ?_) (fun hc43 => ?_)
  · replace h := h.1 hc43
    refine wpC_seq ?_
    obtain ⟨J45, h, hk⟩ := h
    refine wpC_drawJ (by kernel_rfl) (fun (x : Sl × Sl) ρ => ρ 8 = (Sl.v x.1) ∧ ρ 9 = (Sl.v x.2) ∧ True) J45 ?_ ?_
    · clear hk
      unfold tk at h
      generalize w8.drew = w9 at h ⊢
      obtain ⟨x46, q46, h⟩ := h
      refine wpD_take (v := (Sl.v x46)) 0 (fun w => w.cell? (Addr.mk b11 0 none) = some (Sl.v x46)) rfl (by kernel_rfl) (by kernel_rfl) (by kernel_rfl) rfl rfl rfl q46 (fun w q46 => (x_load1 rfl e10 SH_66 q46)) ?_
      refine wpD_take (v := (Sl.v Sl.nil)) 1 (fun _ => True) rfl (by kernel_rfl) (by kernel_rfl) (by kernel_rfl) rfl rfl rfl trivial (fun w _ => (x_assign (v := (Sl.v Sl.nil)) rfl rfl)) ?_
      refine wpD_take (v := (Sl.v x46)) 2 (fun _ => True) rfl (by kernel_rfl) (by kernel_rfl) (by kernel_rfl) rfl rfl rfl trivial (fun w _ => (x_assign (v := (Sl.v x46)) rfl rfl)) ?_
      exact wpD_done (by kernel_rfl) ⟨(Sl.nil, x46), ⟨rfl, rfl, trivial⟩, h⟩
    clear h
    rintro l47 ρ w10 ⟨e8, e9, -⟩ h
    replace h := hk l47 w10 h
    clear hk
    refine wpC_ret ?_
    exact ⟨.inl rfl, fun a ha => ⟨_, results_rep2 rfl ha e8 e9, (l47.1, l47.2), rfl, h⟩⟩
  · replace h := h.2 hc43
    refine wpC_skip ?_
    refine wpC_seq ?_
    refine wpC_region ?_
    refine rv (Sl.v Sl.nil) w8 rfl rfl rfl (x_assign rfl rfl) ?_
    refine wpR_nil ?_
    refine wpC_seq ?_
    refine wpC_seq ?_
    refine wpC_cut (fun ρ => ρ 1 = (Value.int .i64 p1) ∧ ρ 4 = (Value.pointer (some (Addr.mk b9 0 none))) ∧ ρ 10 = (Value.pointer (some (Addr.mk b11 0 none))) ∧ ρ 11 = (Sl.v Sl.nil) ∧ True) ⟨e1, e4, e10, rfl, trivial⟩ ?_
    rintro ρ ⟨e1, e4, e10, e11, -⟩
    refine wpC_region ?_
    obtain ⟨x48, q48, h⟩ := h
    refine rv (Sl.v x48) w8 rfl rfl rfl (x_load1 rfl e10 SH_66 q48) ?_
    refine rv (Value.int .i64 (x48.len : Int)) w8 rfl rfl rfl (x_lenS (s := x48) rfl rfl isSliceT_66) ?_
    refine rv (Value.int .i64 0) w8 rfl rfl rfl (x_move rfl rfl) ?_
    refine wpR_nil ?_
    refine wpC_block ?_
    obtain ⟨I49, μ49, hI49, hr49⟩ := h
    refine wpC_loop (fun (x : Sl × Int) ρ => ρ 11 = (Sl.v x.1) ∧ ρ 36 = (Value.int .i64 x.2) ∧ ρ 1 = (Value.int .i64 p1) ∧ ρ 4 = (Value.pointer (some (Addr.mk b9 0 none))) ∧ ρ 10 = (Value.pointer (some (Addr.mk b11 0 none))) ∧ ρ 34 = (Sl.v x48) ∧ ρ 35 = (Value.int .i64 (x48.len : Int)) ∧ True) I49 μ49 (Sl.nil, 0) ⟨e11, rfl, e1, e4, e10, rfl, rfl, trivial⟩ hI49 ?_
    rintro l49 ρ w11 ⟨e11, e36, e1, e4, e10, e34, e35, -⟩ h
    replace h := hr49 l49 w11 h
    clear hr49 hI49
    refine wpC_seq ?_
    refine wpC_region ?_
    refine rv (Value.bool (decide (l49.2 < (x48.len : Int)))) w11 rfl rfl rfl (x_lss rfl e36 e35) ?_
    refine wpR_nil ?_
    refine wpC_seq ?_
    refine wpC_cond (b := decide (l49.2 < (x48.len : Int))) rfl (fun hc50 => ?_) (fun hc50 => ?_)
    · replace h := h.1 hc50
      refine wpC_skip ?_
      obtain ⟨J51, h, hk⟩ := h
      refine wpC_seqJ (fun (x : Sl) ρ => ρ 11 = (Sl.v x) ∧ ρ 1 = (Value.int .i64 p1) ∧ ρ 4 = (Value.pointer (some (Addr.mk b9 0 none))) ∧ ρ 10 = (Value.pointer (some (Addr.mk b11 0 none))) ∧ ρ 34 = (Sl.v x48) ∧ ρ 35 = (Value.int .i64 (x48.len : Int)) ∧ ρ 36 = (Value.int .i64 l49.2) ∧ True) J51 ?_ ?_
      · clear hk
        refine wpC_block ?_
        refine wpC_seq ?_
        refine wpC_cut (fun ρ => ρ 1 = (Value.int .i64 p1) ∧ ρ 4 = (Value.pointer (some (Addr.mk b9 0 none))) ∧ ρ 10 = (Value.pointer (some (Addr.mk b11 0 none))) ∧ ρ 11 = (Sl.v l49.1) ∧ ρ 34 = (Sl.v x48) ∧ ρ 35 = (Value.int .i64 (x48.len : Int)) ∧ ρ 36 = (Value.int .i64 l49.2) ∧ True) ⟨e1, e4, e10, e11, e34, e35, e36, trivial⟩ ?_
        rintro ρ ⟨e1, e4, e10, e11, e34, e35, e36, -⟩
        refine wpC_region ?_
        refine rv (Value.int .i64 l49.2) w11 rfl rfl rfl (x_move rfl e36) ?_
        obtain ⟨q53, z53, r53, h⟩ := h
        generalize hp53 : z53.add ((l49.2 : Int).toNat * 4) = p53 at h
        refine rv (Value.pointer (some p53)) w11 rfl rfl rfl ((x_indexAddr (s := x48) rfl e34 e36 ES_66 q53 r53).trans (by rw [hp53])) ?_
        obtain ⟨x54, q54, x55, q55, x56, q56, x57, q57, h⟩ := h
        refine rv (Value.agg #[(Value.int .i64 x54), (Value.int .i64 x55), (Value.int .i64 x56), (Value.int .i64 x57)]) w11 rfl rfl rfl (x_loadN [(Value.int .i64 x54), (Value.int .i64 x55), (Value.int .i64 x56), (Value.int .i64 x57)] rfl rfl SH_70 (CellsAt.out (CellsAt.cons q54 (CellsAt.cons q55 (CellsAt.cons q56 (CellsAt.cons q57 CellsAt.nil)))))) ?_
        obtain ⟨b58, hb58⟩ : ∃ u, u = w11.heap.size := ⟨_, rfl⟩
        obtain ⟨w13, hw58⟩ : ∃ u, u = w11.alloc (.cells #[(Value.int .i64 0), (Value.int .i64 0), (Value.int .i64 0), (Value.int .i64 0)] 70) := ⟨_, rfl⟩
        replace h := h b58 w13 hb58 hw58
        refine rv (Value.pointer (some (Addr.mk b58 0 none))) w13 rfl rfl rfl ((x_alloc rfl ZV_70).trans (by rw [hb58, hw58]; rfl)) ?_
        refine rv (Value.int .i64 l49.2) w13 rfl rfl rfl (x_assign rfl rfl) ?_
        obtain ⟨q59, h⟩ := h
        obtain ⟨w14, hw59⟩ : ∃ u, u = setAll w13 (Addr.mk b58 0 none) [(Value.int .i64 x54), (Value.int .i64 x55), (Value.int .i64 x56), (Value.int .i64 x57)] 0 := ⟨_, rfl⟩
        replace h := h w14 hw59
        refine wpR_skp (w' := w14) rfl rfl ((x_store (v := (Value.agg #[(Value.int .i64 x54), (Value.int .i64 x55), (Value.int .i64 x56), (Value.int .i64 x57)])) rfl rfl rfl SZ_70 (ones (by rfl)) q59).trans (by rw [hw59]; rfl)) ?_
        refine wpR_nil ?_
        refine wpC_seq ?_
        refine wpC_cut (fun ρ => ρ 1 = (Value.int .i64 p1) ∧ ρ 4 = (Value.pointer (some (Addr.mk b9 0 none))) ∧ ρ 10 = (Value.pointer (some (Addr.mk b11 0 none))) ∧ ρ 11 = (Sl.v l49.1) ∧ ρ 12 = (Value.int .i64 l49.2) ∧ ρ 13 = (Value.pointer (some (Addr.mk b58 0 none))) ∧ ρ 34 = (Sl.v x48) ∧ ρ 35 = (Value.int .i64 (x48.len : Int)) ∧ ρ 36 = (Value.int .i64 l49.2) ∧ True) ⟨e1, e4, e10, e11, rfl, rfl, e34, e35, e36, trivial⟩ ?_
        rintro ρ ⟨e1, e4, e10, e11, e12, e13, e34, e35, e36, -⟩
        refine wpC_region ?_
        refine rv (Value.pointer (some ((Addr.mk b58 0 none).add 1))) w14 rfl rfl rfl (x_fieldAddr rfl e13 FA_70_1) ?_
        obtain ⟨x60, q60, h⟩ := h
        refine rv (Value.int .i64 x60) w14 rfl rfl rfl (x_load1 rfl rfl SH_3 q60) ?_
        refine rv (Value.int .i64 p1) w14 rfl rfl rfl (x_move rfl e1) ?_
        refine rv (Value.bool (decide (x60 = p1))) w14 rfl rfl rfl (x_eql rfl rfl rfl) ?_
        refine wpR_nil ?_
        refine wpC_cond (b := decide (x60 = p1)) rfl (fun hc61 => ?_) (fun hc61 => ?_)
        · replace h := h.1 hc61
          refine wpC_cut (fun ρ => ρ 1 = (Value.int .i64 p1) ∧ ρ 4 = (Value.pointer (some (Addr.mk b9 0 none))) ∧ ρ 10 = (Value.pointer (some (Addr.mk b11 0 none))) ∧ ρ 11 = (Sl.v l49.1) ∧ ρ 12 = (Value.int .i64 l49.2) ∧ ρ 34 = (Sl.v x48) ∧ ρ 35 = (Value.int .i64 (x48.len : Int)) ∧ ρ 36 = (Value.int .i64 l49.2) ∧ True) ⟨e1, e4, e10, e11, e12, e34, e35, e36, trivial⟩ ?_
          rintro ρ ⟨e1, e4, e10, e11, e12, e34, e35, e36, -⟩
          refine wpC_region ?_
          refine rv (Sl.v l49.1) w14 rfl rfl rfl (x_move rfl e11) ?_
          refine rv (Value.int .i64 l49.2) w14 rfl rfl rfl (x_move rfl e12) ?_
          obtain ⟨b62, hb62⟩ : ∃ u, u = w14.heap.size := ⟨_, rfl⟩
          obtain ⟨w15, hw62⟩ : ∃ u, u = w14.alloc (.cells #[(Value.int .i64 l49.2)] 3) := ⟨_, rfl⟩
          replace h := h b62 w15 hb62 hw62
          refine rv (Sl.v (⟨some ⟨b62, 0, none⟩, 1, 1⟩ : Sl)) w15 rfl rfl rfl ((x_buildSlice (qs := [(0, (Value.int .i64 l49.2))]) rfl (by rfl) (BS_39_1_0 l49.2)).trans (by rw [← hb62, ← hw62])) ?_
          obtain ⟨r63, w16, q63, h⟩ := h
          refine rv (Sl.v r63) w16 rfl rfl rfl (x_append (s := l49.1) (u := (⟨some ⟨b62, 0, none⟩, 1, 1⟩ : Sl)) rfl rfl rfl rfl q63) ?_
          refine rv (Sl.v r63) w16 rfl rfl rfl (x_assign rfl rfl) ?_
          refine wpR_nil ?_
          exact ⟨r63, ⟨rfl, e1, e4, e10, e34, e35, e36, trivial⟩, h⟩
        · replace h := h.2 hc61
          refine wpC_skip ?_
          exact ⟨l49.1, ⟨e11, e1, e4, e10, e34, e35, e36, trivial⟩, h⟩
      clear h
      rintro l52 ρ w12 ⟨e11, e1, e4, e10, e34, e35, e36, -⟩ h
      replace h := hk l52 w12 h
      clear hk
      refine wpC_region ?_
      refine rv (Value.int .i64 (IntKind.i64.wrap (l49.2 + 1))) w12 rfl rfl rfl (x_add rfl e36 rfl) ?_
      refine rv (Value.int .i64 (IntKind.i64.wrap (l49.2 + 1))) w12 rfl rfl rfl (x_move rfl rfl) ?_
      refine wpR_nil ?_
      exact ⟨(l52, IntKind.i64.wrap (l49.2 + 1)), ⟨e11, rfl, e1, e4, e10, e34, e35, trivial⟩, h⟩
    · replace h := h.2 hc50
      refine wpC_exit ?_
      refine wpC_seq ?_
      refine wpC_cut (fun ρ => ρ 4 = (Value.pointer (some (Addr.mk b9 0 none))) ∧ ρ 10 = (Value.pointer (some (Addr.mk b11 0 none))) ∧ ρ 11 = (Sl.v l49.1) ∧ True) ⟨e4, e10, e11, trivial⟩ ?_
      rintro ρ ⟨e4, e10, e11, -⟩
      refine wpC_region ?_
      refine rv (Sl.v l49.1) w11 rfl rfl rfl (x_move rfl e11) ?_
      refine rv (Value.func (.func 49) #[] (List.toArray [(Value.pointer (some (Addr.mk b11 0 none)))])) w11 rfl rfl rfl (x_makeFunc (vs := [(Value.pointer (some (Addr.mk b11 0 none)))]) rfl (mapl_cons e10 mapl_nil)) ?_
      refine wpR_enter rfl rfl rfl (x_call (vs := [(Sl.v l49.1), (Value.func (.func 49) #[] (List.toArray [(Value.pointer (some (Addr.mk b11 0 none)))]))]) rfl rfl (mapl_cons rfl (mapl_cons rfl mapl_nil)) Tryz.func48 NN_48 NB_48) (Calls.mono h ?_)
      rintro _ w17 ⟨r64, rfl, h⟩
      refine ⟨_, rfl, ?_⟩
      refine wpR_nil ?_
      refine wpC_seq ?_
      refine wpC_cut (fun ρ => ρ 4 = (Value.pointer (some (Addr.mk b9 0 none))) ∧ ρ 10 = (Value.pointer (some (Addr.mk b11 0 none))) ∧ ρ 11 = (Sl.v l49.1) ∧ True) ⟨e4, e10, e11, trivial⟩ ?_
      rintro ρ ⟨e4, e10, e11, -⟩
      refine wpC_region ?_
      refine rv (Sl.v Sl.nil) w17 rfl rfl rfl (x_assign rfl rfl) ?_
      refine wpR_nil ?_
      refine wpC_seq ?_
      refine wpC_cut (fun ρ => ρ 4 = (Value.pointer (some (Addr.mk b9 0 none))) ∧ ρ 10 = (Value.pointer (some (Addr.mk b11 0 none))) ∧ ρ 11 = (Sl.v l49.1) ∧ ρ 14 = (Sl.v Sl.nil) ∧ True) ⟨e4, e10, e11, rfl, trivial⟩ ?_
      rintro ρ ⟨e4, e10, e11, e14, -⟩
      refine wpC_region ?_
      refine rv (Value.pointer (some ((Addr.mk b9 0 none).add 18))) w17 rfl rfl rfl (x_fieldAddr rfl e4 FA_65_18) ?_
      obtain ⟨x65, q65, h⟩ := h
      refine rv (Value.int .i64 x65) w17 rfl rfl rfl (x_load1 rfl rfl SH_3 q65) ?_
      refine rv (Value.int .i64 x65) w17 rfl rfl rfl (x_assign rfl rfl) ?_
      refine wpR_nil ?_
      refine wpC_seq ?_
      refine wpC_seq ?_
      refine wpC_cut (fun ρ => ρ 10 = (Value.pointer (some (Addr.mk b11 0 none))) ∧ ρ 11 = (Sl.v l49.1) ∧ ρ 14 = (Sl.v Sl.nil) ∧ ρ 15 = (Value.int .i64 x65) ∧ True) ⟨e10, e11, e14, rfl, trivial⟩ ?_
      rintro ρ ⟨e10, e11, e14, e15, -⟩
      refine wpC_region ?_
      refine rv (Sl.v l49.1) w17 rfl rfl rfl (x_move rfl e11) ?_
      refine rv (Value.int .i64 (l49.1.len : Int)) w17 rfl rfl rfl (x_lenS (s := l49.1) rfl rfl isSliceT_39) ?_
      refine rv (Value.int .i64 0) w17 rfl rfl rfl (x_move rfl rfl) ?_
      refine wpR_nil ?_
      refine wpC_block ?_
      obtain ⟨I66, μ66, hI66, hr66⟩ := h
      refine wpC_loop (fun (x : Sl × Int × Int) ρ => ρ 14 = (Sl.v x.1) ∧ ρ 15 = (Value.int .i64 x.2.1) ∧ ρ 57 = (Value.int .i64 x.2.2) ∧ ρ 10 = (Value.pointer (some (Addr.mk b11 0 none))) ∧ ρ 55 = (Sl.v l49.1) ∧ ρ 56 = (Value.int .i64 (l49.1.len : Int)) ∧ True) I66 μ66 (Sl.nil, x65, 0) ⟨e14, e15, rfl, e10, rfl, rfl, trivial⟩ hI66 ?_
      rintro l66 ρ w18 ⟨e14, e15, e57, e10, e55, e56, -⟩ h
      replace h := hr66 l66 w18 h
      clear hr66 hI66
      refine wpC_seq ?_
      refine wpC_region ?_
      refine rv (Value.bool (decide (l66.2.2 < (l49.1.len : Int)))) w18 rfl rfl rfl (x_lss rfl e57 e56) ?_
      refine wpR_nil ?_
      refine wpC_seq ?_
      refine wpC_cond (b := decide (l66.2.2 < (l49.1.len : Int))) rfl (fun hc67 => ?_) (fun hc67 => ?_)
      · replace h := h.1 hc67
        refine wpC_skip ?_
        obtain ⟨J68, h, hk⟩ := h
        refine wpC_seqJ (fun (x : Sl × Int) ρ => ρ 14 = (Sl.v x.1) ∧ ρ 15 = (Value.int .i64 x.2) ∧ ρ 10 = (Value.pointer (some (Addr.mk b11 0 none))) ∧ ρ 55 = (Sl.v l49.1) ∧ ρ 56 = (Value.int .i64 (l49.1.len : Int)) ∧ ρ 57 = (Value.int .i64 l66.2.2) ∧ True) J68 ?_ ?_
        · clear hk
          refine wpC_block ?_
          refine wpC_seq ?_
          refine wpC_cut (fun ρ => ρ 10 = (Value.pointer (some (Addr.mk b11 0 none))) ∧ ρ 14 = (Sl.v l66.1) ∧ ρ 15 = (Value.int .i64 l66.2.1) ∧ ρ 55 = (Sl.v l49.1) ∧ ρ 56 = (Value.int .i64 (l49.1.len : Int)) ∧ ρ 57 = (Value.int .i64 l66.2.2) ∧ True) ⟨e10, e14, e15, e55, e56, e57, trivial⟩ ?_
          rintro ρ ⟨e10, e14, e15, e55, e56, e57, -⟩
          refine wpC_region ?_
          obtain ⟨q70, z70, r70, h⟩ := h
          generalize hp70 : z70.add ((l66.2.2 : Int).toNat * 1) = p70 at h
          refine rv (Value.pointer (some p70)) w18 rfl rfl rfl ((x_indexAddr (s := l49.1) rfl e55 e57 ES_39 q70 r70).trans (by rw [hp70])) ?_
          obtain ⟨x71, q71, h⟩ := h
          refine rv (Value.int .i64 x71) w18 rfl rfl rfl (x_load1 rfl rfl SH_3 q71) ?_
          refine rv (Value.int .i64 x71) w18 rfl rfl rfl (x_assign rfl rfl) ?_
          refine wpR_nil ?_
          refine wpC_seq ?_
          refine wpC_cut (fun ρ => ρ 10 = (Value.pointer (some (Addr.mk b11 0 none))) ∧ ρ 14 = (Sl.v l66.1) ∧ ρ 15 = (Value.int .i64 l66.2.1) ∧ ρ 17 = (Value.int .i64 x71) ∧ ρ 55 = (Sl.v l49.1) ∧ ρ 56 = (Value.int .i64 (l49.1.len : Int)) ∧ ρ 57 = (Value.int .i64 l66.2.2) ∧ True) ⟨e10, e14, e15, rfl, e55, e56, e57, trivial⟩ ?_
          rintro ρ ⟨e10, e14, e15, e17, e55, e56, e57, -⟩
          refine wpC_region ?_
          refine rv (Value.int .i64 l66.2.1) w18 rfl rfl rfl (x_move rfl e15) ?_
          obtain ⟨x72, q72, h⟩ := h
          refine rv (Sl.v x72) w18 rfl rfl rfl (x_load1 rfl e10 SH_66 q72) ?_
          refine rv (Value.int .i64 x71) w18 rfl rfl rfl (x_move rfl e17) ?_
          obtain ⟨q73, z73, r73, h⟩ := h
          generalize hp73 : z73.add ((x71 : Int).toNat * 4) = p73 at h
          refine rv (Value.pointer (some p73)) w18 rfl rfl rfl ((x_indexAddr (s := x72) rfl rfl rfl ES_66 q73 r73).trans (by rw [hp73])) ?_
          refine rv (Value.pointer (some (p73.add 2))) w18 rfl rfl rfl (x_fieldAddr rfl rfl FA_70_2) ?_
          obtain ⟨x74, q74, h⟩ := h
          refine rv (Value.int .i64 x74) w18 rfl rfl rfl (x_load1 rfl rfl SH_3 q74) ?_
          refine rv (Value.int .i64 (min l66.2.1 x74)) w18 rfl rfl rfl (x_min rfl rfl rfl) ?_
          refine rv (Value.int .i64 (min l66.2.1 x74)) w18 rfl rfl rfl (x_assign rfl rfl) ?_
          refine wpR_nil ?_
          refine wpC_seq ?_
          refine wpC_cut (fun ρ => ρ 10 = (Value.pointer (some (Addr.mk b11 0 none))) ∧ ρ 14 = (Sl.v l66.1) ∧ ρ 15 = (Value.int .i64 l66.2.1) ∧ ρ 17 = (Value.int .i64 x71) ∧ ρ 18 = (Value.int .i64 (min l66.2.1 x74)) ∧ ρ 55 = (Sl.v l49.1) ∧ ρ 56 = (Value.int .i64 (l49.1.len : Int)) ∧ ρ 57 = (Value.int .i64 l66.2.2) ∧ True) ⟨e10, e14, e15, e17, rfl, e55, e56, e57, trivial⟩ ?_
          rintro ρ ⟨e10, e14, e15, e17, e18, e55, e56, e57, -⟩
          refine wpC_region ?_
          obtain ⟨x75, q75, h⟩ := h
          refine rv (Sl.v x75) w18 rfl rfl rfl (x_load1 rfl e10 SH_66 q75) ?_
          refine rv (Value.int .i64 x71) w18 rfl rfl rfl (x_move rfl e17) ?_
          obtain ⟨q76, z76, r76, h⟩ := h
          generalize hp76 : z76.add ((x71 : Int).toNat * 4) = p76 at h
          refine rv (Value.pointer (some p76)) w18 rfl rfl rfl ((x_indexAddr (s := x75) rfl rfl rfl ES_66 q76 r76).trans (by rw [hp76])) ?_
          refine rv (Value.pointer (some (p76.add 2))) w18 rfl rfl rfl (x_fieldAddr rfl rfl FA_70_2) ?_
          obtain ⟨x77, q77, h⟩ := h
          refine rv (Value.int .i64 x77) w18 rfl rfl rfl (x_load1 rfl rfl SH_3 q77) ?_
          refine rv (Value.int .i64 (min l66.2.1 x74)) w18 rfl rfl rfl (x_move rfl e18) ?_
          refine rv (Value.int .i64 (IntKind.i64.wrap (x77 - (min l66.2.1 x74)))) w18 rfl rfl rfl (x_sub rfl rfl rfl) ?_
          obtain ⟨q78, z78, r78, h⟩ := h
          generalize hp78 : z78.add ((x71 : Int).toNat * 4) = p78 at h
          refine rv (Value.pointer (some p78)) w18 rfl rfl rfl ((x_indexAddr (s := x75) rfl rfl rfl ES_66 q78 r78).trans (by rw [hp78])) ?_
          refine rv (Value.pointer (some (p78.add 2))) w18 rfl rfl rfl (x_fieldAddr rfl rfl FA_70_2) ?_
          obtain ⟨q79, h⟩ := h
          obtain ⟨w20, hw79⟩ : ∃ u, u = setAll w18 (p78.add 2) [(Value.int .i64 (IntKind.i64.wrap (x77 - (min l66.2.1 x74))))] 0 := ⟨_, rfl⟩
          replace h := h w20 hw79
          refine wpR_skp (w' := w20) rfl rfl ((x_store (v := (Value.int .i64 (IntKind.i64.wrap (x77 - (min l66.2.1 x74))))) rfl rfl rfl SZ_3 (ones (by rfl)) q79).trans (by rw [hw79]; rfl)) ?_
          refine wpR_nil ?_
          refine wpC_seq ?_
          refine wpC_cut (fun ρ => ρ 10 = (Value.pointer (some (Addr.mk b11 0 none))) ∧ ρ 14 = (Sl.v l66.1) ∧ ρ 15 = (Value.int .i64 l66.2.1) ∧ ρ 17 = (Value.int .i64 x71) ∧ ρ 18 = (Value.int .i64 (min l66.2.1 x74)) ∧ ρ 55 = (Sl.v l49.1) ∧ ρ 56 = (Value.int .i64 (l49.1.len : Int)) ∧ ρ 57 = (Value.int .i64 l66.2.2) ∧ True) ⟨e10, e14, e15, e17, e18, e55, e56, e57, trivial⟩ ?_
          rintro ρ ⟨e10, e14, e15, e17, e18, e55, e56, e57, -⟩
          refine wpC_region ?_
          refine rv (Value.int .i64 l66.2.1) w20 rfl rfl rfl (x_move rfl e15) ?_
          refine rv (Value.int .i64 (min l66.2.1 x74)) w20 rfl rfl rfl (x_move rfl e18) ?_
          refine rv (Value.int .i64 (IntKind.i64.wrap (l66.2.1 - (min l66.2.1 x74)))) w20 rfl rfl rfl (x_sub rfl rfl rfl) ?_
          refine rv (Value.int .i64 (IntKind.i64.wrap (l66.2.1 - (min l66.2.1 x74)))) w20 rfl rfl rfl (x_assign rfl rfl) ?_
          refine wpR_nil ?_
          refine wpC_seq ?_
          refine wpC_cut (fun ρ => ρ 10 = (Value.pointer (some (Addr.mk b11 0 none))) ∧ ρ 14 = (Sl.v l66.1) ∧ ρ 15 = (Value.int .i64 (IntKind.i64.wrap (l66.2.1 - (min l66.2.1 x74)))) ∧ ρ 17 = (Value.int .i64 x71) ∧ ρ 55 = (Sl.v l49.1) ∧ ρ 56 = (Value.int .i64 (l49.1.len : Int)) ∧ ρ 57 = (Value.int .i64 l66.2.2) ∧ True) ⟨e10, e14, rfl, e17, e55, e56, e57, trivial⟩ ?_
          rintro ρ ⟨e10, e14, e15, e17, e55, e56, e57, -⟩
          refine wpC_region ?_
          obtain ⟨x80, q80, h⟩ := h
          refine rv (Sl.v x80) w20 rfl rfl rfl (x_load1 rfl e10 SH_66 q80) ?_
          refine rv (Value.int .i64 x71) w20 rfl rfl rfl (x_move rfl e17) ?_
          obtain ⟨q81, z81, r81, h⟩ := h
          generalize hp81 : z81.add ((x71 : Int).toNat * 4) = p81 at h
          refine rv (Value.pointer (some p81)) w20 rfl rfl rfl ((x_indexAddr (s := x80) rfl rfl rfl ES_66 q81 r81).trans (by rw [hp81])) ?_
          refine rv (Value.pointer (some (p81.add 2))) w20 rfl rfl rfl (x_fieldAddr rfl rfl FA_70_2) ?_
          obtain ⟨x82, q82, h⟩ := h
          refine rv (Value.int .i64 x82) w20 rfl rfl rfl (x_load1 rfl rfl SH_3 q82) ?_
          refine rv (Value.bool (decide (x82 = 0))) w20 rfl rfl rfl (x_eql rfl rfl rfl) ?_
          refine wpR_nil ?_
          refine wpC_cond (b := decide (x82 = 0)) rfl (fun hc83 => ?_) (fun hc83 => ?_)
          · replace h := h.1 hc83
            refine wpC_cut (fun ρ => ρ 10 = (Value.pointer (some (Addr.mk b11 0 none))) ∧ ρ 14 = (Sl.v l66.1) ∧ ρ 15 = (Value.int .i64 (IntKind.i64.wrap (l66.2.1 - (min l66.2.1 x74)))) ∧ ρ 17 = (Value.int .i64 x71) ∧ ρ 55 = (Sl.v l49.1) ∧ ρ 56 = (Value.int .i64 (l49.1.len : Int)) ∧ ρ 57 = (Value.int .i64 l66.2.2) ∧ True) ⟨e10, e14, e15, e17, e55, e56, e57, trivial⟩ ?_
            rintro ρ ⟨e10, e14, e15, e17, e55, e56, e57, -⟩
            refine wpC_region ?_
            refine rv (Sl.v l66.1) w20 rfl rfl rfl (x_move rfl e14) ?_
            obtain ⟨x84, q84, h⟩ := h
            refine rv (Sl.v x84) w20 rfl rfl rfl (x_load1 rfl e10 SH_66 q84) ?_
            refine rv (Value.int .i64 x71) w20 rfl rfl rfl (x_move rfl e17) ?_
            obtain ⟨q85, z85, r85, h⟩ := h
            generalize hp85 : z85.add ((x71 : Int).toNat * 4) = p85 at h
            refine rv (Value.pointer (some p85)) w20 rfl rfl rfl ((x_indexAddr (s := x84) rfl rfl rfl ES_66 q85 r85).trans (by rw [hp85])) ?_
            refine rv (Value.pointer (some (p85.add 0))) w20 rfl rfl rfl (x_fieldAddr rfl rfl FA_70_0) ?_
            obtain ⟨x86, q86, h⟩ := h
            refine rv (Value.int .i64 x86) w20 rfl rfl rfl (x_load1 rfl rfl SH_3 q86) ?_
            obtain ⟨b87, hb87⟩ : ∃ u, u = w20.heap.size := ⟨_, rfl⟩
            obtain ⟨w21, hw87⟩ : ∃ u, u = w20.alloc (.cells #[(Value.int .i64 x86)] 3) := ⟨_, rfl⟩
            replace h := h b87 w21 hb87 hw87
            refine rv (Sl.v (⟨some ⟨b87, 0, none⟩, 1, 1⟩ : Sl)) w21 rfl rfl rfl ((x_buildSlice (qs := [(0, (Value.int .i64 x86))]) rfl (by rfl) (BS_39_1_0 x86)).trans (by rw [← hb87, ← hw87])) ?_
            obtain ⟨r88, w22, q88, h⟩ := h
            refine rv (Sl.v r88) w22 rfl rfl rfl (x_append (s := l66.1) (u := (⟨some ⟨b87, 0, none⟩, 1, 1⟩ : Sl)) rfl rfl rfl rfl q88) ?_
            refine rv (Sl.v r88) w22 rfl rfl rfl (x_assign rfl rfl) ?_
            refine wpR_nil ?_
            exact ⟨(r88, IntKind.i64.wrap (l66.2.1 - (min l66.2.1 x74))), ⟨rfl, e15, e10, e55, e56, e57, trivial⟩, h⟩
          · replace h := h.2 hc83
            refine wpC_skip ?_
            exact ⟨(l66.1, IntKind.i64.wrap (l66.2.1 - (min l66.2.1 x74))), ⟨e14, e15, e10, e55, e56, e57, trivial⟩, h⟩
        clear h
        rintro l69 ρ w19 ⟨e14, e15, e10, e55, e56, e57, -⟩ h
        replace h := hk l69 w19 h
        clear hk
        refine wpC_region ?_
        refine rv (Value.int .i64 (IntKind.i64.wrap (l66.2.2 + 1))) w19 rfl rfl rfl (x_add rfl e57 rfl) ?_
        refine rv (Value.int .i64 (IntKind.i64.wrap (l66.2.2 + 1))) w19 rfl rfl rfl (x_move rfl rfl) ?_
        refine wpR_nil ?_
        exact ⟨(l69.1, l69.2, IntKind.i64.wrap (l66.2.2 + 1)), ⟨e14, e15, rfl, e10, e55, e56, trivial⟩, h⟩
      · replace h := h.2 hc67
        refine wpC_exit ?_
        refine wpC_seq ?_
        refine wpC_cut (fun ρ => ρ 10 = (Value.pointer (some (Addr.mk b11 0 none))) ∧ ρ 14 = (Sl.v l66.1) ∧ True) ⟨e10, e14, trivial⟩ ?_
        rintro ρ ⟨e10, e14, -⟩
        refine wpC_region ?_
        refine rv (Sl.v l66.1) w18 rfl rfl rfl (x_move rfl e14) ?_
        obtain ⟨x89, q89, h⟩ := h
        refine rv (Sl.v x89) w18 rfl rfl rfl (x_load1 rfl e10 SH_66 q89) ?_
        refine wpR_enter rfl rfl rfl (x_call (vs := [(Sl.v x89), (Value.func (.func 53) #[] #[])]) rfl rfl (mapl_cons rfl (mapl_cons rfl mapl_nil)) Tryz.func52 NN_52 NB_52) (Calls.mono h ?_)
        rintro _ w23 ⟨r90, rfl, h⟩
        refine ⟨_, rfl, ?_⟩
        refine rv (Sl.v l66.1) w23 rfl rfl rfl (x_assign rfl rfl) ?_
        refine rv (Sl.v r90) w23 rfl rfl rfl (x_assign rfl rfl) ?_
        refine wpR_nil ?_
        refine wpC_ret ?_
        exact ⟨.inl rfl, fun a ha => ⟨_, results_rep2 rfl ha rfl rfl, (l66.1, r90), rfl, h⟩⟩

/-- (*link.Receiver).Take -/
def F23 (p0 : Option Addr) (p1 : Int) (w0 : World) (K : (Sl × Int) → World → Prop) : Prop :=
  jn (fun (J10 : Bool → World → Prop) => tk w0 fun w1 =>
    nn p0 fun a11 =>
    ld (Value.int .i64) (a11.add 1) w1 fun x12 =>
    cnd (decide (p1 < x12))
      (
      J10 true w1
      )
      (
      nn p0 fun a14 =>
      ld (Value.int .i64) (a14.add 1) w1 fun x15 =>
      nn p0 fun a16 =>
      ld (Value.int .i64) (a16.add 0) w1 fun x17 =>
      J10 (decide ((IntKind.i64.wrap (x15 + x17)) ≤ p1)) w1
      )
  )
  fun l18 w2 =>
  cnd (l18)
    (
    jn (fun (J21 : (Sl × Int) → World → Prop) => tk w2 fun w3 =>
      nn p0 fun a22 =>
      ld (Value.int .i64) (a22.add 1) w3 fun x23 =>
      J21 (Sl.nil, x23) w3
    )
    fun l24 w4 =>
    K (l24.1, l24.2) w4
    )
    (
    nn p0 fun a25 =>
    ld Value.map (a25.add 2) w2 fun x26 =>
    rn0 Tryz.prog (Instr.mapUpdate 78 (Value.map x26) (Value.int .i64 p1) (Value.bool true)) w2 fun w5 =>
    lp (fun (next28 : Sl → World → Prop) l28 w6 =>
      jn (fun (J30 : Bool → World → Prop) => tk w6 fun w7 =>
        nn p0 fun a31 =>
        ld Value.map (a31.add 2) w7 fun x32 =>
        nn p0 fun a33 =>
        ld (Value.int .i64) (a33.add 1) w7 fun x34 =>
        rn Tryz.prog (Instr.lookup 78 (Value.map x32) (Value.int .i64 x34) false) (fun (r : Bool) => (Value.bool r)) w7 fun r35 w8 =>
        J30 r35 w8
      )
      fun l36 w9 =>
      cnd (l36)
        (
        jn (fun (J39 : Unit → World → Prop) => tk w9 fun w10 =>
          nn p0 fun a40 =>
          ld Value.map (a40.add 2) w10 fun x41 =>
          nn p0 fun a42 =>
          ld (Value.int .i64) (a42.add 1) w10 fun x43 =>
          rn Tryz.prog (Builtin.delete_ #[78, 3] 0 #[(Value.map x41), (Value.int .i64 x43)]) (fun _ : Unit => Value.tuple #[]) w10 fun _r44 w11 =>
          J39 () w11
        )
        fun _l45 w12 =>
        nn p0 fun a46 =>
        ld (Value.int .i64) (a46.add 1) w12 fun x47 =>
        nw 3 #[(Value.int .i64 x47)] w12 fun b48 w13 =>
        rn Tryz.prog (Builtin.append_ #[39, 39] 39 #[Sl.v l28, Sl.v (⟨some ⟨b48, 0, none⟩, 1, 1⟩ : Sl)]) Sl.v w13 fun r49 w14 =>
        nn p0 fun a50 =>
        ld (Value.int .i64) (a50.add 1) w14 fun x51 =>
        nn p0 fun a52 =>
        st (a52.add 1) [(Value.int .i64 (IntKind.i64.wrap (x51 + 1)))] w14 fun w15 =>
        next28 r49 w15
        )
        (
        jn (fun (J55 : (Sl × Int) → World → Prop) => tk w9 fun w16 =>
          nn p0 fun a56 =>
          ld (Value.int .i64) (a56.add 1) w16 fun x57 =>
          J55 (l28, x57) w16
        )
        fun l58 w17 =>
        K (l58.1, l58.2) w17
        )
    ) Sl.nil w5
    )
set_option maxRecDepth 100000 in
theorem D23 (p0 : Option Addr) (p1 : Int) (w0 : World) (K : (Sl × Int) → World → Prop) (h : F23 p0 p1 w0 K) : callC Tryz.prog 23 #[(Value.pointer p0), (Value.int .i64 p1)] (fun (r : Sl × Int) => (Value.tuple #[(Sl.v r.1), (Value.int .i64 r.2)])) w0 K := by
  unfold F23 at h
  refine calls_of_wpC Tryz.func23 rfl 71 rfl (by simp) ?_
  intro ρ hρ
  have e0 : ρ 0 = (Value.pointer p0) := hρ 0
  have e1 : ρ 1 = (Value.int .i64 p1) := hρ 1
  clear hρ
  refine wpC_seq ?_
  refine wpC_region ?_
  refine rv (Sl.v Sl.nil) w0 rfl rfl rfl (x_assign rfl rfl) ?_
  refine rv (Value.int .i64 0) w0 rfl rfl rfl (x_assign rfl rfl) ?_
  refine wpR_nil ?_
  refine wpC_seq ?_
  refine wpC_seq ?_
  refine wpC_cut (fun ρ => ρ 0 = (Value.pointer p0) ∧ ρ 1 = (Value.int .i64 p1) ∧ True) ⟨e0, e1, trivial⟩ ?_
  rintro ρ ⟨e0, e1, -⟩
  obtain ⟨J10, h, hk⟩ := h
  refine wpC_drawJ (by kernel_rfl) (fun (x : Bool) ρ => ρ 25 = (Value.bool x) ∧ ρ 0 = (Value.pointer p0) ∧ ρ 1 = (Value.int .i64 p1) ∧ True) J10 ?_ ?_
  · clear hk
    unfold tk at h
    generalize w0.drew = w1 at h ⊢
    refine wpD_take (v := (Value.int .i64 p1)) 0 (fun _ => True) rfl (by kernel_rfl) (by kernel_rfl) (by kernel_rfl) rfl rfl rfl trivial (fun w _ => (x_move (v := (Value.int .i64 p1)) rfl e1)) ?_
    refine wpD_take (v := (Value.pointer p0)) 1 (fun _ => True) rfl (by kernel_rfl) (by kernel_rfl) (by kernel_rfl) rfl rfl rfl trivial (fun w _ => (x_move (v := (Value.pointer p0)) rfl e0)) ?_
    obtain ⟨a11, q11, h⟩ := h
    refine wpD_take (v := (Value.pointer (some a11))) 2 (fun _ => True) rfl (by kernel_rfl) (by kernel_rfl) (by kernel_rfl) rfl rfl rfl trivial (fun w _ => (x_nilCheck rfl rfl q11)) ?_
    refine wpD_take (v := (Value.pointer (some (a11.add 1)))) 3 (fun _ => True) rfl (by kernel_rfl) (by kernel_rfl) (by kernel_rfl) rfl rfl rfl trivial (fun w _ => (x_fieldAddr rfl rfl FA_80_1)) ?_
    obtain ⟨x12, q12, h⟩ := h
    refine wpD_take (v := (Value.int .i64 x12)) 4 (fun w => w.cell? (a11.add 1) = some (Value.int .i64 x12)) rfl (by kernel_rfl) (by kernel_rfl) (by kernel_rfl) rfl rfl rfl q12 (fun w q12 => (x_load1 rfl rfl SH_3 q12)) ?_
    refine wpD_take (v := (Value.bool (decide (p1 < x12)))) 5 (fun _ => True) rfl (by kernel_rfl) (by kernel_rfl) (by kernel_rfl) rfl rfl rfl trivial (fun w _ => (x_lss rfl rfl rfl)) ?_
    refine wpD_take (v := (Value.bool (decide (p1 < x12)))) 6 (fun _ => True) rfl (by kernel_rfl) (by kernel_rfl) (by kernel_rfl) rfl rfl rfl trivial (fun w _ => (x_move (v := (Value.bool (decide (p1 < x12)))) rfl rfl)) ?_
    rcases Bool.eq_false_or_eq_true (decide (p1 < x12)) with hc13 | hc13
    · replace h := h.1 hc13
      refine wpD_pass 7 rfl (by kernel_rfl) (by kernel_rfl) (by kernel_rfl) (wantN rfl rfl rfl hc13) rfl rfl ?_
      refine wpD_pass 8 rfl (by kernel_rfl) (by kernel_rfl) (by kernel_rfl) (wantN rfl rfl rfl hc13) rfl rfl ?_
      refine wpD_pass 9 rfl (by kernel_rfl) (by kernel_rfl) (by kernel_rfl) (wantN rfl rfl rfl hc13) rfl rfl ?_
      refine wpD_pass 10 rfl (by kernel_rfl) (by kernel_rfl) (by kernel_rfl) (wantN rfl rfl rfl hc13) rfl rfl ?_
      refine wpD_pass 11 rfl (by kernel_rfl) (by kernel_rfl) (by kernel_rfl) (wantN rfl rfl rfl hc13) rfl rfl ?_
      refine wpD_pass 12 rfl (by kernel_rfl) (by kernel_rfl) (by kernel_rfl) (wantN rfl rfl rfl hc13) rfl rfl ?_
      refine wpD_pass 13 rfl (by kernel_rfl) (by kernel_rfl) (by kernel_rfl) (wantN rfl rfl rfl hc13) rfl rfl ?_
      refine wpD_pass 14 rfl (by kernel_rfl) (by kernel_rfl) (by kernel_rfl) (wantN rfl rfl rfl hc13) rfl rfl ?_
      refine wpD_pass 15 rfl (by kernel_rfl) (by kernel_rfl) (by kernel_rfl) (wantN rfl rfl rfl hc13) rfl rfl ?_
      refine wpD_pass 16 rfl (by kernel_rfl) (by kernel_rfl) (by kernel_rfl) (wantN rfl rfl rfl hc13) rfl rfl ?_
      refine wpD_pass 17 rfl (by kernel_rfl) (by kernel_rfl) (by kernel_rfl) (wantN rfl rfl rfl hc13) rfl rfl ?_
      refine wpD_take (v := (Value.bool true)) 18 (fun _ => True) rfl (by kernel_rfl) (by kernel_rfl) (by kernel_rfl) rfl rfl rfl trivial (fun w _ => (x_pickT (v := (Value.bool true)) rfl rfl hc13 rfl)) ?_
      exact wpD_done (by kernel_rfl) ⟨true, ⟨rfl, e0, e1, trivial⟩, h⟩
    · replace h := h.2 hc13
      refine wpD_take (v := (Value.int .i64 p1)) 7 (fun _ => True) rfl (by kernel_rfl) (by kernel_rfl) (by kernel_rfl) (wantG rfl rfl rfl hc13) rfl rfl trivial (fun w _ => (x_move (v := (Value.int .i64 p1)) rfl e1)) ?_
      refine wpD_take (v := (Value.pointer p0)) 8 (fun _ => True) rfl (by kernel_rfl) (by kernel_rfl) (by kernel_rfl) (wantG rfl rfl rfl hc13) rfl rfl trivial (fun w _ => (x_move (v := (Value.pointer p0)) rfl e0)) ?_
      obtain ⟨a14, q14, h⟩ := h
      refine wpD_take (v := (Value.pointer (some a14))) 9 (fun _ => True) rfl (by kernel_rfl) (by kernel_rfl) (by kernel_rfl) (wantG rfl rfl rfl hc13) rfl rfl trivial (fun w _ => (x_nilCheck rfl rfl q14)) ?_
      refine wpD_take (v := (Value.pointer (some (a14.add 1)))) 10 (fun _ => True) rfl (by kernel_rfl) (by kernel_rfl) (by kernel_rfl) (wantG rfl rfl rfl hc13) rfl rfl trivial (fun w _ => (x_fieldAddr rfl rfl FA_80_1)) ?_
      obtain ⟨x15, q15, h⟩ := h
      refine wpD_take (v := (Value.int .i64 x15)) 11 (fun w => w.cell? (a14.add 1) = some (Value.int .i64 x15)) rfl (by kernel_rfl) (by kernel_rfl) (by kernel_rfl) (wantG rfl rfl rfl hc13) rfl rfl q15 (fun w q15 => (x_load1 rfl rfl SH_3 q15)) ?_
      refine wpD_take (v := (Value.pointer p0)) 12 (fun _ => True) rfl (by kernel_rfl) (by kernel_rfl) (by kernel_rfl) (wantG rfl rfl rfl hc13) rfl rfl trivial (fun w _ => (x_move (v := (Value.pointer p0)) rfl e0)) ?_
      obtain ⟨a16, q16, h⟩ := h
      refine wpD_take (v := (Value.pointer (some a16))) 13 (fun _ => True) rfl (by kernel_rfl) (by kernel_rfl) (by kernel_rfl) (wantG rfl rfl rfl hc13) rfl rfl trivial (fun w _ => (x_nilCheck rfl rfl q16)) ?_
      refine wpD_take (v := (Value.pointer (some (a16.add 0)))) 14 (fun _ => True) rfl (by kernel_rfl) (by kernel_rfl) (by kernel_rfl) (wantG rfl rfl rfl hc13) rfl rfl trivial (fun w _ => (x_fieldAddr rfl rfl FA_80_0)) ?_
      obtain ⟨x17, q17, h⟩ := h
      refine wpD_take (v := (Value.int .i64 x17)) 15 (fun w => w.cell? (a16.add 0) = some (Value.int .i64 x17)) rfl (by kernel_rfl) (by kernel_rfl) (by kernel_rfl) (wantG rfl rfl rfl hc13) rfl rfl q17 (fun w q17 => (x_load1 rfl rfl SH_3 q17)) ?_
      refine wpD_take (v := (Value.int .i64 (IntKind.i64.wrap (x15 + x17)))) 16 (fun _ => True) rfl (by kernel_rfl) (by kernel_rfl) (by kernel_rfl) (wantG rfl rfl rfl hc13) rfl rfl trivial (fun w _ => (x_add rfl rfl rfl)) ?_
      refine wpD_take (v := (Value.bool (decide ((IntKind.i64.wrap (x15 + x17)) ≤ p1)))) 17 (fun _ => True) rfl (by kernel_rfl) (by kernel_rfl) (by kernel_rfl) (wantG rfl rfl rfl hc13) rfl rfl trivial (fun w _ => (x_geq rfl rfl rfl)) ?_
      refine wpD_take (v := (Value.bool (decide ((IntKind.i64.wrap (x15 + x17)) ≤ p1)))) 18 (fun _ => True) rfl (by kernel_rfl) (by kernel_rfl) (by kernel_rfl) rfl rfl rfl trivial (fun w _ => (x_pickF (v := (Value.bool (decide ((IntKind.i64.wrap (x15 + x17)) ≤ p1)))) rfl rfl hc13 rfl)) ?_
      exact wpD_done (by kernel_rfl) ⟨decide ((IntKind.i64.wrap (x15 + x17)) ≤ p1), ⟨rfl, e0, e1, trivial⟩, h⟩
  clear h
  rintro l18 ρ w2 ⟨e25, e0, e1, -⟩ h
  replace h := hk l18 w2 h
  clear hk
  refine wpC_cond (b := l18) e25 (fun hc19 => ?_) (fun hc19 => ?_)
  · replace h := h.1 hc19
    refine wpC_seq ?_
    obtain ⟨J21, h, hk⟩ := h
    refine wpC_drawJ (by kernel_rfl) (fun (x : Sl × Int) ρ => ρ 4 = (Sl.v x.1) ∧ ρ 5 = (Value.int .i64 x.2) ∧ True) J21 ?_ ?_
    · clear hk
      unfold tk at h
      generalize w2.drew = w3 at h ⊢
      refine wpD_take (v := (Value.pointer p0)) 0 (fun _ => True) rfl (by kernel_rfl) (by kernel_rfl) (by kernel_rfl) rfl rfl rfl trivial (fun w _ => (x_move (v := (Value.pointer p0)) rfl e0)) ?_
      obtain ⟨a22, q22, h⟩ := h
      refine wpD_take (v := (Value.pointer (some a22))) 1 (fun _ => True) rfl (by kernel_rfl) (by kernel_rfl) (by kernel_rfl) rfl rfl rfl trivial (fun w _ => (x_nilCheck rfl rfl q22)) ?_
      refine wpD_take (v := (Value.pointer (some (a22.add 1)))) 2 (fun _ => True) rfl (by kernel_rfl) (by kernel_rfl) (by kernel_rfl) rfl rfl rfl trivial (fun w _ => (x_fieldAddr rfl rfl FA_80_1)) ?_
      obtain ⟨x23, q23, h⟩ := h
      refine wpD_take (v := (Value.int .i64 x23)) 3 (fun w => w.cell? (a22.add 1) = some (Value.int .i64 x23)) rfl (by kernel_rfl) (by kernel_rfl) (by kernel_rfl) rfl rfl rfl q23 (fun w q23 => (x_load1 rfl rfl SH_3 q23)) ?_
      refine wpD_take (v := (Sl.v Sl.nil)) 4 (fun _ => True) rfl (by kernel_rfl) (by kernel_rfl) (by kernel_rfl) rfl rfl rfl trivial (fun w _ => (x_assign (v := (Sl.v Sl.nil)) rfl rfl)) ?_
      refine wpD_take (v := (Value.int .i64 x23)) 5 (fun _ => True) rfl (by kernel_rfl) (by kernel_rfl) (by kernel_rfl) rfl rfl rfl trivial (fun w _ => (x_assign (v := (Value.int .i64 x23)) rfl rfl)) ?_
      exact wpD_done (by kernel_rfl) ⟨(Sl.nil, x23), ⟨rfl, rfl, trivial⟩, h⟩
    clear h
    rintro l24 ρ w4 ⟨e4, e5, -⟩ h
    replace h := hk l24 w4 h
    clear hk
    refine wpC_ret ?_
    exact ⟨.inl rfl, fun a ha => ⟨_, results_rep2 rfl ha e4 e5, (l24.1, l24.2), rfl, h⟩⟩
  · replace h := h.2 hc19
    refine wpC_skip ?_
    refine wpC_seq ?_
    refine wpC_region ?_
    refine rv (Value.pointer p0) w2 rfl rfl rfl (x_move rfl e0) ?_
    obtain ⟨a25, q25, h⟩ := h
    refine rv (Value.pointer (some a25)) w2 rfl rfl rfl (x_nilCheck rfl rfl q25) ?_
    refine rv (Value.pointer (some (a25.add 2))) w2 rfl rfl rfl (x_fieldAddr rfl rfl FA_80_2) ?_
    obtain ⟨x26, q26, h⟩ := h
    refine rv (Value.map x26) w2 rfl rfl rfl (x_load1 rfl rfl SH_78 q26) ?_
    refine rv (Value.int .i64 p1) w2 rfl rfl rfl (x_move rfl e1) ?_
    obtain ⟨w5, q27, h⟩ := h
    refine wpR_skp (w' := w5) rfl rfl (x_mapUpdate rfl rfl rfl rfl q27) ?_
    refine wpR_nil ?_
    refine wpC_seq ?_
    refine wpC_cut (fun ρ => ρ 0 = (Value.pointer p0) ∧ True) ⟨e0, trivial⟩ ?_
    rintro ρ ⟨e0, -⟩
    refine wpC_region ?_
    refine rv (Sl.v Sl.nil) w5 rfl rfl rfl (x_assign rfl rfl) ?_
    refine wpR_nil ?_
    refine wpC_seq ?_
    refine wpC_block ?_
    obtain ⟨I28, μ28, hI28, hr28⟩ := h
    refine wpC_loop (fun (x : Sl) ρ => ρ 6 = (Sl.v x) ∧ ρ 0 = (Value.pointer p0) ∧ True) I28 μ28 Sl.nil ⟨rfl, e0, trivial⟩ hI28 ?_
    rintro l28 ρ w6 ⟨e6, e0, -⟩ h
    replace h := hr28 l28 w6 h
    clear hr28 hI28
    refine wpC_seq ?_
    refine wpC_seq ?_
    obtain ⟨J30, h, hk⟩ := h
    refine wpC_drawJ (by kernel_rfl) (fun (x : Bool) ρ => ρ 43 = (Value.bool x) ∧ ρ 0 = (Value.pointer p0) ∧ ρ 6 = (Sl.v l28) ∧ True) J30 ?_ ?_
    · clear hk
      unfold tk at h
      generalize w6.drew = w7 at h ⊢
      refine wpD_take (v := (Value.pointer p0)) 0 (fun _ => True) rfl (by kernel_rfl) (by kernel_rfl) (by kernel_rfl) rfl rfl rfl trivial (fun w _ => (x_move (v := (Value.pointer p0)) rfl e0)) ?_
      obtain ⟨a31, q31, h⟩ := h
      refine wpD_take (v := (Value.pointer (some a31))) 1 (fun _ => True) rfl (by kernel_rfl) (by kernel_rfl) (by kernel_rfl) rfl rfl rfl trivial (fun w _ => (x_nilCheck rfl rfl q31)) ?_
      refine wpD_take (v := (Value.pointer (some (a31.add 2)))) 2 (fun _ => True) rfl (by kernel_rfl) (by kernel_rfl) (by kernel_rfl) rfl rfl rfl trivial (fun w _ => (x_fieldAddr rfl rfl FA_80_2)) ?_
      obtain ⟨x32, q32, h⟩ := h
      refine wpD_take (v := (Value.map x32)) 3 (fun w => w.cell? (a31.add 2) = some (Value.map x32)) rfl (by kernel_rfl) (by kernel_rfl) (by kernel_rfl) rfl rfl rfl q32 (fun w q32 => (x_load1 rfl rfl SH_78 q32)) ?_
      refine wpD_take (v := (Value.pointer p0)) 4 (fun _ => True) rfl (by kernel_rfl) (by kernel_rfl) (by kernel_rfl) rfl rfl rfl trivial (fun w _ => (x_move (v := (Value.pointer p0)) rfl e0)) ?_
      obtain ⟨a33, q33, h⟩ := h
      refine wpD_take (v := (Value.pointer (some a33))) 5 (fun _ => True) rfl (by kernel_rfl) (by kernel_rfl) (by kernel_rfl) rfl rfl rfl trivial (fun w _ => (x_nilCheck rfl rfl q33)) ?_
      refine wpD_take (v := (Value.pointer (some (a33.add 1)))) 6 (fun _ => True) rfl (by kernel_rfl) (by kernel_rfl) (by kernel_rfl) rfl rfl rfl trivial (fun w _ => (x_fieldAddr rfl rfl FA_80_1)) ?_
      obtain ⟨x34, q34, h⟩ := h
      refine wpD_take (v := (Value.int .i64 x34)) 7 (fun w => w.cell? (a33.add 1) = some (Value.int .i64 x34)) rfl (by kernel_rfl) (by kernel_rfl) (by kernel_rfl) rfl rfl rfl q34 (fun w q34 => (x_load1 rfl rfl SH_3 q34)) ?_
      refine wpD_all (rs := [8]) (by kernel_rfl) (by simp) (allD_cons ?_ allD_nil)
      obtain ⟨r35, w8, q35, h⟩ := h
      refine stepD_valL (L' := [(6, fun _ => True), (5, fun _ => True), (4, fun _ => True), (2, fun _ => True), (1, fun _ => True), (0, fun _ => True)]) (v := (Value.bool r35)) (w' := w8) rfl rfl rfl rfl (x_lookup rfl rfl rfl q35) (by kernel_rfl) (held_cons trivial (held_cons trivial (held_cons trivial (held_cons trivial (held_cons trivial (held_cons trivial held_nil)))))) ?_
      exact wpD_done (by kernel_rfl) ⟨r35, ⟨rfl, e0, e6, trivial⟩, h⟩
    clear h
    rintro l36 ρ w9 ⟨e43, e0, e6, -⟩ h
    replace h := hk l36 w9 h
    clear hk
    refine wpC_cond (b := l36) e43 (fun hc37 => ?_) (fun hc37 => ?_)
    · replace h := h.1 hc37
      refine wpC_skip ?_
      refine wpC_block ?_
      refine wpC_seq ?_
      obtain ⟨J39, h, hk⟩ := h
      refine wpC_drawJ (by kernel_rfl) (fun (x : Unit) ρ => ρ 0 = (Value.pointer p0) ∧ ρ 6 = (Sl.v l28) ∧ True) J39 ?_ ?_
      · clear hk
        unfold tk at h
        generalize w9.drew = w10 at h ⊢
        refine wpD_take (v := (Value.pointer p0)) 0 (fun _ => True) rfl (by kernel_rfl) (by kernel_rfl) (by kernel_rfl) rfl rfl rfl trivial (fun w _ => (x_move (v := (Value.pointer p0)) rfl e0)) ?_
        obtain ⟨a40, q40, h⟩ := h
        refine wpD_take (v := (Value.pointer (some a40))) 1 (fun _ => True) rfl (by kernel_rfl) (by kernel_rfl) (by kernel_rfl) rfl rfl rfl trivial (fun w _ => (x_nilCheck rfl rfl q40)) ?_
        refine wpD_take (v := (Value.pointer (some (a40.add 2)))) 2 (fun _ => True) rfl (by kernel_rfl) (by kernel_rfl) (by kernel_rfl) rfl rfl rfl trivial (fun w _ => (x_fieldAddr rfl rfl FA_80_2)) ?_
        obtain ⟨x41, q41, h⟩ := h
        refine wpD_take (v := (Value.map x41)) 3 (fun w => w.cell? (a40.add 2) = some (Value.map x41)) rfl (by kernel_rfl) (by kernel_rfl) (by kernel_rfl) rfl rfl rfl q41 (fun w q41 => (x_load1 rfl rfl SH_78 q41)) ?_
        refine wpD_take (v := (Value.pointer p0)) 4 (fun _ => True) rfl (by kernel_rfl) (by kernel_rfl) (by kernel_rfl) rfl rfl rfl trivial (fun w _ => (x_move (v := (Value.pointer p0)) rfl e0)) ?_
        obtain ⟨a42, q42, h⟩ := h
        refine wpD_take (v := (Value.pointer (some a42))) 5 (fun _ => True) rfl (by kernel_rfl) (by kernel_rfl) (by kernel_rfl) rfl rfl rfl trivial (fun w _ => (x_nilCheck rfl rfl q42)) ?_
        refine wpD_take (v := (Value.pointer (some (a42.add 1)))) 6 (fun _ => True) rfl (by kernel_rfl) (by kernel_rfl) (by kernel_rfl) rfl rfl rfl trivial (fun w _ => (x_fieldAddr rfl rfl FA_80_1)) ?_
        obtain ⟨x43, q43, h⟩ := h
        refine wpD_take (v := (Value.int .i64 x43)) 7 (fun w => w.cell? (a42.add 1) = some (Value.int .i64 x43)) rfl (by kernel_rfl) (by kernel_rfl) (by kernel_rfl) rfl rfl rfl q43 (fun w q43 => (x_load1 rfl rfl SH_3 q43)) ?_
        refine wpD_all (rs := [8]) (by kernel_rfl) (by simp) (allD_cons ?_ allD_nil)
        obtain ⟨r44, w11, q44, h⟩ := h
        refine stepD_val0L (L' := [(6, fun _ => True), (5, fun _ => True), (4, fun _ => True), (2, fun _ => True), (1, fun _ => True), (0, fun _ => True)]) (v := (Value.tuple #[])) (w' := w11) rfl rfl rfl (x_delete rfl rfl rfl rfl q44) (by kernel_rfl) (held_cons trivial (held_cons trivial (held_cons trivial (held_cons trivial (held_cons trivial (held_cons trivial held_nil)))))) ?_
        exact wpD_done (by kernel_rfl) ⟨(), ⟨e0, e6, trivial⟩, h⟩
      clear h
      rintro l45 ρ w12 ⟨e0, e6, -⟩ h
      replace h := hk l45 w12 h
      clear hk
      refine wpC_seq ?_
      refine wpC_region ?_
      refine rv (Sl.v l28) w12 rfl rfl rfl (x_move rfl e6) ?_
      refine rv (Value.pointer p0) w12 rfl rfl rfl (x_move rfl e0) ?_
      obtain ⟨a46, q46, h⟩ := h
      refine rv (Value.pointer (some a46)) w12 rfl rfl rfl (x_nilCheck rfl rfl q46) ?_
      refine rv (Value.pointer (some (a46.add 1))) w12 rfl rfl rfl (x_fieldAddr rfl rfl FA_80_1) ?_
      obtain ⟨x47, q47, h⟩ := h
      refine rv (Value.int .i64 x47) w12 rfl rfl rfl (x_load1 rfl rfl SH_3 q47) ?_
      obtain ⟨b48, hb48⟩ : ∃ u, u = w12.heap.size := ⟨_, rfl⟩
      obtain ⟨w13, hw48⟩ : ∃ u, u = w12.alloc (.cells #[(Value.int .i64 x47)] 3) := ⟨_, rfl⟩
      replace h := h b48 w13 hb48 hw48
      refine rv (Sl.v (⟨some ⟨b48, 0, none⟩, 1, 1⟩ : Sl)) w13 rfl rfl rfl ((x_buildSlice (qs := [(0, (Value.int .i64 x47))]) rfl (by rfl) (BS_39_1_0 x47)).trans (by rw [← hb48, ← hw48])) ?_
      obtain ⟨r49, w14, q49, h⟩ := h
      refine rv (Sl.v r49) w14 rfl rfl rfl (x_append (s := l28) (u := (⟨some ⟨b48, 0, none⟩, 1, 1⟩ : Sl)) rfl rfl rfl rfl q49) ?_
      refine rv (Sl.v r49) w14 rfl rfl rfl (x_assign rfl rfl) ?_
      refine wpR_nil ?_
      refine wpC_cut (fun ρ => ρ 0 = (Value.pointer p0) ∧ ρ 6 = (Sl.v r49) ∧ True) ⟨e0, rfl, trivial⟩ ?_
      rintro ρ ⟨e0, e6, -⟩
      refine wpC_region ?_
      refine rv (Value.pointer p0) w14 rfl rfl rfl (x_move rfl e0) ?_
      obtain ⟨a50, q50, h⟩ := h
      refine rv (Value.pointer (some a50)) w14 rfl rfl rfl (x_nilCheck rfl rfl q50) ?_
      refine rv (Value.pointer (some (a50.add 1))) w14 rfl rfl rfl (x_fieldAddr rfl rfl FA_80_1) ?_
      obtain ⟨x51, q51, h⟩ := h
      refine rv (Value.int .i64 x51) w14 rfl rfl rfl (x_load1 rfl rfl SH_3 q51) ?_
      refine rv (Value.int .i64 (IntKind.i64.wrap (x51 + 1))) w14 rfl rfl rfl (x_add rfl rfl rfl) ?_
      obtain ⟨a52, q52, h⟩ := h
      refine rv (Value.pointer (some a52)) w14 rfl rfl rfl (x_nilCheck rfl rfl q52) ?_
      refine rv (Value.pointer (some (a52.add 1))) w14 rfl rfl rfl (x_fieldAddr rfl rfl FA_80_1) ?_
      obtain ⟨q53, h⟩ := h
      obtain ⟨w15, hw53⟩ : ∃ u, u = setAll w14 (a52.add 1) [(Value.int .i64 (IntKind.i64.wrap (x51 + 1)))] 0 := ⟨_, rfl⟩
      replace h := h w15 hw53
      refine wpR_skp (w' := w15) rfl rfl ((x_store (v := (Value.int .i64 (IntKind.i64.wrap (x51 + 1)))) rfl rfl rfl SZ_3 (ones (by rfl)) q53).trans (by rw [hw53]; rfl)) ?_
      refine wpR_nil ?_
      exact ⟨r49, ⟨e6, e0, trivial⟩, h⟩
    · replace h := h.2 hc37
      refine wpC_exit ?_
      refine wpC_seq ?_
      obtain ⟨J55, h, hk⟩ := h
      refine wpC_drawJ (by kernel_rfl) (fun (x : Sl × Int) ρ => ρ 4 = (Sl.v x.1) ∧ ρ 5 = (Value.int .i64 x.2) ∧ True) J55 ?_ ?_
      · clear hk
        unfold tk at h
        generalize w9.drew = w16 at h ⊢
        refine wpD_take (v := (Sl.v l28)) 0 (fun _ => True) rfl (by kernel_rfl) (by kernel_rfl) (by kernel_rfl) rfl rfl rfl trivial (fun w _ => (x_move (v := (Sl.v l28)) rfl e6)) ?_
        refine wpD_take (v := (Value.pointer p0)) 1 (fun _ => True) rfl (by kernel_rfl) (by kernel_rfl) (by kernel_rfl) rfl rfl rfl trivial (fun w _ => (x_move (v := (Value.pointer p0)) rfl e0)) ?_
        obtain ⟨a56, q56, h⟩ := h
        refine wpD_take (v := (Value.pointer (some a56))) 2 (fun _ => True) rfl (by kernel_rfl) (by kernel_rfl) (by kernel_rfl) rfl rfl rfl trivial (fun w _ => (x_nilCheck rfl rfl q56)) ?_
        refine wpD_take (v := (Value.pointer (some (a56.add 1)))) 3 (fun _ => True) rfl (by kernel_rfl) (by kernel_rfl) (by kernel_rfl) rfl rfl rfl trivial (fun w _ => (x_fieldAddr rfl rfl FA_80_1)) ?_
        obtain ⟨x57, q57, h⟩ := h
        refine wpD_take (v := (Value.int .i64 x57)) 4 (fun w => w.cell? (a56.add 1) = some (Value.int .i64 x57)) rfl (by kernel_rfl) (by kernel_rfl) (by kernel_rfl) rfl rfl rfl q57 (fun w q57 => (x_load1 rfl rfl SH_3 q57)) ?_
        refine wpD_take (v := (Sl.v l28)) 5 (fun _ => True) rfl (by kernel_rfl) (by kernel_rfl) (by kernel_rfl) rfl rfl rfl trivial (fun w _ => (x_assign (v := (Sl.v l28)) rfl rfl)) ?_
        refine wpD_take (v := (Value.int .i64 x57)) 6 (fun _ => True) rfl (by kernel_rfl) (by kernel_rfl) (by kernel_rfl) rfl rfl rfl trivial (fun w _ => (x_assign (v := (Value.int .i64 x57)) rfl rfl)) ?_
        exact wpD_done (by kernel_rfl) ⟨(l28, x57), ⟨rfl, rfl, trivial⟩, h⟩
      clear h
      rintro l58 ρ w17 ⟨e4, e5, -⟩ h
      replace h := hk l58 w17 h
      clear hk
      refine wpC_ret ?_
      exact ⟨.inl rfl, fun a ha => ⟨_, results_rep2 rfl ha e4 e5, (l58.1, l58.2), rfl, h⟩⟩


end Go.Proofs.YtgbhghoppjfofaaGreat
