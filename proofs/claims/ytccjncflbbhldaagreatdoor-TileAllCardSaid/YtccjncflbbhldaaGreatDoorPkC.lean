/- ShF2, ShF3, ShGm0, ShGj0, ShL1, ShL2, ShL3, ShL4, ShL6, ShL8, ShL9, ShL10 -/
import Derived.Test.YtccjncflbbhldaaGreatDoorPkA
import Derived.Deep.Upon
import Derived.Deep.OwnRows
import Derived.Deep.Slices
import Derived.Laws.IdiomStrings
import Derived.Laws.StructEq
import Derived.ChangeKeysEq
/-! ## ShF2 -/
set_option maxRecDepth 100000
namespace Go.Proofs.YtccjncflbbhldaaGreatDoor
open Go.Sh
/-! ### ledger/tlog.peaks -/
noncomputable def B_tlog_peaks : Code := match Tryz.f46.body with | some c => c | _ => .skip
noncomputable def X_tlog_peaks : Cx := { P := PP, fn := 46, N := 32, tab := tab, results := [.tmp 2], iter := fun _ => (.none, .none), dyn := fun _ => false, live := fun r => cond (Nat.beq r 4) (some [0, 3, 4, 5]) (cond (Nat.beq r 5) (some [0, 3, 4, 5]) (none)) }
theorem K_tlog_peaks : OkF X_tlog_peaks B_tlog_peaks Tryz.f46 := ⟨⟨tab_ok, mix_ok⟩, Tryz.func46, by kernel_rfl, by kernel_rfl, by kernel_rfl, by kernel_rfl⟩
noncomputable def N_tlog_peaks.j4 (Q : Value → World → Prop) (s0 : Int) (s3 : Option Addr) (s3n : Nat) (s3c : Nat) (s4 : Int) (s5 : Int) (w : World) : Prop := Nd X_tlog_peaks Q [(0, 0, .int .i64 s0), (3, 3, .slice s3 s3n s3c), (4, 4, .int .i64 s4), (5, 5, .int .i64 s5)] [.code (B_tlog_peaks.r.r.r.l.r.l.l.l.l), .code (B_tlog_peaks.r.r.r.l.r.l.l.l.r), .code (B_tlog_peaks.r.r.r.l.r.l.l.r), .inLoop (B_tlog_peaks.r.r.r.l.r.l.l), .inBlock 0, .code (B_tlog_peaks.r.r.r.r)] w
noncomputable def N_tlog_peaks.j5 (Q : Value → World → Prop) (s0 : Int) (s3 : Option Addr) (s3n : Nat) (s3c : Nat) (s4 : Int) (s5 : Int) (w : World) : Prop := Nd X_tlog_peaks Q [(0, 0, .int .i64 s0), (3, 3, .slice s3 s3n s3c), (4, 4, .int .i64 s4), (5, 5, .int .i64 s5)] [.code (B_tlog_peaks.r.r.r.l.r.l.l.r.r), .inLoop (B_tlog_peaks.r.r.r.l.r.l.l), .inBlock 0, .code (B_tlog_peaks.r.r.r.r)] w
theorem N_tlog_peaks.j4_eq (Q : Value → World → Prop) (s0 : Int) (s3 : Option Addr) (s3n : Nat) (s3c : Nat) (s4 : Int) (s5 : Int) (w : World) (h :
  cond (decide (s5 ≥ 0))
  (nn s5 (
  cond ((bits .and .i64 (shrI .i64 s0 s5) 1) == 1)
  (nn s5 (
  C_tlog_place #[.int .i64 s5, .int .i64 (shrI .i64 s4 s5)] w fun v1 w2 =>
  opnI .i64 (some v1) fun x3 =>
  alC #[.int .i64 x3] 2 w2 fun p4 w5 =>
  sem PP (Builtin.append_ #[25, 25] 25 #[.slice s3 s3n s3c, .slice (some p4) 1 1]) w5 fun v6 w7 =>
  opnL (some v6) fun x8 x8n x8c =>
  nn s5 (
  N_tlog_peaks.j5 Q s0 x8 x8n x8c (IntKind.wrap .i64 (s4 + (shlI .i64 1 s5))) s5 w7)))
  (N_tlog_peaks.j5 Q s0 s3 s3n s3c s4 s5 w)))
  (Q (.slice s3 s3n s3c) w)) :
N_tlog_peaks.j4 Q s0 s3 s3n s3c s4 s5 w := Nd_fold K_tlog_peaks (by kernel_rfl) h
theorem N_tlog_peaks.j5_eq (Q : Value → World → Prop) (s0 : Int) (s3 : Option Addr) (s3n : Nat) (s3c : Nat) (s4 : Int) (s5 : Int) (w : World) (h :
  N_tlog_peaks.j4 Q s0 s3 s3n s3c s4 (IntKind.wrap .i64 (s5 - 1)) w) :
N_tlog_peaks.j5 Q s0 s3 s3n s3c s4 s5 w := Nd_fold K_tlog_peaks (by kernel_rfl) h
theorem C_tlog_peaks_eq (Q : Value → World → Prop) (a0 : Int) (w : World) (h :
  C_math_bits_OnesCount64 #[.int .u64 (IntKind.wrap .u64 a0)] w fun v1 w2 =>
  opnI .i64 (some v1) fun x3 =>
  sem PP (Instr.makeSlice 25 (.int .i64 0) (.int .i64 x3)) w2 fun v4 w5 =>
  opnL (some v4) fun x6 x6n x6c =>
  N_tlog_peaks.j4 Q a0 x6 x6n x6c 0 48 w5) :
C_tlog_peaks #[.int .i64 a0] w Q := C_fold K_tlog_peaks (by kernel_rfl) h
/-! ### ledger/tlog.hasherOf -/
noncomputable def B_tlog_hasherOf : Code := match Tryz.f47.body with | some c => c | _ => .skip
noncomputable def X_tlog_hasherOf : Cx := { P := PP, fn := 47, N := 20, tab := tab, results := [.cell 2 100], iter := fun _ => (.none, .none), dyn := fun _ => false, live := fun r => cond (Nat.beq r 2) (some [1, 2]) (cond (Nat.beq r 3) (some [1, 2]) (cond (Nat.beq r 4) (some [1, 2, 3]) (cond (Nat.beq r 5) (some [1, 2, 3, 4]) (cond (Nat.beq r 6) (some [1, 2, 3, 4, 5]) (none))))) }
theorem K_tlog_hasherOf : OkF X_tlog_hasherOf B_tlog_hasherOf Tryz.f47 := ⟨⟨tab_ok, mix_ok⟩, Tryz.func47, by kernel_rfl, by kernel_rfl, by kernel_rfl, by kernel_rfl⟩
noncomputable def N_tlog_hasherOf.j2 (Q : Value → World → Prop) (s1 : Addr) (s2 : Addr) (w : World) : Prop := Nd X_tlog_hasherOf Q [(1, 1, .pointer (some s1)), (2, 2, .pointer (some s2))] [.code (B_tlog_hasherOf.r.l.r.l), .code (B_tlog_hasherOf.r.r)] w
noncomputable def N_tlog_hasherOf.j3 (Q : Value → World → Prop) (s1 : Addr) (s2 : Addr) (w : World) : Prop := Nd X_tlog_hasherOf Q [(1, 1, .pointer (some s1)), (2, 2, .pointer (some s2))] [.code (B_tlog_hasherOf.r.r.l), .code (B_tlog_hasherOf.r.r.r)] w
noncomputable def N_tlog_hasherOf.j4 (Q : Value → World → Prop) (s1 : Addr) (s2 : Addr) (s3 : Addr) (w : World) : Prop := Nd X_tlog_hasherOf Q [(1, 1, .pointer (some s1)), (2, 2, .pointer (some s2)), (3, 3, .pointer (some s3))] [.code (B_tlog_hasherOf.r.r.r.l), .code (B_tlog_hasherOf.r.r.r.r)] w
noncomputable def N_tlog_hasherOf.j5 (Q : Value → World → Prop) (s1 : Addr) (s2 : Addr) (s3 : Addr) (s4c0 : Addr) (w : World) : Prop := Nd X_tlog_hasherOf Q [(1, 1, .pointer (some s1)), (2, 2, .pointer (some s2)), (3, 3, .pointer (some s3)), (4, 4, .func (.func 70) #[] #[.pointer (some s4c0)])] [.code (B_tlog_hasherOf.r.r.r.r.l), .code (B_tlog_hasherOf.r.r.r.r.r)] w
noncomputable def N_tlog_hasherOf.j6 (Q : Value → World → Prop) (s1 : Addr) (s2 : Addr) (s3 : Addr) (s4c0 : Addr) (s5c0 : Addr) (w : World) : Prop := Nd X_tlog_hasherOf Q [(1, 1, .pointer (some s1)), (2, 2, .pointer (some s2)), (3, 3, .pointer (some s3)), (4, 4, .func (.func 70) #[] #[.pointer (some s4c0)]), (5, 5, .func (.func 71) #[] #[.pointer (some s5c0)])] [.code (B_tlog_hasherOf.r.r.r.r.r.l), .code (B_tlog_hasherOf.r.r.r.r.r.r)] w
theorem N_tlog_hasherOf.j2_eq (Q : Value → World → Prop) (s1 : Addr) (s2 : Addr) (w : World) (h :
  stC s1 (.int .i64 32) w fun w1 =>
  N_tlog_hasherOf.j3 Q s1 s2 w1) :
N_tlog_hasherOf.j2 Q s1 s2 w := Nd_fold K_tlog_hasherOf (by kernel_rfl) h
theorem N_tlog_hasherOf.j3_eq (Q : Value → World → Prop) (s1 : Addr) (s2 : Addr) (w : World) (h :
  alZ PP 97 w fun p1 w2 =>
  stC p1 (.func (.func 68) #[] #[.pointer (some s1)]) w2 fun w3 =>
  N_tlog_hasherOf.j4 Q s1 s2 p1 w3) :
N_tlog_hasherOf.j3 Q s1 s2 w := Nd_fold K_tlog_hasherOf (by kernel_rfl) h
theorem N_tlog_hasherOf.j4_eq (Q : Value → World → Prop) (s1 : Addr) (s2 : Addr) (s3 : Addr) (w : World) (h :
  N_tlog_hasherOf.j5 Q s1 s2 s3 s3 w) :
N_tlog_hasherOf.j4 Q s1 s2 s3 w := Nd_fold K_tlog_hasherOf (by kernel_rfl) h
theorem N_tlog_hasherOf.j5_eq (Q : Value → World → Prop) (s1 : Addr) (s2 : Addr) (s3 : Addr) (s4c0 : Addr) (w : World) (h :
  N_tlog_hasherOf.j6 Q s1 s2 s3 s4c0 s3 w) :
N_tlog_hasherOf.j5 Q s1 s2 s3 s4c0 w := Nd_fold K_tlog_hasherOf (by kernel_rfl) h
theorem N_tlog_hasherOf.j6_eq (Q : Value → World → Prop) (s1 : Addr) (s2 : Addr) (s3 : Addr) (s4c0 : Addr) (s5c0 : Addr) (w : World) (h :
  opnI .i64 (w.cell? s1) fun x1 =>
  opnV (w.cell? s3) fun x2 =>
  semP PP (Instr.build 100 #[(0, .int .i64 x1), (1, x2), (2, .func (.func 70) #[] #[.pointer (some s4c0)]), (3, .func (.func 71) #[] #[.pointer (some s5c0)])]) fun v3 =>
  opnG (some v3) fun x5 =>
  x5.size = 4 ∧
  opnI .i64 (x5[0]?) fun x6 =>
  opnV (x5[1]?) fun x7 =>
  opnV (x5[2]?) fun x8 =>
  opnV (x5[3]?) fun x9 =>
  Array.size (#[.int .i64 x6, x7, x8, x9] : Array Value) = 4 ∧
  stC (s2.add 0) (.int .i64 x6) w fun w10 =>
  stC (s2.add 1) x7 w10 fun w11 =>
  stC (s2.add 2) x8 w11 fun w12 =>
  stC (s2.add 3) x9 w12 fun w13 =>
  opnI .i64 (w13.cell? (s2.add 0)) fun x14 =>
  opnV (w13.cell? (s2.add 1)) fun x15 =>
  opnV (w13.cell? (s2.add 2)) fun x16 =>
  opnV (w13.cell? (s2.add 3)) fun x17 =>
  Q (.agg #[.int .i64 x14, x15, x16, x17]) w13) :
N_tlog_hasherOf.j6 Q s1 s2 s3 s4c0 s5c0 w := Nd_fold K_tlog_hasherOf (by kernel_rfl) h
theorem C_tlog_hasherOf_eq (Q : Value → World → Prop) (a0 : Int) (w : World) (h :
  alC #[.int .i64 a0] 3 w fun p1 w2 =>
  alZ PP 100 w2 fun p3 w4 =>
  opnI .i64 (w4.cell? p1) fun x5 =>
  cond (decide (x5 < 1))
  (N_tlog_hasherOf.j2 Q p1 p3 w4)
  (opnI .i64 (w4.cell? p1) fun x6 =>
  cond (decide (x6 > 31))
  (N_tlog_hasherOf.j2 Q p1 p3 w4)
  (N_tlog_hasherOf.j3 Q p1 p3 w4))) :
C_tlog_hasherOf #[.int .i64 a0] w Q := C_fold K_tlog_hasherOf (by kernel_rfl) h
/-! ### (ledger/tlog.hasher).root -/
noncomputable def B_tlog_hasher_root : Code := match Tryz.f48.body with | some c => c | _ => .skip
noncomputable def X_tlog_hasher_root : Cx := { P := PP, fn := 48, N := 15, tab := tab, results := [.cell 4 54], iter := fun _ => (.none, .none), dyn := fun r => cond (Nat.beq r 9) true (false), live := fun _ => none }
theorem K_tlog_hasher_root : OkF X_tlog_hasher_root B_tlog_hasher_root Tryz.f48 := ⟨⟨tab_ok, mix_ok⟩, Tryz.func48, by kernel_rfl, by kernel_rfl, by kernel_rfl, by kernel_rfl⟩
theorem C_tlog_hasher_root_eq (Q : Value → World → Prop) (a0_0 : Int) (a0_1 : Value) (a0_2 : Value) (a0_3 : Value) (a1 : Option Addr) (a1n : Nat) (a1c : Nat) (w : World) (h :
  alC #[.int .i64 a0_0, a0_1, a0_2, a0_3] 100 w fun p1 w2 =>
  alZ PP 54 w2 fun p3 w4 =>
  cond (((a1n : Nat) : Int) == 0)
  (opnV (w4.cell? (p1.add 1)) fun x5 =>
  invk PP x5 #[.slice none 0 0] w4 fun v6 w7 =>
  opnG (some v6) fun x8 =>
  stRow p3 x8 (32 * 1) w7 fun w9 =>
  opnRow w9 p3 (32 * 1) fun x10 =>
  Q (.agg x10) w9)
  (opnI .i64 (w4.cell? (p1.add 0)) fun x11 =>
  opnV (w4.cell? (p1.add 1)) fun x12 =>
  opnV (w4.cell? (p1.add 2)) fun x13 =>
  opnV (w4.cell? (p1.add 3)) fun x14 =>
  C_tlog_fold #[.slice a1 a1n a1c, .func (.func 73) #[.agg #[.int .i64 x11, x12, x13, x14]] #[]] w4 fun v15 w16 =>
  opnG (some v15) fun x17 =>
  stRow p3 x17 (32 * 1) w16 fun w18 =>
  opnRow w18 p3 (32 * 1) fun x19 =>
  Q (.agg x19) w18)) :
C_tlog_hasher_root #[.agg #[.int .i64 a0_0, a0_1, a0_2, a0_3], .slice a1 a1n a1c] w Q := C_fold K_tlog_hasher_root (by kernel_rfl) h
/-! ### ledger/tlog.NodeHash -/
noncomputable def B_tlog_NodeHash : Code := match Tryz.f49.body with | some c => c | _ => .skip
noncomputable def X_tlog_NodeHash : Cx := { P := PP, fn := 49, N := 13, tab := tab, results := [.cell 6 54], iter := fun _ => (.none, .none), dyn := fun r => cond (Nat.beq r 9) true (false), live := fun _ => none }
theorem K_tlog_NodeHash : OkF X_tlog_NodeHash B_tlog_NodeHash Tryz.f49 := ⟨⟨tab_ok, mix_ok⟩, Tryz.func49, by kernel_rfl, by kernel_rfl, by kernel_rfl, by kernel_rfl⟩
theorem C_tlog_NodeHash_eq (Q : Value → World → Prop) (a0 : Int) (a1 : Array Value) (a2 : Array Value) (w : World) (h :
  alC a1 54 w fun p1 w2 =>
  alC a2 54 w2 fun p3 w4 =>
  alZ PP 54 w4 fun p5 w6 =>
  drw w6 fun w7 =>
  opnRow w7 p1 (32 * 1) fun x8 =>
  opnRow w7 p3 (32 * 1) fun x9 =>
  C_tlog_hasherOf #[.int .i64 a0] w7 fun v10 w11 =>
  opnG (some v10) fun x12 =>
  x12.size = 4 ∧
  opnI .i64 (x12[0]?) fun x13 =>
  opnV (x12[1]?) fun x14 =>
  opnV (x12[2]?) fun x15 =>
  opnV (x12[3]?) fun x16 =>
  (opnRow w11 p3 (32 * 1) fun x17 =>
  ((.agg x17) : Value) = .agg x9) ∧
  (opnRow w11 p1 (32 * 1) fun x18 =>
  ((.agg x18) : Value) = .agg x8) ∧
  invk PP x16 #[.agg x8, .agg x9] w11 fun v19 w20 =>
  opnG (some v19) fun x21 =>
  stRow p5 x21 (32 * 1) w20 fun w22 =>
  opnRow w22 p5 (32 * 1) fun x23 =>
  Q (.agg x23) w22) :
C_tlog_NodeHash #[.int .i64 a0, .agg a1, .agg a2] w Q := C_fold K_tlog_NodeHash (by kernel_rfl) h
/-! ### ledger/tile.seatOf -/
noncomputable def B_tile_seatOf : Code := match Tryz.f50.body with | some c => c | _ => .skip
noncomputable def X_tile_seatOf : Cx := { P := PP, fn := 50, N := 49, tab := tab, results := [.cell 4 105, .tmp 5], iter := fun _ => (.none, .none), dyn := fun _ => false, live := fun _ => none }
theorem K_tile_seatOf : OkF X_tile_seatOf B_tile_seatOf Tryz.f50 := ⟨⟨tab_ok, mix_ok⟩, Tryz.func50, by kernel_rfl, by kernel_rfl, by kernel_rfl, by kernel_rfl⟩
theorem C_tile_seatOf_eq (Q : Value → World → Prop) (a0 : Int) (a1 : Int) (w : World) (h :
  alC #[.int .i64 0, .int .i64 0, .int .i64 0, .int .i64 0, .bool false, .int .i64 0, .int .i64 0] 105 w fun p1 w2 =>
  C_tlog_SplitIndex #[.int .i64 a1] w2 fun v3 w4 =>
  opnT (some v3) fun x5 =>
  x5.size = 3 ∧
  opnI .i64 (x5[0]?) fun x6 =>
  opnI .i64 (x5[1]?) fun x7 =>
  opnI .i64 (x5[2]?) fun x8 =>
  cond (x8 != 0)
  (Array.size (#[.int .i64 0, .int .i64 0, .int .i64 0, .int .i64 0, .bool false, .int .i64 0, .int .i64 0] : Array Value) = 7 ∧
  stC (p1.add 0) (.int .i64 0) w4 fun w9 =>
  stC (p1.add 1) (.int .i64 0) w9 fun w10 =>
  stC (p1.add 2) (.int .i64 0) w10 fun w11 =>
  stC (p1.add 3) (.int .i64 0) w11 fun w12 =>
  stC (p1.add 4) (.bool false) w12 fun w13 =>
  stC (p1.add 5) (.int .i64 0) w13 fun w14 =>
  stC (p1.add 6) (.int .i64 0) w14 fun w15 =>
  opnI .i64 (w15.cell? (p1.add 0)) fun x16 =>
  opnI .i64 (w15.cell? (p1.add 1)) fun x17 =>
  opnI .i64 (w15.cell? (p1.add 2)) fun x18 =>
  opnI .i64 (w15.cell? (p1.add 3)) fun x19 =>
  opnB (w15.cell? (p1.add 4)) fun x20 =>
  opnI .i64 (w15.cell? (p1.add 5)) fun x21 =>
  opnI .i64 (w15.cell? (p1.add 6)) fun x22 =>
  Q (.tuple #[.agg #[.int .i64 x16, .int .i64 x17, .int .i64 x18, .int .i64 x19, .bool x20, .int .i64 x21, .int .i64 x22], .bool false]) w15)
  (drw w4 fun w23 =>
  a0 ≠ (0 : Int) ∧
  a0 ≠ (0 : Int) ∧
  nn (Int.tmod x6 a0) (
  C_tile_full #[.int .i64 a0] w23 fun v24 w25 =>
  opnI .i64 (some v24) fun x26 =>
  drw w25 fun w27 =>
  nn a0 (
  nn (Int.tmod x6 a0) (
  Array.size (#[.int .i64 a0, .int .i64 (IntKind.wrap .i64 (Int.tdiv x6 a0)), .int .i64 (shrI .i64 (shlI .i64 x7 (Int.tmod x6 a0)) a0), .int .i64 (IntKind.wrap .i64 ((bits .and .i64 (shlI .i64 x7 (Int.tmod x6 a0)) (IntKind.wrap .i64 (x26 - 1))) + (shlI .i64 1 (Int.tmod x6 a0)))), .bool false, .int .i64 (bits .and .i64 (shlI .i64 x7 (Int.tmod x6 a0)) (IntKind.wrap .i64 (x26 - 1))), .int .i64 (Int.tmod x6 a0)] : Array Value) = 7 ∧
  stC (p1.add 0) (.int .i64 a0) w27 fun w28 =>
  stC (p1.add 1) (.int .i64 (IntKind.wrap .i64 (Int.tdiv x6 a0))) w28 fun w29 =>
  stC (p1.add 2) (.int .i64 (shrI .i64 (shlI .i64 x7 (Int.tmod x6 a0)) a0)) w29 fun w30 =>
  stC (p1.add 3) (.int .i64 (IntKind.wrap .i64 ((bits .and .i64 (shlI .i64 x7 (Int.tmod x6 a0)) (IntKind.wrap .i64 (x26 - 1))) + (shlI .i64 1 (Int.tmod x6 a0))))) w30 fun w31 =>
  stC (p1.add 4) (.bool false) w31 fun w32 =>
  stC (p1.add 5) (.int .i64 (bits .and .i64 (shlI .i64 x7 (Int.tmod x6 a0)) (IntKind.wrap .i64 (x26 - 1)))) w32 fun w33 =>
  stC (p1.add 6) (.int .i64 (Int.tmod x6 a0)) w33 fun w34 =>
  opnI .i64 (w34.cell? (p1.add 0)) fun x35 =>
  opnI .i64 (w34.cell? (p1.add 1)) fun x36 =>
  opnI .i64 (w34.cell? (p1.add 2)) fun x37 =>
  opnI .i64 (w34.cell? (p1.add 3)) fun x38 =>
  opnB (w34.cell? (p1.add 4)) fun x39 =>
  opnI .i64 (w34.cell? (p1.add 5)) fun x40 =>
  opnI .i64 (w34.cell? (p1.add 6)) fun x41 =>
  Q (.tuple #[.agg #[.int .i64 x35, .int .i64 x36, .int .i64 x37, .int .i64 x38, .bool x39, .int .i64 x40, .int .i64 x41], .bool true]) w34))))) :
C_tile_seatOf #[.int .i64 a0, .int .i64 a1] w Q := C_fold K_tile_seatOf (by kernel_rfl) h
/-! ### ledger/tile.wide -/
noncomputable def B_tile_wide : Code := match Tryz.f51.body with | some c => c | _ => .skip
noncomputable def X_tile_wide : Cx := { P := PP, fn := 51, N := 15, tab := tab, results := [.cell 4 34], iter := fun _ => (.none, .none), dyn := fun _ => false, live := fun _ => none }
theorem K_tile_wide : OkF X_tile_wide B_tile_wide Tryz.f51 := ⟨⟨tab_ok, mix_ok⟩, Tryz.func51, by kernel_rfl, by kernel_rfl, by kernel_rfl, by kernel_rfl⟩
theorem C_tile_wide_eq (Q : Value → World → Prop) (a0_0 : Int) (a0_1 : Int) (a0_2 : Int) (a0_3 : Int) (a0_4 : Bool) (a1 : Int) (w : World) (h :
  alC #[.int .i64 a0_0, .int .i64 a0_1, .int .i64 a0_2, .int .i64 a0_3, .bool a0_4] 34 w fun p1 w2 =>
  alC #[.int .i64 0, .int .i64 0, .int .i64 0, .int .i64 0, .bool false] 34 w2 fun p3 w4 =>
  opnI .i64 (w4.cell? (p1.add 0)) fun x5 =>
  opnI .i64 (w4.cell? (p1.add 1)) fun x6 =>
  opnI .i64 (w4.cell? (p1.add 2)) fun x7 =>
  C_tile_widthOf #[.int .i64 x5, .int .i64 x6, .int .i64 x7, .int .i64 a1] w4 fun v8 w9 =>
  opnI .i64 (some v8) fun x10 =>
  stC (p1.add 3) (.int .i64 x10) w9 fun w11 =>
  opnI .i64 (w11.cell? (p1.add 0)) fun x12 =>
  opnI .i64 (w11.cell? (p1.add 1)) fun x13 =>
  opnI .i64 (w11.cell? (p1.add 2)) fun x14 =>
  opnI .i64 (w11.cell? (p1.add 3)) fun x15 =>
  opnB (w11.cell? (p1.add 4)) fun x16 =>
  Array.size (#[.int .i64 x12, .int .i64 x13, .int .i64 x14, .int .i64 x15, .bool x16] : Array Value) = 5 ∧
  stC (p3.add 0) (.int .i64 x12) w11 fun w17 =>
  stC (p3.add 1) (.int .i64 x13) w17 fun w18 =>
  stC (p3.add 2) (.int .i64 x14) w18 fun w19 =>
  stC (p3.add 3) (.int .i64 x15) w19 fun w20 =>
  stC (p3.add 4) (.bool x16) w20 fun w21 =>
  opnI .i64 (w21.cell? (p3.add 0)) fun x22 =>
  opnI .i64 (w21.cell? (p3.add 1)) fun x23 =>
  opnI .i64 (w21.cell? (p3.add 2)) fun x24 =>
  opnI .i64 (w21.cell? (p3.add 3)) fun x25 =>
  opnB (w21.cell? (p3.add 4)) fun x26 =>
  Q (.agg #[.int .i64 x22, .int .i64 x23, .int .i64 x24, .int .i64 x25, .bool x26]) w21) :
C_tile_wide #[.agg #[.int .i64 a0_0, .int .i64 a0_1, .int .i64 a0_2, .int .i64 a0_3, .bool a0_4], .int .i64 a1] w Q := C_fold K_tile_wide (by kernel_rfl) h
/-! ### ledger/tlog.Index -/
noncomputable def B_tlog_Index : Code := match Tryz.f52.body with | some c => c | _ => .skip
noncomputable def X_tlog_Index : Cx := { P := PP, fn := 52, N := 25, tab := tab, results := [.tmp 4, .tmp 5], iter := fun _ => (.none, .none), dyn := fun _ => false, live := fun r => cond (Nat.beq r 2) (some []) (none) }
theorem K_tlog_Index : OkF X_tlog_Index B_tlog_Index Tryz.f52 := ⟨⟨tab_ok, mix_ok⟩, Tryz.func52, by kernel_rfl, by kernel_rfl, by kernel_rfl, by kernel_rfl⟩
noncomputable def N_tlog_Index.j2 (Q : Value → World → Prop) (w : World) : Prop := Nd X_tlog_Index Q [] [.code (B_tlog_Index.r.l.r.l.l), .code (B_tlog_Index.r.l.r.l.r), .code (B_tlog_Index.r.r)] w
theorem N_tlog_Index.j2_eq (Q : Value → World → Prop) (w : World) (h :
  Q (.tuple #[.int .i64 0, .int .i64 1]) w) :
N_tlog_Index.j2 Q w := Nd_fold K_tlog_Index (by kernel_rfl) h
theorem C_tlog_Index_eq (Q : Value → World → Prop) (a0 : Int) (a1 : Int) (w : World) (h :
  cond (decide (a0 < 0))
  (N_tlog_Index.j2 Q w)
  (cond (decide (a0 > 48))
  (N_tlog_Index.j2 Q w)
  (cond (decide (a1 < 0))
  (N_tlog_Index.j2 Q w)
  (nn a0 (
  cond (decide (a1 ≥ (shrI .i64 281474976710656 a0)))
  (N_tlog_Index.j2 Q w)
  (C_tlog_place #[.int .i64 a0, .int .i64 a1] w fun v1 w2 =>
  opnI .i64 (some v1) fun x3 =>
  Q (.tuple #[.int .i64 x3, .int .i64 0]) w2)))))) :
C_tlog_Index #[.int .i64 a0, .int .i64 a1] w Q := C_fold K_tlog_Index (by kernel_rfl) h
/-! ### ledger/ledgerref08.laid -/
noncomputable def B_r08_laid : Code := match Tryz.f53.body with | some c => c | _ => .skip
noncomputable def X_r08_laid : Cx := { P := PP, fn := 53, N := 12, tab := tab, results := [.tmp 2], iter := fun _ => (.none, .none), dyn := fun _ => false, live := fun r => cond (Nat.beq r 2) (some [0, 3]) (none) }
theorem K_r08_laid : OkF X_r08_laid B_r08_laid Tryz.f53 := ⟨⟨tab_ok, mix_ok⟩, Tryz.func53, by kernel_rfl, by kernel_rfl, by kernel_rfl, by kernel_rfl⟩
noncomputable def N_r08_laid.j2 (Q : Value → World → Prop) (s0 : Int) (s3 : Int) (w : World) : Prop := Nd X_r08_laid Q [(0, 0, .int .i64 s0), (3, 3, .int .i64 s3)] [.code (B_r08_laid.r.r.l.l.l.l.l), .code (B_r08_laid.r.r.l.l.l.l.r), .code (B_r08_laid.r.r.l.l.l.r), .inLoop (B_r08_laid.r.r.l.l.l), .inBlock 0, .code (B_r08_laid.r.r.r)] w
theorem N_r08_laid.j2_eq (Q : Value → World → Prop) (s0 : Int) (s3 : Int) (w : World) (h :
  cond (decide (s0 > 0))
  (2 ≠ (0 : Int) ∧
  N_r08_laid.j2 Q (IntKind.wrap .i64 (Int.tdiv s0 2)) (IntKind.wrap .i64 (s3 + s0)) w)
  (Q (.int .i64 s3) w)) :
N_r08_laid.j2 Q s0 s3 w := Nd_fold K_r08_laid (by kernel_rfl) h
theorem C_r08_laid_eq (Q : Value → World → Prop) (a0 : Int) (w : World) (h :
  N_r08_laid.j2 Q a0 0 w) :
C_r08_laid #[.int .i64 a0] w Q := C_fold K_r08_laid (by kernel_rfl) h
/-! ### ledger/ledgerref08.power -/
noncomputable def B_r08_power : Code := match Tryz.f54.body with | some c => c | _ => .skip
noncomputable def X_r08_power : Cx := { P := PP, fn := 54, N := 13, tab := tab, results := [.tmp 2], iter := fun _ => (.none, .none), dyn := fun _ => false, live := fun r => cond (Nat.beq r 3) (some [0, 3, 4]) (none) }
theorem K_r08_power : OkF X_r08_power B_r08_power Tryz.f54 := ⟨⟨tab_ok, mix_ok⟩, Tryz.func54, by kernel_rfl, by kernel_rfl, by kernel_rfl, by kernel_rfl⟩
noncomputable def N_r08_power.j3 (Q : Value → World → Prop) (s0 : Int) (s3 : Int) (s4 : Int) (w : World) : Prop := Nd X_r08_power Q [(0, 0, .int .i64 s0), (3, 3, .int .i64 s3), (4, 4, .int .i64 s4)] [.code (B_r08_power.r.r.l.r.l.l.l.l), .code (B_r08_power.r.r.l.r.l.l.l.r), .code (B_r08_power.r.r.l.r.l.l.r), .inLoop (B_r08_power.r.r.l.r.l.l), .inBlock 0, .code (B_r08_power.r.r.r)] w
theorem N_r08_power.j3_eq (Q : Value → World → Prop) (s0 : Int) (s3 : Int) (s4 : Int) (w : World) (h :
  cond (decide (s4 < s0))
  (N_r08_power.j3 Q s0 (IntKind.wrap .i64 (2 * s3)) (IntKind.wrap .i64 (s4 + 1)) w)
  (Q (.int .i64 s3) w)) :
N_r08_power.j3 Q s0 s3 s4 w := Nd_fold K_r08_power (by kernel_rfl) h
theorem C_r08_power_eq (Q : Value → World → Prop) (a0 : Int) (w : World) (h :
  N_r08_power.j3 Q a0 1 0 w) :
C_r08_power #[.int .i64 a0] w Q := C_fold K_r08_power (by kernel_rfl) h
/-! ### ledger/ledgerref08.Index -/
noncomputable def B_r08_Index : Code := match Tryz.f55.body with | some c => c | _ => .skip
noncomputable def X_r08_Index : Cx := { P := PP, fn := 55, N := 38, tab := tab, results := [.tmp 4, .tmp 5], iter := fun _ => (.none, .none), dyn := fun _ => false, live := fun r => cond (Nat.beq r 2) (some []) (none) }
theorem K_r08_Index : OkF X_r08_Index B_r08_Index Tryz.f55 := ⟨⟨tab_ok, mix_ok⟩, Tryz.func55, by kernel_rfl, by kernel_rfl, by kernel_rfl, by kernel_rfl⟩
noncomputable def N_r08_Index.j2 (Q : Value → World → Prop) (w : World) : Prop := Nd X_r08_Index Q [] [.code (B_r08_Index.r.l.r.l.l), .code (B_r08_Index.r.l.r.l.r), .code (B_r08_Index.r.r)] w
theorem N_r08_Index.j2_eq (Q : Value → World → Prop) (w : World) (h :
  Q (.tuple #[.int .i64 0, .int .i64 1]) w) :
N_r08_Index.j2 Q w := Nd_fold K_r08_Index (by kernel_rfl) h
theorem C_r08_Index_eq (Q : Value → World → Prop) (a0 : Int) (a1 : Int) (w : World) (h :
  cond (decide (a0 < 0))
  (N_r08_Index.j2 Q w)
  (cond (decide (a0 > 48))
  (N_r08_Index.j2 Q w)
  (cond (decide (a1 < 0))
  (N_r08_Index.j2 Q w)
  (cond (decide (a1 ≥ 281474976710656))
  (N_r08_Index.j2 Q w)
  (C_r08_power #[.int .i64 a0] w fun v1 w2 =>
  opnI .i64 (some v1) fun x3 =>
  x3 ≠ (0 : Int) ∧
  cond (decide ((IntKind.wrap .i64 (a1 + 1)) > (IntKind.wrap .i64 (Int.tdiv 281474976710656 x3))))
  (Q (.tuple #[.int .i64 0, .int .i64 1]) w2)
  (C_r08_laid #[.int .i64 (IntKind.wrap .i64 ((IntKind.wrap .i64 ((IntKind.wrap .i64 (a1 + 1)) * x3)) - 1))] w2 fun v4 w5 =>
  opnI .i64 (some v4) fun x6 =>
  Q (.tuple #[.int .i64 (IntKind.wrap .i64 (x6 + a0)), .int .i64 0]) w5)))))) :
C_r08_Index #[.int .i64 a0, .int .i64 a1] w Q := C_fold K_r08_Index (by kernel_rfl) h
/-! ### ledger/ledgerref10.Width -/
noncomputable def B_r10_Width : Code := match Tryz.f56.body with | some c => c | _ => .skip
noncomputable def X_r10_Width : Cx := { P := PP, fn := 56, N := 56, tab := tab, results := [.tmp 8, .tmp 9], iter := fun _ => (.none, .none), dyn := fun _ => false, live := fun r => cond (Nat.beq r 2) (some []) (cond (Nat.beq r 9) (some [0, 11]) (cond (Nat.beq r 10) (some [0]) (cond (Nat.beq r 11) (some [11]) (none)))) }
theorem K_r10_Width : OkF X_r10_Width B_r10_Width Tryz.f56 := ⟨⟨tab_ok, mix_ok⟩, Tryz.func56, by kernel_rfl, by kernel_rfl, by kernel_rfl, by kernel_rfl⟩
noncomputable def N_r10_Width.j2 (Q : Value → World → Prop) (w : World) : Prop := Nd X_r10_Width Q [] [.code (B_r10_Width.r.l.r.l.l), .code (B_r10_Width.r.l.r.l.r), .code (B_r10_Width.r.r)] w
noncomputable def N_r10_Width.j9 (Q : Value → World → Prop) (s0 : Int) (s11 : Int) (w : World) : Prop := Nd X_r10_Width Q [(0, 0, .int .i64 s0), (11, 11, .int .i64 s11)] [.code (B_r10_Width.r.r.r.r.r.r.l.l), .code (B_r10_Width.r.r.r.r.r.r.l.r), .code (B_r10_Width.r.r.r.r.r.r.r)] w
noncomputable def N_r10_Width.j10 (Q : Value → World → Prop) (s0 : Int) (w : World) : Prop := Nd X_r10_Width Q [(0, 0, .int .i64 s0)] [.code (B_r10_Width.r.r.r.r.r.r.l.r.l), .code (B_r10_Width.r.r.r.r.r.r.r)] w
noncomputable def N_r10_Width.j11 (Q : Value → World → Prop) (s11 : Int) (w : World) : Prop := Nd X_r10_Width Q [(11, 11, .int .i64 s11)] [.code (B_r10_Width.r.r.r.r.r.r.r.l), .code (B_r10_Width.r.r.r.r.r.r.r.r)] w
theorem N_r10_Width.j2_eq (Q : Value → World → Prop) (w : World) (h :
  Q (.tuple #[.int .i64 0, .int .i64 1]) w) :
N_r10_Width.j2 Q w := Nd_fold K_r10_Width (by kernel_rfl) h
theorem N_r10_Width.j9_eq (Q : Value → World → Prop) (s0 : Int) (s11 : Int) (w : World) (h :
  C_r10_power #[.int .i64 s0] w fun v1 w2 =>
  opnI .i64 (some v1) fun x3 =>
  cond (decide (s11 > x3))
  (N_r10_Width.j10 Q s0 w2)
  (N_r10_Width.j11 Q s11 w2)) :
N_r10_Width.j9 Q s0 s11 w := Nd_fold K_r10_Width (by kernel_rfl) h
theorem N_r10_Width.j10_eq (Q : Value → World → Prop) (s0 : Int) (w : World) (h :
  C_r10_power #[.int .i64 s0] w fun v1 w2 =>
  opnI .i64 (some v1) fun x3 =>
  N_r10_Width.j11 Q x3 w2) :
N_r10_Width.j10 Q s0 w := Nd_fold K_r10_Width (by kernel_rfl) h
theorem N_r10_Width.j11_eq (Q : Value → World → Prop) (s11 : Int) (w : World) (h :
  Q (.tuple #[.int .i64 s11, .int .i64 0]) w) :
N_r10_Width.j11 Q s11 w := Nd_fold K_r10_Width (by kernel_rfl) h
theorem C_r10_Width_eq (Q : Value → World → Prop) (a0 : Int) (a1 : Int) (a2 : Int) (a3 : Int) (w : World) (h :
  cond (decide (a0 < 1))
  (N_r10_Width.j2 Q w)
  (cond (decide (a0 > 8))
  (N_r10_Width.j2 Q w)
  (cond (decide (a1 < 0))
  (N_r10_Width.j2 Q w)
  (cond (decide (a2 < 0))
  (N_r10_Width.j2 Q w)
  (cond (decide (a3 < 0))
  (N_r10_Width.j2 Q w)
  (cond (decide (a3 > 281474976710656))
  (N_r10_Width.j2 Q w)
  (C_r10_nodes #[.int .i64 a0, .int .i64 a1, .int .i64 a3] w fun v1 w2 =>
  opnI .i64 (some v1) fun x3 =>
  cond (decide (a2 > x3))
  (Q (.tuple #[.int .i64 0, .int .i64 0]) w2)
  (C_r10_power #[.int .i64 a0] w2 fun v4 w5 =>
  opnI .i64 (some v4) fun x6 =>
  cond (decide ((IntKind.wrap .i64 (x3 - (IntKind.wrap .i64 (a2 * x6)))) < 0))
  (N_r10_Width.j9 Q a0 0 w5)
  (N_r10_Width.j9 Q a0 (IntKind.wrap .i64 (x3 - (IntKind.wrap .i64 (a2 * x6)))) w5))))))))) :
C_r10_Width #[.int .i64 a0, .int .i64 a1, .int .i64 a2, .int .i64 a3] w Q := C_fold K_r10_Width (by kernel_rfl) h
/-! ### ledger/ledgerref08.Empty -/
noncomputable def B_r08_Empty : Code := match Tryz.f57.body with | some c => c | _ => .skip
noncomputable def X_r08_Empty : Cx := { P := PP, fn := 57, N := 8, tab := tab, results := [.cell 2 22], iter := fun _ => (.none, .none), dyn := fun _ => false, live := fun _ => none }
theorem K_r08_Empty : OkF X_r08_Empty B_r08_Empty Tryz.f57 := ⟨⟨tab_ok, mix_ok⟩, Tryz.func57, by kernel_rfl, by kernel_rfl, by kernel_rfl, by kernel_rfl⟩
theorem C_r08_Empty_eq (Q : Value → World → Prop) (a0 : Int) (w : World) (h :
  alZ PP 22 w fun p1 w2 =>
  C_r01_Sum256 #[.slice none 0 0] w2 fun v3 w4 =>
  opnG (some v3) fun x5 =>
  alZ PP 22 w4 fun p6 w7 =>
  stRow p6 x5 (32 * 1) w7 fun w8 =>
  opnRow w8 p6 (32 * 1) fun x9 =>
  C_r08_weak #[.int .i64 a0, .agg x9] w8 fun v10 w11 =>
  opnG (some v10) fun x12 =>
  stRow p1 x12 (32 * 1) w11 fun w13 =>
  opnRow w13 p1 (32 * 1) fun x14 =>
  Q (.agg x14) w13) :
C_r08_Empty #[.int .i64 a0] w Q := C_fold K_r08_Empty (by kernel_rfl) h
/-! ### ledger/ledgerref08.Node -/
noncomputable def B_r08_Node : Code := match Tryz.f58.body with | some c => c | _ => .skip
noncomputable def X_r08_Node : Cx := { P := PP, fn := 58, N := 37, tab := tab, results := [.cell 6 22], iter := fun _ => (.none, .none), dyn := fun _ => false, live := fun r => cond (Nat.beq r 3) (some [0, 4, 5, 6, 7, 8]) (cond (Nat.beq r 7) (some [0, 5, 6, 7, 9]) (none)) }
theorem K_r08_Node : OkF X_r08_Node B_r08_Node Tryz.f58 := ⟨⟨tab_ok, mix_ok⟩, Tryz.func58, by kernel_rfl, by kernel_rfl, by kernel_rfl, by kernel_rfl⟩
noncomputable def N_r08_Node.j3 (Q : Value → World → Prop) (s0 : Int) (s4 : Addr) (s5 : Addr) (s6 : Addr) (s7 : Option Addr) (s7n : Nat) (s7c : Nat) (s8 : Int) (w : World) : Prop := Nd X_r08_Node Q [(0, 0, .int .i64 s0), (4, 4, .pointer (some s4)), (5, 5, .pointer (some s5)), (6, 6, .pointer (some s6)), (7, 7, .slice s7 s7n s7c), (8, 8, .int .i64 s8)] [.code (B_r08_Node.r.r.l.r.l.l.l.l), .code (B_r08_Node.r.r.l.r.l.l.l.r), .code (B_r08_Node.r.r.l.r.l.l.r), .inLoop (B_r08_Node.r.r.l.r.l.l), .inBlock 0, .code (B_r08_Node.r.r.r)] w
noncomputable def N_r08_Node.j7 (Q : Value → World → Prop) (s0 : Int) (s5 : Addr) (s6 : Addr) (s7 : Option Addr) (s7n : Nat) (s7c : Nat) (s9 : Int) (w : World) : Prop := Nd X_r08_Node Q [(0, 0, .int .i64 s0), (5, 5, .pointer (some s5)), (6, 6, .pointer (some s6)), (7, 7, .slice s7 s7n s7c), (9, 9, .int .i64 s9)] [.code (B_r08_Node.r.r.r.l.r.l.l.l.l), .code (B_r08_Node.r.r.r.l.r.l.l.l.r), .code (B_r08_Node.r.r.r.l.r.l.l.r), .inLoop (B_r08_Node.r.r.r.l.r.l.l), .inBlock 2, .code (B_r08_Node.r.r.r.r)] w
theorem N_r08_Node.j3_eq (Q : Value → World → Prop) (s0 : Int) (s4 : Addr) (s5 : Addr) (s6 : Addr) (s7 : Option Addr) (s7n : Nat) (s7c : Nat) (s8 : Int) (w : World) (h :
  cond (decide (s8 < 32))
  ((0 : Int) ≤ s8 ∧
  s8 < ((32 : Nat) : Int) ∧
  opnI .u8 (w.cell? (s4.add (Int.toNat s8 * 1))) fun x1 =>
  alC #[.int .u8 x1] 5 w fun p2 w3 =>
  sem PP (Builtin.append_ #[29, 29] 29 #[.slice s7 s7n s7c, .slice (some p2) 1 1]) w3 fun v4 w5 =>
  opnL (some v4) fun x6 x6n x6c =>
  N_r08_Node.j3 Q s0 s4 s5 s6 x6 x6n x6c (IntKind.wrap .i64 (s8 + 1)) w5)
  (N_r08_Node.j7 Q s0 s5 s6 s7 s7n s7c 0 w)) :
N_r08_Node.j3 Q s0 s4 s5 s6 s7 s7n s7c s8 w := Nd_fold K_r08_Node (by kernel_rfl) h
theorem N_r08_Node.j7_eq (Q : Value → World → Prop) (s0 : Int) (s5 : Addr) (s6 : Addr) (s7 : Option Addr) (s7n : Nat) (s7c : Nat) (s9 : Int) (w : World) (h :
  cond (decide (s9 < 32))
  ((0 : Int) ≤ s9 ∧
  s9 < ((32 : Nat) : Int) ∧
  opnI .u8 (w.cell? (s5.add (Int.toNat s9 * 1))) fun x1 =>
  alC #[.int .u8 x1] 5 w fun p2 w3 =>
  sem PP (Builtin.append_ #[29, 29] 29 #[.slice s7 s7n s7c, .slice (some p2) 1 1]) w3 fun v4 w5 =>
  opnL (some v4) fun x6 x6n x6c =>
  N_r08_Node.j7 Q s0 s5 s6 x6 x6n x6c (IntKind.wrap .i64 (s9 + 1)) w5)
  (C_r01_Sum256 #[.slice s7 s7n s7c] w fun v7 w8 =>
  opnG (some v7) fun x9 =>
  alZ PP 22 w8 fun p10 w11 =>
  stRow p10 x9 (32 * 1) w11 fun w12 =>
  opnRow w12 p10 (32 * 1) fun x13 =>
  C_r08_weak #[.int .i64 s0, .agg x13] w12 fun v14 w15 =>
  opnG (some v14) fun x16 =>
  stRow s6 x16 (32 * 1) w15 fun w17 =>
  opnRow w17 s6 (32 * 1) fun x18 =>
  Q (.agg x18) w17)) :
N_r08_Node.j7 Q s0 s5 s6 s7 s7n s7c s9 w := Nd_fold K_r08_Node (by kernel_rfl) h
theorem C_r08_Node_eq (Q : Value → World → Prop) (a0 : Int) (a1 : Array Value) (a2 : Array Value) (w : World) (h :
  alC a1 22 w fun p1 w2 =>
  alC a2 22 w2 fun p3 w4 =>
  alZ PP 22 w4 fun p5 w6 =>
  alC #[.int .u8 1] 5 w6 fun p7 w8 =>
  N_r08_Node.j3 Q a0 p1 p3 p5 (some p7) 1 1 0 w8) :
C_r08_Node #[.int .i64 a0, .agg a1, .agg a2] w Q := C_fold K_r08_Node (by kernel_rfl) h
/-! ### ledger/ledgerref10.hashAt -/
noncomputable def B_r10_hashAt : Code := match Tryz.f59.body with | some c => c | _ => .skip
noncomputable def X_r10_hashAt : Cx := { P := PP, fn := 59, N := 21, tab := tab, results := [.cell 4 22], iter := fun _ => (.none, .none), dyn := fun _ => false, live := fun r => cond (Nat.beq r 3) (some [0, 1, 4, 5, 6]) (none) }
theorem K_r10_hashAt : OkF X_r10_hashAt B_r10_hashAt Tryz.f59 := ⟨⟨tab_ok, mix_ok⟩, Tryz.func59, by kernel_rfl, by kernel_rfl, by kernel_rfl, by kernel_rfl⟩
noncomputable def N_r10_hashAt.j3 (Q : Value → World → Prop) (s0 : Option Addr) (s0n : Nat) (s0c : Nat) (s1 : Int) (s4 : Addr) (s5 : Addr) (s6 : Int) (w : World) : Prop := Nd X_r10_hashAt Q [(0, 0, .slice s0 s0n s0c), (1, 1, .int .i64 s1), (4, 4, .pointer (some s4)), (5, 5, .pointer (some s5)), (6, 6, .int .i64 s6)] [.code (B_r10_hashAt.r.r.l.r.l.l.l.l), .code (B_r10_hashAt.r.r.l.r.l.l.l.r), .code (B_r10_hashAt.r.r.l.r.l.l.r), .inLoop (B_r10_hashAt.r.r.l.r.l.l), .inBlock 0, .code (B_r10_hashAt.r.r.r)] w
theorem N_r10_hashAt.j3_eq (Q : Value → World → Prop) (s0 : Option Addr) (s0n : Nat) (s0c : Nat) (s1 : Int) (s4 : Addr) (s5 : Addr) (s6 : Int) (w : World) (h :
  cond (decide (s6 < 32))
  ((0 : Int) ≤ IntKind.wrap .i64 ((IntKind.wrap .i64 (32 * s1)) + s6) ∧
  (IntKind.wrap .i64 ((IntKind.wrap .i64 (32 * s1)) + s6)) < ((s0n : Nat) : Int) ∧
  opnA s0 fun ad1 =>
  opnI .u8 (w.cell? (ad1.add (Int.toNat (IntKind.wrap .i64 ((IntKind.wrap .i64 (32 * s1)) + s6)) * 1))) fun x2 =>
  (0 : Int) ≤ s6 ∧
  s6 < ((32 : Nat) : Int) ∧
  stC (s5.add (Int.toNat s6 * 1)) (.int .u8 x2) w fun w3 =>
  N_r10_hashAt.j3 Q s0 s0n s0c s1 s4 s5 (IntKind.wrap .i64 (s6 + 1)) w3)
  (opnRow w s5 (32 * 1) fun x4 =>
  stRow s4 x4 (32 * 1) w fun w5 =>
  opnRow w5 s4 (32 * 1) fun x6 =>
  Q (.agg x6) w5)) :
N_r10_hashAt.j3 Q s0 s0n s0c s1 s4 s5 s6 w := Nd_fold K_r10_hashAt (by kernel_rfl) h
theorem C_r10_hashAt_eq (Q : Value → World → Prop) (a0 : Option Addr) (a0n : Nat) (a0c : Nat) (a1 : Int) (w : World) (h :
  alZ PP 22 w fun p1 w2 =>
  alZ PP 22 w2 fun p3 w4 =>
  N_r10_hashAt.j3 Q a0 a0n a0c a1 p1 p3 0 w4) :
C_r10_hashAt #[.slice a0 a0n a0c, .int .i64 a1] w Q := C_fold K_r10_hashAt (by kernel_rfl) h
/-! ### ledger/ledgerref08.record -/
noncomputable def B_r08_record : Code := match Tryz.f60.body with | some c => c | _ => .skip
noncomputable def X_r08_record : Cx := { P := PP, fn := 60, N := 22, tab := tab, results := [.tmp 2], iter := fun _ => (.none, .none), dyn := fun _ => false, live := fun r => cond (Nat.beq r 3) (some [0, 3, 4]) (none) }
theorem K_r08_record : OkF X_r08_record B_r08_record Tryz.f60 := ⟨⟨tab_ok, mix_ok⟩, Tryz.func60, by kernel_rfl, by kernel_rfl, by kernel_rfl, by kernel_rfl⟩
noncomputable def N_r08_record.j3 (Q : Value → World → Prop) (s0 : Int) (s3 : Int) (s4 : Int) (w : World) : Prop := Nd X_r08_record Q [(0, 0, .int .i64 s0), (3, 3, .int .i64 s3), (4, 4, .int .i64 s4)] [.code (B_r08_record.r.r.r.l.l.l.l.l), .code (B_r08_record.r.r.r.l.l.l.l.r), .code (B_r08_record.r.r.r.l.l.l.r), .inLoop (B_r08_record.r.r.r.l.l.l), .inBlock 0, .code (B_r08_record.r.r.r.r)] w
theorem N_r08_record.j3_eq (Q : Value → World → Prop) (s0 : Int) (s3 : Int) (s4 : Int) (w : World) (h :
  cond (decide (s3 < s4))
  (2 ≠ (0 : Int) ∧
  C_r08_laid #[.int .i64 (IntKind.wrap .i64 (Int.tdiv (IntKind.wrap .i64 ((IntKind.wrap .i64 (s3 + s4)) + 1)) 2))] w fun v1 w2 =>
  opnI .i64 (some v1) fun x3 =>
  cond (decide (x3 ≤ s0))
  (N_r08_record.j3 Q s0 (IntKind.wrap .i64 (Int.tdiv (IntKind.wrap .i64 ((IntKind.wrap .i64 (s3 + s4)) + 1)) 2)) s4 w2)
  (N_r08_record.j3 Q s0 s3 (IntKind.wrap .i64 ((IntKind.wrap .i64 (Int.tdiv (IntKind.wrap .i64 ((IntKind.wrap .i64 (s3 + s4)) + 1)) 2)) - 1)) w2))
  (Q (.int .i64 s3) w)) :
N_r08_record.j3 Q s0 s3 s4 w := Nd_fold K_r08_record (by kernel_rfl) h
theorem C_r08_record_eq (Q : Value → World → Prop) (a0 : Int) (w : World) (h :
  N_r08_record.j3 Q a0 0 281474976710656 w) :
C_r08_record #[.int .i64 a0] w Q := C_fold K_r08_record (by kernel_rfl) h
/-! ### ledger/tlog.count -/
noncomputable def B_tlog_count : Code := match Tryz.f61.body with | some c => c | _ => .skip
noncomputable def X_tlog_count : Cx := { P := PP, fn := 61, N := 9, tab := tab, results := [.tmp 2], iter := fun _ => (.none, .none), dyn := fun _ => false, live := fun _ => none }
theorem K_tlog_count : OkF X_tlog_count B_tlog_count Tryz.f61 := ⟨⟨tab_ok, mix_ok⟩, Tryz.func61, by kernel_rfl, by kernel_rfl, by kernel_rfl, by kernel_rfl⟩
theorem C_tlog_count_eq (Q : Value → World → Prop) (a0 : Int) (w : World) (h :
  C_math_bits_OnesCount64 #[.int .u64 (IntKind.wrap .u64 a0)] w fun v1 w2 =>
  opnI .i64 (some v1) fun x3 =>
  Q (.int .i64 (IntKind.wrap .i64 ((IntKind.wrap .i64 (2 * a0)) - x3))) w2) :
C_tlog_count #[.int .i64 a0] w Q := C_fold K_tlog_count (by kernel_rfl) h
/-! ### ledger/tlog.place -/
noncomputable def B_tlog_place : Code := match Tryz.f67.body with | some c => c | _ => .skip
noncomputable def X_tlog_place : Cx := { P := PP, fn := 67, N := 13, tab := tab, results := [.tmp 4], iter := fun _ => (.none, .none), dyn := fun _ => false, live := fun _ => none }
theorem K_tlog_place : OkF X_tlog_place B_tlog_place Tryz.f67 := ⟨⟨tab_ok, mix_ok⟩, Tryz.func67, by kernel_rfl, by kernel_rfl, by kernel_rfl, by kernel_rfl⟩
theorem C_tlog_place_eq (Q : Value → World → Prop) (a0 : Int) (a1 : Int) (w : World) (h :
  nn a0 (
  C_tlog_count #[.int .i64 (IntKind.wrap .i64 ((shlI .i64 (IntKind.wrap .i64 (a1 + 1)) a0) - 1))] w fun v1 w2 =>
  opnI .i64 (some v1) fun x3 =>
  Q (.int .i64 (IntKind.wrap .i64 (x3 + a0))) w2)) :
C_tlog_place #[.int .i64 a0, .int .i64 a1] w Q := C_fold K_tlog_place (by kernel_rfl) h
/-! ### ledger/tlog.hasherOf$1 -/
noncomputable def B_tlog_hasherOf_S1 : Code := match Tryz.f68.body with | some c => c | _ => .skip
noncomputable def X_tlog_hasherOf_S1 : Cx := { P := PP, fn := 68, N := 10, tab := tab, results := [.cell 3 54], iter := fun _ => (.none, .none), dyn := fun _ => false, live := fun _ => none }
theorem K_tlog_hasherOf_S1 : OkF X_tlog_hasherOf_S1 B_tlog_hasherOf_S1 Tryz.f68 := ⟨⟨tab_ok, mix_ok⟩, Tryz.func68, by kernel_rfl, by kernel_rfl, by kernel_rfl, by kernel_rfl⟩
theorem C_tlog_hasherOf_S1_eq (Q : Value → World → Prop) (a0 : Option Addr) (a0n : Nat) (a0c : Nat) (f0 : Addr) (w : World) (h :
  alZ PP 54 w fun p1 w2 =>
  C_sha_Sum256 #[.slice a0 a0n a0c] w2 fun v3 w4 =>
  opnG (some v3) fun x5 =>
  alZ PP 54 w4 fun p6 w7 =>
  stRow p6 x5 (32 * 1) w7 fun w8 =>
  opnI .i64 (w8.cell? f0) fun x9 =>
  (0 : Int) ≤ x9 ∧
  x9 ≤ ((32 : Nat) : Int) ∧
  sem PP (Builtin.clear_ #[29] 0 #[.slice (slP p6 (Int.toNat x9) 32 1) (32 - (Int.toNat x9)) (32 - (Int.toNat x9))]) w8 fun v10 w11 =>
  opnRow w11 p6 (32 * 1) fun x12 =>
  stRow p1 x12 (32 * 1) w11 fun w13 =>
  opnRow w13 p1 (32 * 1) fun x14 =>
  Q (.agg x14) w13) :
C_tlog_hasherOf_S1 #[.slice a0 a0n a0c, .pointer (some f0)] w Q := C_fold K_tlog_hasherOf_S1 (by kernel_rfl) h
/-! ### ledger/sha.Sum256 -/
noncomputable def B_sha_Sum256 : Code := match Tryz.f69.body with | some c => c | _ => .skip
noncomputable def X_sha_Sum256 : Cx := { P := PP, fn := 69, N := 16, tab := tab, results := [.cell 2 54], iter := fun _ => (.none, .none), dyn := fun _ => false, live := fun _ => none }
theorem K_sha_Sum256 : OkF X_sha_Sum256 B_sha_Sum256 Tryz.f69 := ⟨⟨tab_ok, mix_ok⟩, Tryz.func69, by kernel_rfl, by kernel_rfl, by kernel_rfl, by kernel_rfl⟩
theorem C_sha_Sum256_eq (Q : Value → World → Prop) (a0 : Option Addr) (a0n : Nat) (a0c : Nat) (w : World) (h :
  alZ PP 54 w fun p1 w2 =>
  C_sha_New #[.int .i64 256] w2 fun v3 w4 =>
  opnT (some v3) fun x5 =>
  x5.size = 2 ∧
  opnP (x5[0]?) fun x6 =>
  opnI .i64 (x5[1]?) fun x7 =>
  C_p_sha_Digest_Write #[.pointer x6, .slice a0 a0n a0c] w4 fun v8 w9 =>
  opnT (some v8) fun x10 =>
  x10.size = 0 ∧
  C_p_sha_Digest_Sum #[.pointer x6] w9 fun v11 w12 =>
  opnL (some v11) fun x13 x13n x13c =>
  32 ≤ x13n ∧
  opnA x13 fun ad14 =>
  opnRow w12 ad14 (32 * 1) fun x15 =>
  stRow p1 x15 (32 * 1) w12 fun w16 =>
  opnRow w16 p1 (32 * 1) fun x17 =>
  Q (.agg x17) w16) :
C_sha_Sum256 #[.slice a0 a0n a0c] w Q := C_fold K_sha_Sum256 (by kernel_rfl) h
/-! ### ledger/tlog.hasherOf$3 -/
noncomputable def B_tlog_hasherOf_S3 : Code := match Tryz.f71.body with | some c => c | _ => .skip
noncomputable def X_tlog_hasherOf_S3 : Cx := { P := PP, fn := 71, N := 19, tab := tab, results := [.cell 5 54], iter := fun _ => (.none, .none), dyn := fun r => cond (Nat.beq r 14) true (false), live := fun _ => none }
theorem K_tlog_hasherOf_S3 : OkF X_tlog_hasherOf_S3 B_tlog_hasherOf_S3 Tryz.f71 := ⟨⟨tab_ok, mix_ok⟩, Tryz.func71, by kernel_rfl, by kernel_rfl, by kernel_rfl, by kernel_rfl⟩
theorem C_tlog_hasherOf_S3_eq (Q : Value → World → Prop) (a0 : Array Value) (a1 : Array Value) (f0 : Addr) (w : World) (h :
  alC a0 54 w fun p1 w2 =>
  alC a1 54 w2 fun p3 w4 =>
  alZ PP 54 w4 fun p5 w6 =>
  sem PP (Instr.makeSlice 29 (.int .i64 0) (.int .i64 65)) w6 fun v7 w8 =>
  opnL (some v7) fun x9 x9n x9c =>
  alC #[.int .u8 1] 5 w8 fun p10 w11 =>
  sem PP (Builtin.append_ #[29, 29] 29 #[.slice x9 x9n x9c, .slice (some p10) 1 1]) w11 fun v12 w13 =>
  opnL (some v12) fun x14 x14n x14c =>
  sem PP (Builtin.append_ #[29, 29] 29 #[.slice x14 x14n x14c, .slice (slP p1 0 32 1) (32 - 0) (32 - 0)]) w13 fun v15 w16 =>
  opnL (some v15) fun x17 x17n x17c =>
  drw w16 fun w18 =>
  opnV (w18.cell? f0) fun x19 =>
  sem PP (Builtin.append_ #[29, 29] 29 #[.slice x17 x17n x17c, .slice (slP p3 0 32 1) (32 - 0) (32 - 0)]) w18 fun v20 w21 =>
  opnL (some v20) fun x22 x22n x22c =>
  (opnV (w21.cell? f0) fun x23 =>
  ((x23) : Value) = x19) ∧
  invk PP x19 #[.slice x22 x22n x22c] w21 fun v24 w25 =>
  opnG (some v24) fun x26 =>
  stRow p5 x26 (32 * 1) w25 fun w27 =>
  opnRow w27 p5 (32 * 1) fun x28 =>
  Q (.agg x28) w27) :
C_tlog_hasherOf_S3 #[.agg a0, .agg a1, .pointer (some f0)] w Q := C_fold K_tlog_hasherOf_S3 (by kernel_rfl) h
/-! ### ledger/tlog.fold -/
noncomputable def B_tlog_fold : Code := match Tryz.f72.body with | some c => c | _ => .skip
noncomputable def X_tlog_fold : Cx := { P := PP, fn := 72, N := 29, tab := tab, results := [.cell 4 54], iter := fun _ => (.none, .none), dyn := fun r => cond (Nat.beq r 21) true (false), live := fun r => cond (Nat.beq r 4) (some [0, 1, 4, 6, 7]) (none) }
theorem K_tlog_fold : OkF X_tlog_fold B_tlog_fold Tryz.f72 := ⟨⟨tab_ok, mix_ok⟩, Tryz.func72, by kernel_rfl, by kernel_rfl, by kernel_rfl, by kernel_rfl⟩
noncomputable def N_tlog_fold.j4 (Q : Value → World → Prop) (s0 : Option Addr) (s0n : Nat) (s0c : Nat) (s1 : Value) (s4 : Addr) (s6 : Addr) (s7 : Int) (w : World) : Prop := Nd X_tlog_fold Q [(0, 0, .slice s0 s0n s0c), (1, 1, s1), (4, 4, .pointer (some s4)), (6, 6, .pointer (some s6)), (7, 7, .int .i64 s7)] [.code (B_tlog_fold.r.r.r.l.r.l.l.l.l), .code (B_tlog_fold.r.r.r.l.r.l.l.l.r), .code (B_tlog_fold.r.r.r.l.r.l.l.r), .inLoop (B_tlog_fold.r.r.r.l.r.l.l), .inBlock 0, .code (B_tlog_fold.r.r.r.r)] w
theorem N_tlog_fold.j4_eq (Q : Value → World → Prop) (s0 : Option Addr) (s0n : Nat) (s0c : Nat) (s1 : Value) (s4 : Addr) (s6 : Addr) (s7 : Int) (w : World) (h :
  cond (decide (s7 ≥ 0))
  (drw w fun w1 =>
  (0 : Int) ≤ s7 ∧
  s7 < ((s0n : Nat) : Int) ∧
  opnA s0 fun ad2 =>
  opnRow w1 (ad2.add (Int.toNat s7 * 32)) (32 * 1) fun x3 =>
  opnRow w1 s6 (32 * 1) fun x4 =>
  invk PP s1 #[.agg x3, .agg x4] w1 fun v5 w6 =>
  opnG (some v5) fun x7 =>
  stRow s6 x7 (32 * 1) w6 fun w8 =>
  N_tlog_fold.j4 Q s0 s0n s0c s1 s4 s6 (IntKind.wrap .i64 (s7 - 1)) w8)
  (opnRow w s6 (32 * 1) fun x9 =>
  stRow s4 x9 (32 * 1) w fun w10 =>
  opnRow w10 s4 (32 * 1) fun x11 =>
  Q (.agg x11) w10)) :
N_tlog_fold.j4 Q s0 s0n s0c s1 s4 s6 s7 w := Nd_fold K_tlog_fold (by kernel_rfl) h
theorem C_tlog_fold_eq (Q : Value → World → Prop) (a0 : Option Addr) (a0n : Nat) (a0c : Nat) (a1 : Value) (w : World) (h :
  alZ PP 54 w fun p1 w2 =>
  (0 : Int) ≤ IntKind.wrap .i64 (((a0n : Nat) : Int) - 1) ∧
  (IntKind.wrap .i64 (((a0n : Nat) : Int) - 1)) < ((a0n : Nat) : Int) ∧
  opnA a0 fun ad3 =>
  opnRow w2 (ad3.add (Int.toNat (IntKind.wrap .i64 (((a0n : Nat) : Int) - 1)) * 32)) (32 * 1) fun x4 =>
  alZ PP 54 w2 fun p5 w6 =>
  stRow p5 x4 (32 * 1) w6 fun w7 =>
  N_tlog_fold.j4 Q a0 a0n a0c a1 p1 p5 (IntKind.wrap .i64 ((IntKind.wrap .i64 (((a0n : Nat) : Int) - 1)) - 1)) w7) :
C_tlog_fold #[.slice a0 a0n a0c, a1] w Q := C_fold K_tlog_fold (by kernel_rfl) h
/-! ### ledger/tlog.SplitIndex -/
noncomputable def B_tlog_SplitIndex : Code := match Tryz.f74.body with | some c => c | _ => .skip
noncomputable def X_tlog_SplitIndex : Cx := { P := PP, fn := 74, N := 26, tab := tab, results := [.tmp 2, .tmp 3, .tmp 4], iter := fun _ => (.none, .none), dyn := fun _ => false, live := fun r => cond (Nat.beq r 2) (some []) (none) }
theorem K_tlog_SplitIndex : OkF X_tlog_SplitIndex B_tlog_SplitIndex Tryz.f74 := ⟨⟨tab_ok, mix_ok⟩, Tryz.func74, by kernel_rfl, by kernel_rfl, by kernel_rfl, by kernel_rfl⟩
noncomputable def N_tlog_SplitIndex.j2 (Q : Value → World → Prop) (w : World) : Prop := Nd X_tlog_SplitIndex Q [] [.code (B_tlog_SplitIndex.r.l.r.l.l), .code (B_tlog_SplitIndex.r.l.r.l.r), .code (B_tlog_SplitIndex.r.r)] w
theorem N_tlog_SplitIndex.j2_eq (Q : Value → World → Prop) (w : World) (h :
  Q (.tuple #[.int .i64 0, .int .i64 0, .int .i64 1]) w) :
N_tlog_SplitIndex.j2 Q w := Nd_fold K_tlog_SplitIndex (by kernel_rfl) h
theorem C_tlog_SplitIndex_eq (Q : Value → World → Prop) (a0 : Int) (w : World) (h :
  cond (decide (a0 < 0))
  (N_tlog_SplitIndex.j2 Q w)
  (C_tlog_count #[.int .i64 281474976710656] w fun v1 w2 =>
  opnI .i64 (some v1) fun x3 =>
  cond (decide (a0 ≥ x3))
  (N_tlog_SplitIndex.j2 Q w2)
  (C_tlog_filled #[.int .i64 a0] w2 fun v4 w5 =>
  opnI .i64 (some v4) fun x6 =>
  C_tlog_count #[.int .i64 x6] w5 fun v7 w8 =>
  opnI .i64 (some v7) fun x9 =>
  drw w8 fun w10 =>
  nn (IntKind.wrap .i64 (a0 - x9)) (
  Q (.tuple #[.int .i64 (IntKind.wrap .i64 (a0 - x9)), .int .i64 (IntKind.wrap .i64 ((shrI .i64 (IntKind.wrap .i64 (x6 + 1)) (IntKind.wrap .i64 (a0 - x9))) - 1)), .int .i64 0]) w10)))) :
C_tlog_SplitIndex #[.int .i64 a0] w Q := C_fold K_tlog_SplitIndex (by kernel_rfl) h
/-! ### ledger/tile.widthOf -/
noncomputable def B_tile_widthOf : Code := match Tryz.f75.body with | some c => c | _ => .skip
noncomputable def X_tile_widthOf : Cx := { P := PP, fn := 75, N := 32, tab := tab, results := [.tmp 8], iter := fun _ => (.none, .none), dyn := fun _ => false, live := fun _ => none }
theorem K_tile_widthOf : OkF X_tile_widthOf B_tile_widthOf Tryz.f75 := ⟨⟨tab_ok, mix_ok⟩, Tryz.func75, by kernel_rfl, by kernel_rfl, by kernel_rfl, by kernel_rfl⟩
theorem C_tile_widthOf_eq (Q : Value → World → Prop) (a0 : Int) (a1 : Int) (a2 : Int) (a3 : Int) (w : World) (h :
  a0 ≠ (0 : Int) ∧
  cond (decide (a1 > (IntKind.wrap .i64 (Int.tdiv 48 a0))))
  (Q (.int .i64 0) w)
  (nn (IntKind.wrap .i64 (a0 * a1)) (
  nn a0 (
  cond (decide (a2 > (shrI .i64 (shrI .i64 a3 (IntKind.wrap .i64 (a0 * a1))) a0)))
  (Q (.int .i64 0) w)
  (drw w fun w1 =>
  nn a0 (
  C_tile_full #[.int .i64 a0] w1 fun v2 w3 =>
  opnI .i64 (some v2) fun x4 =>
  Q (.int .i64 (if x4 < IntKind.wrap .i64 ((shrI .i64 a3 (IntKind.wrap .i64 (a0 * a1))) - (shlI .i64 a2 a0)) then x4 else IntKind.wrap .i64 ((shrI .i64 a3 (IntKind.wrap .i64 (a0 * a1))) - (shlI .i64 a2 a0)))) w3)))))) :
C_tile_widthOf #[.int .i64 a0, .int .i64 a1, .int .i64 a2, .int .i64 a3] w Q := C_fold K_tile_widthOf (by kernel_rfl) h
/-! ### ledger/ledgerref10.nodes -/
noncomputable def B_r10_nodes : Code := match Tryz.f76.body with | some c => c | _ => .skip
noncomputable def X_r10_nodes : Cx := { P := PP, fn := 76, N := 21, tab := tab, results := [.tmp 6], iter := fun _ => (.none, .none), dyn := fun _ => false, live := fun r => cond (Nat.beq r 2) (some []) (none) }
theorem K_r10_nodes : OkF X_r10_nodes B_r10_nodes Tryz.f76 := ⟨⟨tab_ok, mix_ok⟩, Tryz.func76, by kernel_rfl, by kernel_rfl, by kernel_rfl, by kernel_rfl⟩
noncomputable def N_r10_nodes.j2 (Q : Value → World → Prop) (w : World) : Prop := Nd X_r10_nodes Q [] [.code (B_r10_nodes.r.l.r.l.l), .code (B_r10_nodes.r.l.r.l.r), .code (B_r10_nodes.r.r)] w
theorem N_r10_nodes.j2_eq (Q : Value → World → Prop) (w : World) (h :
  Q (.int .i64 0) w) :
N_r10_nodes.j2 Q w := Nd_fold K_r10_nodes (by kernel_rfl) h
theorem C_r10_nodes_eq (Q : Value → World → Prop) (a0 : Int) (a1 : Int) (a2 : Int) (w : World) (h :
  cond (decide (a1 > 48))
  (N_r10_nodes.j2 Q w)
  (cond (decide ((IntKind.wrap .i64 (a0 * a1)) > 48))
  (N_r10_nodes.j2 Q w)
  (C_r10_power #[.int .i64 (IntKind.wrap .i64 (a0 * a1))] w fun v1 w2 =>
  opnI .i64 (some v1) fun x3 =>
  x3 ≠ (0 : Int) ∧
  Q (.int .i64 (IntKind.wrap .i64 (Int.tdiv a2 x3))) w2))) :
C_r10_nodes #[.int .i64 a0, .int .i64 a1, .int .i64 a2] w Q := C_fold K_r10_nodes (by kernel_rfl) h
/-! ### ledger/ledgerref01.Sum256 -/
noncomputable def B_r01_Sum256 : Code := match Tryz.f77.body with | some c => c | _ => .skip
noncomputable def X_r01_Sum256 : Cx := { P := PP, fn := 77, N := 19, tab := tab, results := [.cell 2 22], iter := fun _ => (.none, .none), dyn := fun _ => false, live := fun r => cond (Nat.beq r 4) (some [2, 3, 4, 5]) (none) }
theorem K_r01_Sum256 : OkF X_r01_Sum256 B_r01_Sum256 Tryz.f77 := ⟨⟨tab_ok, mix_ok⟩, Tryz.func77, by kernel_rfl, by kernel_rfl, by kernel_rfl, by kernel_rfl⟩
noncomputable def N_r01_Sum256.j4 (Q : Value → World → Prop) (s2 : Addr) (s3 : Addr) (s4 : Option Addr) (s4n : Nat) (s4c : Nat) (s5 : Int) (w : World) : Prop := Nd X_r01_Sum256 Q [(2, 2, .pointer (some s2)), (3, 3, .pointer (some s3)), (4, 4, .slice s4 s4n s4c), (5, 5, .int .i64 s5)] [.code (B_r01_Sum256.r.r.r.l.r.l.l.l.l), .code (B_r01_Sum256.r.r.r.l.r.l.l.l.r), .code (B_r01_Sum256.r.r.r.l.r.l.l.r), .inLoop (B_r01_Sum256.r.r.r.l.r.l.l), .inBlock 0, .code (B_r01_Sum256.r.r.r.r)] w
theorem N_r01_Sum256.j4_eq (Q : Value → World → Prop) (s2 : Addr) (s3 : Addr) (s4 : Option Addr) (s4n : Nat) (s4c : Nat) (s5 : Int) (w : World) (h :
  cond (decide (s5 < 32))
  ((0 : Int) ≤ s5 ∧
  s5 < ((s4n : Nat) : Int) ∧
  opnA s4 fun ad1 =>
  opnI .u8 (w.cell? (ad1.add (Int.toNat s5 * 1))) fun x2 =>
  (0 : Int) ≤ s5 ∧
  s5 < ((32 : Nat) : Int) ∧
  stC (s3.add (Int.toNat s5 * 1)) (.int .u8 x2) w fun w3 =>
  N_r01_Sum256.j4 Q s2 s3 s4 s4n s4c (IntKind.wrap .i64 (s5 + 1)) w3)
  (opnRow w s3 (32 * 1) fun x4 =>
  stRow s2 x4 (32 * 1) w fun w5 =>
  opnRow w5 s2 (32 * 1) fun x6 =>
  Q (.agg x6) w5)) :
N_r01_Sum256.j4 Q s2 s3 s4 s4n s4c s5 w := Nd_fold K_r01_Sum256 (by kernel_rfl) h
theorem C_r01_Sum256_eq (Q : Value → World → Prop) (a0 : Option Addr) (a0n : Nat) (a0c : Nat) (w : World) (h :
  alZ PP 22 w fun p1 w2 =>
  alZ PP 22 w2 fun p3 w4 =>
  C_r01_Hash #[.int .i64 1, .slice a0 a0n a0c] w4 fun v5 w6 =>
  opnL (some v5) fun x7 x7n x7c =>
  N_r01_Sum256.j4 Q p1 p3 x7 x7n x7c 0 w6) :
C_r01_Sum256 #[.slice a0 a0n a0c] w Q := C_fold K_r01_Sum256 (by kernel_rfl) h
/-! ### ledger/ledgerref08.weak -/
noncomputable def B_r08_weak : Code := match Tryz.f78.body with | some c => c | _ => .skip
noncomputable def X_r08_weak : Cx := { P := PP, fn := 78, N := 21, tab := tab, results := [.cell 4 22], iter := fun _ => (.none, .none), dyn := fun _ => false, live := fun r => cond (Nat.beq r 2) (some [3, 4]) (cond (Nat.beq r 4) (some [3, 4, 5]) (none)) }
theorem K_r08_weak : OkF X_r08_weak B_r08_weak Tryz.f78 := ⟨⟨tab_ok, mix_ok⟩, Tryz.func78, by kernel_rfl, by kernel_rfl, by kernel_rfl, by kernel_rfl⟩
noncomputable def N_r08_weak.j2 (Q : Value → World → Prop) (s3 : Addr) (s4 : Addr) (w : World) : Prop := Nd X_r08_weak Q [(3, 3, .pointer (some s3)), (4, 4, .pointer (some s4))] [.code (B_r08_weak.r.l.r.l.l), .code (B_r08_weak.r.l.r.l.r), .code (B_r08_weak.r.r)] w
noncomputable def N_r08_weak.j4 (Q : Value → World → Prop) (s3 : Addr) (s4 : Addr) (s5 : Int) (w : World) : Prop := Nd X_r08_weak Q [(3, 3, .pointer (some s3)), (4, 4, .pointer (some s4)), (5, 5, .int .i64 s5)] [.code (B_r08_weak.r.r.l.r.l.l.l.l), .code (B_r08_weak.r.r.l.r.l.l.l.r), .code (B_r08_weak.r.r.l.r.l.l.r), .inLoop (B_r08_weak.r.r.l.r.l.l), .inBlock 0, .code (B_r08_weak.r.r.r)] w
theorem N_r08_weak.j2_eq (Q : Value → World → Prop) (s3 : Addr) (s4 : Addr) (w : World) (h :
  opnRow w s3 (32 * 1) fun x1 =>
  stRow s4 x1 (32 * 1) w fun w2 =>
  opnRow w2 s4 (32 * 1) fun x3 =>
  Q (.agg x3) w2) :
N_r08_weak.j2 Q s3 s4 w := Nd_fold K_r08_weak (by kernel_rfl) h
theorem N_r08_weak.j4_eq (Q : Value → World → Prop) (s3 : Addr) (s4 : Addr) (s5 : Int) (w : World) (h :
  cond (decide (s5 < 32))
  ((0 : Int) ≤ s5 ∧
  s5 < ((32 : Nat) : Int) ∧
  stC (s3.add (Int.toNat s5 * 1)) (.int .u8 0) w fun w1 =>
  N_r08_weak.j4 Q s3 s4 (IntKind.wrap .i64 (s5 + 1)) w1)
  (opnRow w s3 (32 * 1) fun x2 =>
  stRow s4 x2 (32 * 1) w fun w3 =>
  opnRow w3 s4 (32 * 1) fun x4 =>
  Q (.agg x4) w3)) :
N_r08_weak.j4 Q s3 s4 s5 w := Nd_fold K_r08_weak (by kernel_rfl) h
theorem C_r08_weak_eq (Q : Value → World → Prop) (a0 : Int) (a1 : Array Value) (w : World) (h :
  alC a1 22 w fun p1 w2 =>
  alZ PP 22 w2 fun p3 w4 =>
  cond (decide (a0 < 1))
  (N_r08_weak.j2 Q p1 p3 w4)
  (cond (decide (a0 > 31))
  (N_r08_weak.j2 Q p1 p3 w4)
  (N_r08_weak.j4 Q p1 p3 a0 w4))) :
C_r08_weak #[.int .i64 a0, .agg a1] w Q := C_fold K_r08_weak (by kernel_rfl) h
/-! ### ledger/sha.New -/
noncomputable def B_sha_New : Code := match Tryz.f89.body with | some c => c | _ => .skip
noncomputable def X_sha_New : Cx := { P := PP, fn := 89, N := 15, tab := tab, results := [.tmp 2, .tmp 3], iter := fun _ => (.none, .none), dyn := fun _ => false, live := fun r => cond (Nat.beq r 3) (some [0]) (none) }
theorem K_sha_New : OkF X_sha_New B_sha_New Tryz.f89 := ⟨⟨tab_ok, mix_ok⟩, Tryz.func89, by kernel_rfl, by kernel_rfl, by kernel_rfl, by kernel_rfl⟩
noncomputable def N_sha_New.j3 (Q : Value → World → Prop) (s0 : Int) (w : World) : Prop := Nd X_sha_New Q [(0, 0, .int .i64 s0)] [.code (B_sha_New.r.r.l), .code (B_sha_New.r.r.r)] w
theorem N_sha_New.j3_eq (Q : Value → World → Prop) (s0 : Int) (w : World) (h :
  C_sha_start #[.int .i64 s0] w fun v1 w2 =>
  opnG (some v1) fun x3 =>
  semP PP (Instr.build 161 #[(0, .int .i64 s0), (2, .agg x3)]) fun v4 =>
  opnG (some v4) fun x6 =>
  alC x6 161 w2 fun p7 w8 =>
  Q (.tuple #[.pointer (some p7), .int .i64 0]) w8) :
N_sha_New.j3 Q s0 w := Nd_fold K_sha_New (by kernel_rfl) h
theorem C_sha_New_eq (Q : Value → World → Prop) (a0 : Int) (w : World) (h :
  cond (a0 != 256)
  (cond (a0 != 512)
  (Q (.tuple #[.pointer none, .int .i64 10]) w)
  (N_sha_New.j3 Q a0 w))
  (N_sha_New.j3 Q a0 w)) :
C_sha_New #[.int .i64 a0] w Q := C_fold K_sha_New (by kernel_rfl) h
/-! ### (*ledger/sha.Digest).Write -/
noncomputable def B_p_sha_Digest_Write : Code := match Tryz.f90.body with | some c => c | _ => .skip
noncomputable def X_p_sha_Digest_Write : Cx := { P := PP, fn := 90, N := 101, tab := tab, results := [], iter := fun _ => (.none, .none), dyn := fun _ => false, live := fun r => cond (Nat.beq r 10) (some [0, 1, 4]) (none) }
theorem K_p_sha_Digest_Write : OkF X_p_sha_Digest_Write B_p_sha_Digest_Write Tryz.f90 := ⟨⟨tab_ok, mix_ok⟩, Tryz.func90, by kernel_rfl, by kernel_rfl, by kernel_rfl, by kernel_rfl⟩
noncomputable def N_p_sha_Digest_Write.j10 (Q : Value → World → Prop) (s0 : Option Addr) (s1 : Option Addr) (s1n : Nat) (s1c : Nat) (s4 : Int) (w : World) : Prop := Nd X_p_sha_Digest_Write Q [(0, 0, .pointer s0), (1, 1, .slice s1 s1n s1c), (4, 4, .int .i64 s4)] [.code (B_p_sha_Digest_Write.r.r.r.r.l.l.l.l.l), .code (B_p_sha_Digest_Write.r.r.r.r.l.l.l.l.r), .code (B_p_sha_Digest_Write.r.r.r.r.l.l.l.r), .inLoop (B_p_sha_Digest_Write.r.r.r.r.l.l.l), .inBlock 0, .code (B_p_sha_Digest_Write.r.r.r.r.r)] w
theorem N_p_sha_Digest_Write.j10_eq (Q : Value → World → Prop) (s0 : Option Addr) (s1 : Option Addr) (s1n : Nat) (s1c : Nat) (s4 : Int) (w : World) (h :
  cond (decide (((s1n : Nat) : Int) ≥ s4))
  ((0 : Int) ≤ s4 ∧
  s4 ≤ ((s1c : Nat) : Int) ∧
  C_p_sha_Digest_mix #[.pointer s0, .slice (slA s1 0 s1c 1) ((Int.toNat s4) - 0) (s1c - 0)] w fun v1 w2 =>
  opnT (some v1) fun x3 =>
  x3.size = 0 ∧
  (0 : Int) ≤ s4 ∧
  s4 ≤ ((s1n : Nat) : Int) ∧
  N_p_sha_Digest_Write.j10 Q s0 (slA s1 (Int.toNat s4) s1c 1) (s1n - (Int.toNat s4)) (s1c - (Int.toNat s4)) s4 w2)
  (opnA s0 fun ad4 =>
  opnL (w.cell? (ad4.add 18)) fun x5 x5n x5c =>
  sem PP (Builtin.append_ #[29, 29] 29 #[.slice x5 x5n x5c, .slice s1 s1n s1c]) w fun v6 w7 =>
  opnL (some v6) fun x8 x8n x8c =>
  opnA s0 fun ad9 =>
  stC (ad9.add 18) (.slice x8 x8n x8c) w7 fun w10 =>
  Q (.tuple #[]) w10)) :
N_p_sha_Digest_Write.j10 Q s0 s1 s1n s1c s4 w := Nd_fold K_p_sha_Digest_Write (by kernel_rfl) h
theorem C_p_sha_Digest_Write_eq (Q : Value → World → Prop) (a0 : Option Addr) (a1 : Option Addr) (a1n : Nat) (a1c : Nat) (w : World) (h :
  C_p_sha_Digest_block #[.pointer a0] w fun v1 w2 =>
  opnI .i64 (some v1) fun x3 =>
  cond (x3 == 0)
  (Q (.tuple #[]) w2)
  (opnA a0 fun ad4 =>
  opnI .i64 (w2.cell? (ad4.add 1)) fun x5 =>
  cond (decide (((a1n : Nat) : Int) > (IntKind.wrap .i64 (2305843009213693951 - x5))))
  (Q (.tuple #[]) w2)
  (opnA a0 fun ad6 =>
  opnI .i64 (w2.cell? (ad6.add 1)) fun x7 =>
  opnA a0 fun ad8 =>
  stC (ad8.add 1) (.int .i64 (IntKind.wrap .i64 (x7 + ((a1n : Nat) : Int)))) w2 fun w9 =>
  opnA a0 fun ad10 =>
  opnL (w9.cell? (ad10.add 18)) fun x11 x11n x11c =>
  cond (decide (((x11n : Nat) : Int) > 0))
  (opnA a0 fun ad12 =>
  opnL (w9.cell? (ad12.add 18)) fun x13 x13n x13c =>
  drw w9 fun w14 =>
  opnA a0 fun ad15 =>
  (0 : Int) ≤ (if ((a1n : Nat) : Int) < IntKind.wrap .i64 (x3 - ((x13n : Nat) : Int)) then ((a1n : Nat) : Int) else IntKind.wrap .i64 (x3 - ((x13n : Nat) : Int))) ∧
  (if ((a1n : Nat) : Int) < IntKind.wrap .i64 (x3 - ((x13n : Nat) : Int)) then ((a1n : Nat) : Int) else IntKind.wrap .i64 (x3 - ((x13n : Nat) : Int))) ≤ ((a1c : Nat) : Int) ∧
  opnL (w14.cell? (ad15.add 18)) fun x16 x16n x16c =>
  sem PP (Builtin.append_ #[29, 29] 29 #[.slice x16 x16n x16c, .slice (slA a1 0 a1c 1) ((Int.toNat (if ((a1n : Nat) : Int) < IntKind.wrap .i64 (x3 - ((x13n : Nat) : Int)) then ((a1n : Nat) : Int) else IntKind.wrap .i64 (x3 - ((x13n : Nat) : Int)))) - 0) (a1c - 0)]) w14 fun v17 w18 =>
  opnL (some v17) fun x19 x19n x19c =>
  opnA a0 fun ad20 =>
  stC (ad20.add 18) (.slice x19 x19n x19c) w18 fun w21 =>
  (0 : Int) ≤ (if ((a1n : Nat) : Int) < IntKind.wrap .i64 (x3 - ((x13n : Nat) : Int)) then ((a1n : Nat) : Int) else IntKind.wrap .i64 (x3 - ((x13n : Nat) : Int))) ∧
  (if ((a1n : Nat) : Int) < IntKind.wrap .i64 (x3 - ((x13n : Nat) : Int)) then ((a1n : Nat) : Int) else IntKind.wrap .i64 (x3 - ((x13n : Nat) : Int))) ≤ ((a1n : Nat) : Int) ∧
  opnA a0 fun ad22 =>
  opnL (w21.cell? (ad22.add 18)) fun x23 x23n x23c =>
  cond (decide (((x23n : Nat) : Int) < x3))
  (Q (.tuple #[]) w21)
  (opnA a0 fun ad24 =>
  opnL (w21.cell? (ad24.add 18)) fun x25 x25n x25c =>
  C_p_sha_Digest_mix #[.pointer a0, .slice x25 x25n x25c] w21 fun v26 w27 =>
  opnT (some v26) fun x28 =>
  x28.size = 0 ∧
  opnA a0 fun ad29 =>
  opnL (w27.cell? (ad29.add 18)) fun x30 x30n x30c =>
  (0 : Int) ≤ 0 ∧
  0 ≤ ((x30c : Nat) : Int) ∧
  opnA a0 fun ad31 =>
  stC (ad31.add 18) (.slice (slA x30 0 x30c 1) ((Int.toNat 0) - 0) (x30c - 0)) w27 fun w32 =>
  N_p_sha_Digest_Write.j10 Q a0 (slA a1 (Int.toNat (if ((a1n : Nat) : Int) < IntKind.wrap .i64 (x3 - ((x13n : Nat) : Int)) then ((a1n : Nat) : Int) else IntKind.wrap .i64 (x3 - ((x13n : Nat) : Int)))) a1c 1) (a1n - (Int.toNat (if ((a1n : Nat) : Int) < IntKind.wrap .i64 (x3 - ((x13n : Nat) : Int)) then ((a1n : Nat) : Int) else IntKind.wrap .i64 (x3 - ((x13n : Nat) : Int))))) (a1c - (Int.toNat (if ((a1n : Nat) : Int) < IntKind.wrap .i64 (x3 - ((x13n : Nat) : Int)) then ((a1n : Nat) : Int) else IntKind.wrap .i64 (x3 - ((x13n : Nat) : Int))))) x3 w32))
  (N_p_sha_Digest_Write.j10 Q a0 a1 a1n a1c x3 w9)))) :
C_p_sha_Digest_Write #[.pointer a0, .slice a1 a1n a1c] w Q := C_fold K_p_sha_Digest_Write (by kernel_rfl) h
/-! ### (*ledger/sha.Digest).Sum -/
noncomputable def B_p_sha_Digest_Sum : Code := match Tryz.f91.body with | some c => c | _ => .skip
noncomputable def X_p_sha_Digest_Sum : Cx := { P := PP, fn := 91, N := 79, tab := tab, results := [.tmp 2], iter := fun _ => (.none, .none), dyn := fun _ => false, live := fun r => cond (Nat.beq r 7) (some [0, 3, 4, 5]) (cond (Nat.beq r 11) (some [0, 3, 4, 5]) (cond (Nat.beq r 12) (some [3, 4, 5, 6]) (cond (Nat.beq r 13) (some [3, 4, 5, 6, 7]) (cond (Nat.beq r 16) (some [3, 4, 5]) (none))))) }
theorem K_p_sha_Digest_Sum : OkF X_p_sha_Digest_Sum B_p_sha_Digest_Sum Tryz.f91 := ⟨⟨tab_ok, mix_ok⟩, Tryz.func91, by kernel_rfl, by kernel_rfl, by kernel_rfl, by kernel_rfl⟩
noncomputable def N_p_sha_Digest_Sum.j7 (Q : Value → World → Prop) (s0 : Option Addr) (s3 : Int) (s4 : Addr) (s5 : Option Addr) (s5n : Nat) (s5c : Nat) (w : World) : Prop := Nd X_p_sha_Digest_Sum Q [(0, 0, .pointer s0), (3, 3, .int .i64 s3), (4, 4, .pointer (some s4)), (5, 5, .slice s5 s5n s5c)] [.code (B_p_sha_Digest_Sum.r.r.r.r.r.r.l.l.l.l.l), .code (B_p_sha_Digest_Sum.r.r.r.r.r.r.l.l.l.l.r), .code (B_p_sha_Digest_Sum.r.r.r.r.r.r.l.l.l.r), .inLoop (B_p_sha_Digest_Sum.r.r.r.r.r.r.l.l.l), .inBlock 0, .code (B_p_sha_Digest_Sum.r.r.r.r.r.r.r)] w
noncomputable def N_p_sha_Digest_Sum.j11 (Q : Value → World → Prop) (s0 : Option Addr) (s3 : Int) (s4 : Addr) (s5 : Option Addr) (s5n : Nat) (s5c : Nat) (w : World) : Prop := Nd X_p_sha_Digest_Sum Q [(0, 0, .pointer s0), (3, 3, .int .i64 s3), (4, 4, .pointer (some s4)), (5, 5, .slice s5 s5n s5c)] [.code (B_p_sha_Digest_Sum.r.r.r.r.r.r.r.r.l), .code (B_p_sha_Digest_Sum.r.r.r.r.r.r.r.r.r)] w
noncomputable def N_p_sha_Digest_Sum.j12 (Q : Value → World → Prop) (s3 : Int) (s4 : Addr) (s5 : Option Addr) (s5n : Nat) (s5c : Nat) (s6 : Int) (w : World) : Prop := Nd X_p_sha_Digest_Sum Q [(3, 3, .int .i64 s3), (4, 4, .pointer (some s4)), (5, 5, .slice s5 s5n s5c), (6, 6, .int .u64 s6)] [.code (B_p_sha_Digest_Sum.r.r.r.r.r.r.r.r.r.l.l), .code (B_p_sha_Digest_Sum.r.r.r.r.r.r.r.r.r.l.r), .code (B_p_sha_Digest_Sum.r.r.r.r.r.r.r.r.r.r)] w
noncomputable def N_p_sha_Digest_Sum.j13 (Q : Value → World → Prop) (s3 : Int) (s4 : Addr) (s5 : Option Addr) (s5n : Nat) (s5c : Nat) (s6 : Int) (s7 : Int) (w : World) : Prop := Nd X_p_sha_Digest_Sum Q [(3, 3, .int .i64 s3), (4, 4, .pointer (some s4)), (5, 5, .slice s5 s5n s5c), (6, 6, .int .u64 s6), (7, 7, .int .i64 s7)] [.code (B_p_sha_Digest_Sum.r.r.r.r.r.r.r.r.r.l.r.l.l.l.l), .code (B_p_sha_Digest_Sum.r.r.r.r.r.r.r.r.r.l.r.l.l.l.r), .code (B_p_sha_Digest_Sum.r.r.r.r.r.r.r.r.r.l.r.l.l.r), .inLoop (B_p_sha_Digest_Sum.r.r.r.r.r.r.r.r.r.l.r.l.l), .inBlock 2, .code (B_p_sha_Digest_Sum.r.r.r.r.r.r.r.r.r.r)] w
noncomputable def N_p_sha_Digest_Sum.j16 (Q : Value → World → Prop) (s3 : Int) (s4 : Addr) (s5 : Option Addr) (s5n : Nat) (s5c : Nat) (w : World) : Prop := Nd X_p_sha_Digest_Sum Q [(3, 3, .int .i64 s3), (4, 4, .pointer (some s4)), (5, 5, .slice s5 s5n s5c)] [.code (B_p_sha_Digest_Sum.r.r.r.r.r.r.r.r.r.r.l.l.l.l.l), .code (B_p_sha_Digest_Sum.r.r.r.r.r.r.r.r.r.r.l.l.l.l.r), .code (B_p_sha_Digest_Sum.r.r.r.r.r.r.r.r.r.r.l.l.l.r), .inLoop (B_p_sha_Digest_Sum.r.r.r.r.r.r.r.r.r.r.l.l.l), .inBlock 4, .code (B_p_sha_Digest_Sum.r.r.r.r.r.r.r.r.r.r.r)] w
theorem N_p_sha_Digest_Sum.j7_eq (Q : Value → World → Prop) (s0 : Option Addr) (s3 : Int) (s4 : Addr) (s5 : Option Addr) (s5n : Nat) (s5c : Nat) (w : World) (h :
  s3 ≠ (0 : Int) ∧
  8 ≠ (0 : Int) ∧
  cond ((Int.tmod ((s5n : Nat) : Int) s3) != (IntKind.wrap .i64 (s3 - (IntKind.wrap .i64 (Int.tdiv s3 8)))))
  (alC #[.int .u8 0] 5 w fun p1 w2 =>
  sem PP (Builtin.append_ #[29, 29] 29 #[.slice s5 s5n s5c, .slice (some p1) 1 1]) w2 fun v3 w4 =>
  opnL (some v3) fun x5 x5n x5c =>
  N_p_sha_Digest_Sum.j7 Q s0 s3 s4 x5 x5n x5c w4)
  (cond (s3 == 128)
  (alC #[.int .u8 0, .int .u8 0, .int .u8 0, .int .u8 0, .int .u8 0, .int .u8 0, .int .u8 0, .int .u8 0] 5 w fun p6 w7 =>
  sem PP (Builtin.append_ #[29, 29] 29 #[.slice s5 s5n s5c, .slice (some p6) 8 8]) w7 fun v8 w9 =>
  opnL (some v8) fun x10 x10n x10c =>
  N_p_sha_Digest_Sum.j11 Q s0 s3 s4 x10 x10n x10c w9)
  (N_p_sha_Digest_Sum.j11 Q s0 s3 s4 s5 s5n s5c w))) :
N_p_sha_Digest_Sum.j7 Q s0 s3 s4 s5 s5n s5c w := Nd_fold K_p_sha_Digest_Sum (by kernel_rfl) h
theorem N_p_sha_Digest_Sum.j11_eq (Q : Value → World → Prop) (s0 : Option Addr) (s3 : Int) (s4 : Addr) (s5 : Option Addr) (s5n : Nat) (s5c : Nat) (w : World) (h :
  opnA s0 fun ad1 =>
  opnI .i64 (w.cell? (ad1.add 1)) fun x2 =>
  N_p_sha_Digest_Sum.j12 Q s3 s4 s5 s5n s5c (shlI .u64 (IntKind.wrap .u64 x2) 3) w) :
N_p_sha_Digest_Sum.j11 Q s0 s3 s4 s5 s5n s5c w := Nd_fold K_p_sha_Digest_Sum (by kernel_rfl) h
theorem N_p_sha_Digest_Sum.j12_eq (Q : Value → World → Prop) (s3 : Int) (s4 : Addr) (s5 : Option Addr) (s5n : Nat) (s5c : Nat) (s6 : Int) (w : World) (h :
  N_p_sha_Digest_Sum.j13 Q s3 s4 s5 s5n s5c s6 7 w) :
N_p_sha_Digest_Sum.j12 Q s3 s4 s5 s5n s5c s6 w := Nd_fold K_p_sha_Digest_Sum (by kernel_rfl) h
theorem N_p_sha_Digest_Sum.j13_eq (Q : Value → World → Prop) (s3 : Int) (s4 : Addr) (s5 : Option Addr) (s5n : Nat) (s5c : Nat) (s6 : Int) (s7 : Int) (w : World) (h :
  cond (decide (s7 ≥ 0))
  (nn (IntKind.wrap .i64 (8 * s7)) (
  alC #[.int .u8 (IntKind.wrap .u8 (shrI .u64 s6 (IntKind.wrap .i64 (8 * s7))))] 5 w fun p1 w2 =>
  sem PP (Builtin.append_ #[29, 29] 29 #[.slice s5 s5n s5c, .slice (some p1) 1 1]) w2 fun v3 w4 =>
  opnL (some v3) fun x5 x5n x5c =>
  N_p_sha_Digest_Sum.j13 Q s3 s4 x5 x5n x5c s6 (IntKind.wrap .i64 (s7 - 1)) w4))
  (N_p_sha_Digest_Sum.j16 Q s3 s4 s5 s5n s5c w)) :
N_p_sha_Digest_Sum.j13 Q s3 s4 s5 s5n s5c s6 s7 w := Nd_fold K_p_sha_Digest_Sum (by kernel_rfl) h
theorem N_p_sha_Digest_Sum.j16_eq (Q : Value → World → Prop) (s3 : Int) (s4 : Addr) (s5 : Option Addr) (s5n : Nat) (s5c : Nat) (w : World) (h :
  cond (decide (((s5n : Nat) : Int) ≥ s3))
  ((0 : Int) ≤ s3 ∧
  s3 ≤ ((s5c : Nat) : Int) ∧
  C_p_sha_Digest_mix #[.pointer (some s4), .slice (slA s5 0 s5c 1) ((Int.toNat s3) - 0) (s5c - 0)] w fun v1 w2 =>
  opnT (some v1) fun x3 =>
  x3.size = 0 ∧
  (0 : Int) ≤ s3 ∧
  s3 ≤ ((s5n : Nat) : Int) ∧
  N_p_sha_Digest_Sum.j16 Q s3 s4 (slA s5 (Int.toNat s3) s5c 1) (s5n - (Int.toNat s3)) (s5c - (Int.toNat s3)) w2)
  (C_p_sha_Digest_words #[.pointer (some s4)] w fun v4 w5 =>
  opnL (some v4) fun x6 x6n x6c =>
  Q (.slice x6 x6n x6c) w5)) :
N_p_sha_Digest_Sum.j16 Q s3 s4 s5 s5n s5c w := Nd_fold K_p_sha_Digest_Sum (by kernel_rfl) h
theorem C_p_sha_Digest_Sum_eq (Q : Value → World → Prop) (a0 : Option Addr) (w : World) (h :
  C_p_sha_Digest_block #[.pointer a0] w fun v1 w2 =>
  opnI .i64 (some v1) fun x3 =>
  cond (x3 == 0)
  (Q (.slice none 0 0) w2)
  (drw w2 fun w4 =>
  opnA a0 fun ad5 =>
  opnA a0 fun ad6 =>
  opnI .i64 (w4.cell? (ad5.add 0)) fun x7 =>
  opnRow w4 (ad6.add 2) 16 fun x8 =>
  semP PP (Instr.build 161 #[(0, .int .i64 x7), (2, .agg x8)]) fun v9 =>
  opnG (some v9) fun x11 =>
  alZ PP 161 w4 fun p12 w13 =>
  (opnRow w13 (ad6.add 2) 16 fun x14 =>
  ((.agg x14) : Value) = .agg x8) ∧
  (opnI .i64 (w13.cell? (ad5.add 0)) fun x15 =>
  ((.int .i64 x15) : Value) = .int .i64 x7) ∧
  stRow p12 x11 (19) w13 fun w16 =>
  drw w16 fun w17 =>
  opnA a0 fun ad18 =>
  opnL (w17.cell? (ad18.add 18)) fun x19 x19n x19c =>
  sem PP (Instr.makeSlice 29 (.int .i64 0) (.int .i64 (IntKind.wrap .i64 (2 * x3)))) w17 fun v20 w21 =>
  opnL (some v20) fun x22 x22n x22c =>
  (opnL (w21.cell? (ad18.add 18)) fun x23 x23n x23c =>
  ((.slice x23 x23n x23c) : Value) = .slice x19 x19n x19c) ∧
  sem PP (Builtin.append_ #[29, 29] 29 #[.slice x22 x22n x22c, .slice x19 x19n x19c]) w21 fun v24 w25 =>
  opnL (some v24) fun x26 x26n x26c =>
  alC #[.int .u8 128] 5 w25 fun p27 w28 =>
  sem PP (Builtin.append_ #[29, 29] 29 #[.slice x26 x26n x26c, .slice (some p27) 1 1]) w28 fun v29 w30 =>
  opnL (some v29) fun x31 x31n x31c =>
  N_p_sha_Digest_Sum.j7 Q a0 x3 p12 x31 x31n x31c w30)) :
C_p_sha_Digest_Sum #[.pointer a0] w Q := C_fold K_p_sha_Digest_Sum (by kernel_rfl) h
/-! ### ledger/tlog.filled -/
noncomputable def B_tlog_filled : Code := match Tryz.f92.body with | some c => c | _ => .skip
noncomputable def X_tlog_filled : Cx := { P := PP, fn := 92, N := 18, tab := tab, results := [.tmp 2], iter := fun _ => (.none, .none), dyn := fun _ => false, live := fun r => cond (Nat.beq r 2) (some [0, 3]) (cond (Nat.beq r 4) (some [3]) (none)) }
theorem K_tlog_filled : OkF X_tlog_filled B_tlog_filled Tryz.f92 := ⟨⟨tab_ok, mix_ok⟩, Tryz.func92, by kernel_rfl, by kernel_rfl, by kernel_rfl, by kernel_rfl⟩
noncomputable def N_tlog_filled.j2 (Q : Value → World → Prop) (s0 : Int) (s3 : Int) (w : World) : Prop := Nd X_tlog_filled Q [(0, 0, .int .i64 s0), (3, 3, .int .i64 s3)] [.code (B_tlog_filled.r.r.l.l.l.l.l), .code (B_tlog_filled.r.r.l.l.l.l.r), .code (B_tlog_filled.r.r.l.l.l.r), .inLoop (B_tlog_filled.r.r.l.l.l), .inBlock 0, .code (B_tlog_filled.r.r.r)] w
noncomputable def N_tlog_filled.j4 (Q : Value → World → Prop) (s3 : Int) (w : World) : Prop := Nd X_tlog_filled Q [(3, 3, .int .i64 s3)] [.code (B_tlog_filled.r.r.r.l), .code (B_tlog_filled.r.r.r.r)] w
theorem N_tlog_filled.j2_eq (Q : Value → World → Prop) (s0 : Int) (s3 : Int) (w : World) (h :
  cond (decide (s3 < 281474976710656))
  (C_tlog_count #[.int .i64 (IntKind.wrap .i64 (s3 + 1))] w fun v1 w2 =>
  opnI .i64 (some v1) fun x3 =>
  cond (decide (x3 ≤ s0))
  (N_tlog_filled.j2 Q s0 (IntKind.wrap .i64 (s3 + 1)) w2)
  (N_tlog_filled.j4 Q s3 w2))
  (N_tlog_filled.j4 Q s3 w)) :
N_tlog_filled.j2 Q s0 s3 w := Nd_fold K_tlog_filled (by kernel_rfl) h
theorem N_tlog_filled.j4_eq (Q : Value → World → Prop) (s3 : Int) (w : World) (h :
  Q (.int .i64 s3) w) :
N_tlog_filled.j4 Q s3 w := Nd_fold K_tlog_filled (by kernel_rfl) h
theorem C_tlog_filled_eq (Q : Value → World → Prop) (a0 : Int) (w : World) (h :
  2 ≠ (0 : Int) ∧
  N_tlog_filled.j2 Q a0 (IntKind.wrap .i64 (Int.tdiv a0 2)) w) :
C_tlog_filled #[.int .i64 a0] w Q := C_fold K_tlog_filled (by kernel_rfl) h
/-! ### ledger/ledgerref01.Hash -/
noncomputable def B_r01_Hash : Code := match Tryz.f93.body with | some c => c | _ => .skip
noncomputable def X_r01_Hash : Cx := { P := PP, fn := 93, N := 10, tab := tab, results := [.tmp 4], iter := fun _ => (.none, .none), dyn := fun _ => false, live := fun _ => none }
theorem K_r01_Hash : OkF X_r01_Hash B_r01_Hash Tryz.f93 := ⟨⟨tab_ok, mix_ok⟩, Tryz.func93, by kernel_rfl, by kernel_rfl, by kernel_rfl, by kernel_rfl⟩
theorem C_r01_Hash_eq (Q : Value → World → Prop) (a0 : Int) (a1 : Option Addr) (a1n : Nat) (a1c : Nat) (w : World) (h :
  C_r01_Begin #[.int .i64 a0] w fun v1 w2 =>
  opnG (some v1) fun x3 =>
  C_r01_Given #[.agg x3, .slice a1 a1n a1c] w2 fun v4 w5 =>
  opnG (some v4) fun x6 =>
  C_r01_Told #[.agg x6] w5 fun v7 w8 =>
  opnL (some v7) fun x9 x9n x9c =>
  Q (.slice x9 x9n x9c) w8) :
C_r01_Hash #[.int .i64 a0, .slice a1 a1n a1c] w Q := C_fold K_r01_Hash (by kernel_rfl) h
/-! ### ledger/sha.start -/
noncomputable def B_sha_start : Code := match Tryz.f99.body with | some c => c | _ => .skip
noncomputable def X_sha_start : Cx := { P := PP, fn := 99, N := 23, tab := tab, results := [.cell 2 158], iter := fun _ => (.none, .none), dyn := fun _ => false, live := fun r => cond (Nat.beq r 5) (some [2, 3, 10, 11]) (none) }
theorem K_sha_start : OkF X_sha_start B_sha_start Tryz.f99 := ⟨⟨tab_ok, mix_ok⟩, Tryz.func99, by kernel_rfl, by kernel_rfl, by kernel_rfl, by kernel_rfl⟩
noncomputable def N_sha_start.j5 (Q : Value → World → Prop) (s2 : Addr) (s3 : Addr) (s10 : Array Value) (s11 : Int) (w : World) : Prop := Nd X_sha_start Q [(2, 2, .pointer (some s2)), (3, 3, .pointer (some s3)), (10, 10, .agg s10), (11, 11, .int .i64 s11)] [.code (B_sha_start.r.r.r.l.r.l.l.l), .code (B_sha_start.r.r.r.l.r.l.l.r), .inLoop (B_sha_start.r.r.r.l.r.l.l), .inBlock 0, .code (B_sha_start.r.r.r.r)] w
theorem N_sha_start.j5_eq (Q : Value → World → Prop) (s2 : Addr) (s3 : Addr) (s10 : Array Value) (s11 : Int) (w : World) (h :
  cond (decide (s11 < 8))
  ((0 : Int) ≤ s11 ∧
  s11 < ((8 : Nat) : Int) ∧
  opnI .u64 (s10[Int.toNat s11 * 1]?) fun x1 =>
  (0 : Int) ≤ s11 ∧
  s11 < ((8 : Nat) : Int) ∧
  stC ((s3.add 0).add (Int.toNat s11 * 1)) (.int .u32 (IntKind.wrap .u32 (shrI .u64 x1 32))) w fun w2 =>
  N_sha_start.j5 Q s2 s3 s10 (IntKind.wrap .i64 (s11 + 1)) w2)
  (opnRow w s3 16 fun x3 =>
  stRow s2 x3 (16) w fun w4 =>
  opnRow w4 s2 16 fun x5 =>
  Q (.agg x5) w4)) :
N_sha_start.j5 Q s2 s3 s10 s11 w := Nd_fold K_sha_start (by kernel_rfl) h
theorem C_sha_start_eq (Q : Value → World → Prop) (a0 : Int) (w : World) (h :
  alZ PP 158 w fun p1 w2 =>
  cond (a0 == 512)
  (opnRow w2 (⟨0, 0, none⟩ : Addr) (8 * 1) fun x3 =>
  semP PP (Instr.build 158 #[(1, .agg x3)]) fun v4 =>
  opnG (some v4) fun x6 =>
  stRow p1 x6 (16) w2 fun w7 =>
  opnRow w7 p1 16 fun x8 =>
  Q (.agg x8) w7)
  (alZ PP 158 w2 fun p9 w10 =>
  opnRow w10 (⟨0, 0, none⟩ : Addr) (8 * 1) fun x11 =>
  N_sha_start.j5 Q p1 p9 x11 0 w10)) :
C_sha_start #[.int .i64 a0] w Q := C_fold K_sha_start (by kernel_rfl) h
/-! ### (*ledger/sha.Digest).block -/
noncomputable def B_p_sha_Digest_block : Code := match Tryz.f100.body with | some c => c | _ => .skip
noncomputable def X_p_sha_Digest_block : Cx := { P := PP, fn := 100, N := 13, tab := tab, results := [.tmp 2], iter := fun _ => (.none, .none), dyn := fun _ => false, live := fun _ => none }
theorem K_p_sha_Digest_block : OkF X_p_sha_Digest_block B_p_sha_Digest_block Tryz.f100 := ⟨⟨tab_ok, mix_ok⟩, Tryz.func100, by kernel_rfl, by kernel_rfl, by kernel_rfl, by kernel_rfl⟩
theorem C_p_sha_Digest_block_eq (Q : Value → World → Prop) (a0 : Option Addr) (w : World) (h :
  semR PP (do eqGuard .eql 143 (.tmp 3) (.const (.pointer none)) (.pointer a0) (.pointer none); binOp .eql 143 (.pointer a0) (.pointer none)) w fun x1 =>
  opnB (some x1) fun x2 =>
  cond x2
  (Q (.int .i64 0) w)
  (opnA a0 fun ad3 =>
  opnI .i64 (w.cell? (ad3.add 0)) fun x4 =>
  cond (x4 == 256)
  (Q (.int .i64 64) w)
  (cond (x4 == 512)
  (Q (.int .i64 128) w)
  (Q (.int .i64 0) w)))) :
C_p_sha_Digest_block #[.pointer a0] w Q := C_fold K_p_sha_Digest_block (by kernel_rfl) h
/-! ### (*ledger/sha.Digest).mix -/
noncomputable def B_p_sha_Digest_mix : Code := match Tryz.f101.body with | some c => c | _ => .skip
noncomputable def X_p_sha_Digest_mix : Cx := { P := PP, fn := 101, N := 33, tab := tab, results := [], iter := fun _ => (.none, .none), dyn := fun _ => false, live := fun _ => none }
theorem K_p_sha_Digest_mix : OkF X_p_sha_Digest_mix B_p_sha_Digest_mix Tryz.f101 := ⟨⟨tab_ok, mix_ok⟩, Tryz.func101, by kernel_rfl, by kernel_rfl, by kernel_rfl, by kernel_rfl⟩
theorem C_p_sha_Digest_mix_eq (Q : Value → World → Prop) (a0 : Option Addr) (a1 : Option Addr) (a1n : Nat) (a1c : Nat) (w : World) (h :
  opnA a0 fun ad1 =>
  opnI .i64 (w.cell? (ad1.add 0)) fun x2 =>
  cond (x2 == 256)
  (alZ PP 170 w fun p3 w4 =>
  (0 : Int) ≤ 16 ∧
  16 ≤ ((64 : Nat) : Int) ∧
  C_sha_load_uint32 #[.slice (slP p3 0 64 1) ((Int.toNat 16) - 0) (64 - 0), .slice a1 a1n a1c, .int .i64 4] w4 fun v5 w6 =>
  opnT (some v5) fun x7 =>
  x7.size = 0 ∧
  drw w6 fun w8 =>
  opnA a0 fun ad9 =>
  opnRow w8 (⟨2, 0, none⟩ : Addr) 12 fun x10 =>
  C_sha_compress_uint32 #[.pointer (some ((ad9.add 2).add 0)), .slice (slP p3 0 64 1) (64 - 0) (64 - 0), .slice (slP (⟨1, 0, none⟩ : Addr) 0 64 1) (64 - 0) (64 - 0), .agg x10, .int .i64 32] w8 fun v11 w12 =>
  opnT (some v11) fun x13 =>
  x13.size = 0 ∧
  Q (.tuple #[]) w12)
  (alZ PP 178 w fun p14 w15 =>
  (0 : Int) ≤ 16 ∧
  16 ≤ ((80 : Nat) : Int) ∧
  C_sha_load_uint64 #[.slice (slP p14 0 80 1) ((Int.toNat 16) - 0) (80 - 0), .slice a1 a1n a1c, .int .i64 8] w15 fun v16 w17 =>
  opnT (some v16) fun x18 =>
  x18.size = 0 ∧
  drw w17 fun w19 =>
  opnA a0 fun ad20 =>
  opnRow w19 (⟨4, 0, none⟩ : Addr) 12 fun x21 =>
  C_sha_compress_uint64 #[.pointer (some ((ad20.add 2).add 8)), .slice (slP p14 0 80 1) (80 - 0) (80 - 0), .slice (slP (⟨3, 0, none⟩ : Addr) 0 80 1) (80 - 0) (80 - 0), .agg x21, .int .i64 64] w19 fun v22 w23 =>
  opnT (some v22) fun x24 =>
  x24.size = 0 ∧
  Q (.tuple #[]) w23)) :
C_p_sha_Digest_mix #[.pointer a0, .slice a1 a1n a1c] w Q := C_fold K_p_sha_Digest_mix (by kernel_rfl) h
/-! ### (*ledger/sha.Digest).words -/
noncomputable def B_p_sha_Digest_words : Code := match Tryz.f102.body with | some c => c | _ => .skip
noncomputable def X_p_sha_Digest_words : Cx := { P := PP, fn := 102, N := 22, tab := tab, results := [.tmp 2], iter := fun _ => (.none, .none), dyn := fun _ => false, live := fun _ => none }
theorem K_p_sha_Digest_words : OkF X_p_sha_Digest_words B_p_sha_Digest_words Tryz.f102 := ⟨⟨tab_ok, mix_ok⟩, Tryz.func102, by kernel_rfl, by kernel_rfl, by kernel_rfl, by kernel_rfl⟩
theorem C_p_sha_Digest_words_eq (Q : Value → World → Prop) (a0 : Option Addr) (w : World) (h :
  opnA a0 fun ad1 =>
  opnI .i64 (w.cell? (ad1.add 0)) fun x2 =>
  cond (x2 == 256)
  (drw w fun w3 =>
  opnA a0 fun ad4 =>
  sem PP (Instr.makeSlice 29 (.int .i64 0) (.int .i64 32)) w3 fun v5 w6 =>
  opnL (some v5) fun x7 x7n x7c =>
  C_sha_lay_uint32 #[.slice x7 x7n x7c, .slice (slP ((ad4.add 2).add 0) 0 8 1) (8 - 0) (8 - 0), .int .i64 4] w6 fun v8 w9 =>
  opnL (some v8) fun x10 x10n x10c =>
  Q (.slice x10 x10n x10c) w9)
  (drw w fun w11 =>
  opnA a0 fun ad12 =>
  sem PP (Instr.makeSlice 29 (.int .i64 0) (.int .i64 64)) w11 fun v13 w14 =>
  opnL (some v13) fun x15 x15n x15c =>
  C_sha_lay_uint64 #[.slice x15 x15n x15c, .slice (slP ((ad12.add 2).add 8) 0 8 1) (8 - 0) (8 - 0), .int .i64 8] w14 fun v16 w17 =>
  opnL (some v16) fun x18 x18n x18c =>
  Q (.slice x18 x18n x18c) w17)) :
C_p_sha_Digest_words #[.pointer a0] w Q := C_fold K_p_sha_Digest_words (by kernel_rfl) h
/-! ### ledger/ledgerref01.Told -/
noncomputable def B_r01_Told : Code := match Tryz.f103.body with | some c => c | _ => .skip
noncomputable def X_r01_Told : Cx := { P := PP, fn := 103, N := 63, tab := tab, results := [.tmp 2], iter := fun _ => (.none, .none), dyn := fun _ => false, live := fun r => cond (Nat.beq r 4) (some [1, 3, 4, 5]) (cond (Nat.beq r 8) (some [1, 5]) (cond (Nat.beq r 9) (some [1, 5]) (cond (Nat.beq r 10) (some [1, 6]) (cond (Nat.beq r 11) (some [1, 6, 7]) (cond (Nat.beq r 12) (some [1, 6, 7, 8]) (none)))))) }
theorem K_r01_Told : OkF X_r01_Told B_r01_Told Tryz.f103 := ⟨⟨tab_ok, mix_ok⟩, Tryz.func103, by kernel_rfl, by kernel_rfl, by kernel_rfl, by kernel_rfl⟩
noncomputable def N_r01_Told.j4 (Q : Value → World → Prop) (s1 : Addr) (s3 : Int) (s4 : Int) (s5 : Option Addr) (s5n : Nat) (s5c : Nat) (w : World) : Prop := Nd X_r01_Told Q [(1, 1, .pointer (some s1)), (3, 3, .int .i64 s3), (4, 4, .int .i64 s4), (5, 5, .slice s5 s5n s5c)] [.code (B_r01_Told.r.r.r.r.l.l.l.l.l), .code (B_r01_Told.r.r.r.r.l.l.l.l.r), .code (B_r01_Told.r.r.r.r.l.l.l.r), .inLoop (B_r01_Told.r.r.r.r.l.l.l), .inBlock 0, .code (B_r01_Told.r.r.r.r.r)] w
noncomputable def N_r01_Told.j8 (Q : Value → World → Prop) (s1 : Addr) (s5 : Option Addr) (s5n : Nat) (s5c : Nat) (w : World) : Prop := Nd X_r01_Told Q [(1, 1, .pointer (some s1)), (5, 5, .slice s5 s5n s5c)] [.code (B_r01_Told.r.r.r.r.r.r.l), .code (B_r01_Told.r.r.r.r.r.r.r)] w
noncomputable def N_r01_Told.j9 (Q : Value → World → Prop) (s1 : Addr) (s5 : Option Addr) (s5n : Nat) (s5c : Nat) (w : World) : Prop := Nd X_r01_Told Q [(1, 1, .pointer (some s1)), (5, 5, .slice s5 s5n s5c)] [.code (B_r01_Told.r.r.r.r.r.r.r.l), .code (B_r01_Told.r.r.r.r.r.r.r.r)] w
noncomputable def N_r01_Told.j10 (Q : Value → World → Prop) (s1 : Addr) (s6 : Addr) (w : World) : Prop := Nd X_r01_Told Q [(1, 1, .pointer (some s1)), (6, 6, .pointer (some s6))] [.code (B_r01_Told.r.r.r.r.r.r.r.r.l), .code (B_r01_Told.r.r.r.r.r.r.r.r.r)] w
noncomputable def N_r01_Told.j11 (Q : Value → World → Prop) (s1 : Addr) (s6 : Addr) (s7 : Option Addr) (s7n : Nat) (s7c : Nat) (w : World) : Prop := Nd X_r01_Told Q [(1, 1, .pointer (some s1)), (6, 6, .pointer (some s6)), (7, 7, .slice s7 s7n s7c)] [.code (B_r01_Told.r.r.r.r.r.r.r.r.r.l.l), .code (B_r01_Told.r.r.r.r.r.r.r.r.r.l.r), .code (B_r01_Told.r.r.r.r.r.r.r.r.r.r)] w
noncomputable def N_r01_Told.j12 (Q : Value → World → Prop) (s1 : Addr) (s6 : Addr) (s7 : Option Addr) (s7n : Nat) (s7c : Nat) (s8 : Int) (w : World) : Prop := Nd X_r01_Told Q [(1, 1, .pointer (some s1)), (6, 6, .pointer (some s6)), (7, 7, .slice s7 s7n s7c), (8, 8, .int .i64 s8)] [.code (B_r01_Told.r.r.r.r.r.r.r.r.r.l.r.l.l.l.l), .code (B_r01_Told.r.r.r.r.r.r.r.r.r.l.r.l.l.l.r), .code (B_r01_Told.r.r.r.r.r.r.r.r.r.l.r.l.l.r), .inLoop (B_r01_Told.r.r.r.r.r.r.r.r.r.l.r.l.l), .inBlock 2, .code (B_r01_Told.r.r.r.r.r.r.r.r.r.r)] w
theorem N_r01_Told.j4_eq (Q : Value → World → Prop) (s1 : Addr) (s3 : Int) (s4 : Int) (s5 : Option Addr) (s5n : Nat) (s5c : Nat) (w : World) (h :
  opnL (w.cell? (s1.add 10)) fun x1 x1n x1c =>
  s3 ≠ (0 : Int) ∧
  cond ((Int.tmod (IntKind.wrap .i64 ((IntKind.wrap .i64 (((x1n : Nat) : Int) + ((s5n : Nat) : Int))) + s4)) s3) != 0)
  (alC #[.int .u8 0] 5 w fun p2 w3 =>
  sem PP (Builtin.append_ #[29, 29] 29 #[.slice s5 s5n s5c, .slice (some p2) 1 1]) w3 fun v4 w5 =>
  opnL (some v4) fun x6 x6n x6c =>
  N_r01_Told.j4 Q s1 s3 s4 x6 x6n x6c w5)
  (opnI .i64 (w.cell? (s1.add 0)) fun x7 =>
  cond (x7 == 2)
  (opnI .u64 (w.cell? (s1.add 9)) fun x8 =>
  C_r01_bytesOf #[.int .u64 (shrI .u64 x8 61), .int .i64 8] w fun v9 w10 =>
  opnL (some v9) fun x11 x11n x11c =>
  sem PP (Builtin.append_ #[29, 29] 29 #[.slice s5 s5n s5c, .slice x11 x11n x11c]) w10 fun v12 w13 =>
  opnL (some v12) fun x14 x14n x14c =>
  N_r01_Told.j8 Q s1 x14 x14n x14c w13)
  (N_r01_Told.j8 Q s1 s5 s5n s5c w))) :
N_r01_Told.j4 Q s1 s3 s4 s5 s5n s5c w := Nd_fold K_r01_Told (by kernel_rfl) h
theorem N_r01_Told.j8_eq (Q : Value → World → Prop) (s1 : Addr) (s5 : Option Addr) (s5n : Nat) (s5c : Nat) (w : World) (h :
  opnI .u64 (w.cell? (s1.add 9)) fun x1 =>
  C_r01_bytesOf #[.int .u64 (shlI .u64 x1 3), .int .i64 8] w fun v2 w3 =>
  opnL (some v2) fun x4 x4n x4c =>
  sem PP (Builtin.append_ #[29, 29] 29 #[.slice s5 s5n s5c, .slice x4 x4n x4c]) w3 fun v5 w6 =>
  opnL (some v5) fun x7 x7n x7c =>
  N_r01_Told.j9 Q s1 x7 x7n x7c w6) :
N_r01_Told.j8 Q s1 s5 s5n s5c w := Nd_fold K_r01_Told (by kernel_rfl) h
theorem N_r01_Told.j9_eq (Q : Value → World → Prop) (s1 : Addr) (s5 : Option Addr) (s5n : Nat) (s5c : Nat) (w : World) (h :
  opnRow w s1 11 fun x1 =>
  C_r01_Given #[.agg x1, .slice s5 s5n s5c] w fun v2 w3 =>
  opnG (some v2) fun x4 =>
  alZ PP 165 w3 fun p5 w6 =>
  stRow p5 x4 (11) w6 fun w7 =>
  N_r01_Told.j10 Q s1 p5 w7) :
N_r01_Told.j9 Q s1 s5 s5n s5c w := Nd_fold K_r01_Told (by kernel_rfl) h
theorem N_r01_Told.j10_eq (Q : Value → World → Prop) (s1 : Addr) (s6 : Addr) (w : World) (h :
  N_r01_Told.j11 Q s1 s6 none 0 0 w) :
N_r01_Told.j10 Q s1 s6 w := Nd_fold K_r01_Told (by kernel_rfl) h
theorem N_r01_Told.j11_eq (Q : Value → World → Prop) (s1 : Addr) (s6 : Addr) (s7 : Option Addr) (s7n : Nat) (s7c : Nat) (w : World) (h :
  N_r01_Told.j12 Q s1 s6 s7 s7n s7c 0 w) :
N_r01_Told.j11 Q s1 s6 s7 s7n s7c w := Nd_fold K_r01_Told (by kernel_rfl) h
theorem N_r01_Told.j12_eq (Q : Value → World → Prop) (s1 : Addr) (s6 : Addr) (s7 : Option Addr) (s7n : Nat) (s7c : Nat) (s8 : Int) (w : World) (h :
  cond (decide (s8 < 8))
  (drw w fun w1 =>
  (0 : Int) ≤ s8 ∧
  s8 < ((8 : Nat) : Int) ∧
  opnI .u64 (w1.cell? ((s6.add 1).add (Int.toNat s8 * 1))) fun x2 =>
  opnI .i64 (w1.cell? (s1.add 0)) fun x3 =>
  C_r01_wide #[.int .i64 x3] w1 fun v4 w5 =>
  opnI .i64 (some v4) fun x6 =>
  (opnI .u64 (w5.cell? ((s6.add 1).add (Int.toNat s8 * 1))) fun x7 =>
  ((.int .u64 x7) : Value) = .int .u64 x2) ∧
  C_r01_bytesOf #[.int .u64 x2, .int .i64 x6] w5 fun v8 w9 =>
  opnL (some v8) fun x10 x10n x10c =>
  sem PP (Builtin.append_ #[29, 29] 29 #[.slice s7 s7n s7c, .slice x10 x10n x10c]) w9 fun v11 w12 =>
  opnL (some v11) fun x13 x13n x13c =>
  N_r01_Told.j12 Q s1 s6 x13 x13n x13c (IntKind.wrap .i64 (s8 + 1)) w12)
  (Q (.slice s7 s7n s7c) w)) :
N_r01_Told.j12 Q s1 s6 s7 s7n s7c s8 w := Nd_fold K_r01_Told (by kernel_rfl) h
theorem C_r01_Told_eq (Q : Value → World → Prop) (a0 : Array Value) (w : World) (h :
  alC a0 165 w fun p1 w2 =>
  opnI .i64 (w2.cell? (p1.add 0)) fun x3 =>
  C_r01_Block #[.int .i64 x3] w2 fun v4 w5 =>
  opnI .i64 (some v4) fun x6 =>
  opnI .i64 (w5.cell? (p1.add 0)) fun x7 =>
  alC #[.int .u8 128] 5 w5 fun p8 w9 =>
  N_r01_Told.j4 Q p1 x6 (IntKind.wrap .i64 (8 * x7)) (some p8) 1 1 w9) :
C_r01_Told #[.agg a0] w Q := C_fold K_r01_Told (by kernel_rfl) h
/-! ### ledger/ledgerref01.Given -/
noncomputable def B_r01_Given : Code := match Tryz.f104.body with | some c => c | _ => .skip
noncomputable def X_r01_Given : Cx := { P := PP, fn := 104, N := 59, tab := tab, results := [.cell 4 165], iter := fun _ => (.none, .none), dyn := fun _ => false, live := fun r => cond (Nat.beq r 7) (some [2, 4, 5, 6, 7, 8]) (none) }
theorem K_r01_Given : OkF X_r01_Given B_r01_Given Tryz.f104 := ⟨⟨tab_ok, mix_ok⟩, Tryz.func104, by kernel_rfl, by kernel_rfl, by kernel_rfl, by kernel_rfl⟩
noncomputable def N_r01_Given.j7 (Q : Value → World → Prop) (s2 : Addr) (s4 : Addr) (s5 : Int) (s6 : Option Addr) (s6n : Nat) (s6c : Nat) (s7 : Addr) (s8 : Int) (w : World) : Prop := Nd X_r01_Given Q [(2, 2, .pointer (some s2)), (4, 4, .pointer (some s4)), (5, 5, .int .i64 s5), (6, 6, .slice s6 s6n s6c), (7, 7, .pointer (some s7)), (8, 8, .int .i64 s8)] [.code (B_r01_Given.r.r.r.r.r.r.r.l.l.l.l.l), .code (B_r01_Given.r.r.r.r.r.r.r.l.l.l.l.r), .code (B_r01_Given.r.r.r.r.r.r.r.l.l.l.r), .inLoop (B_r01_Given.r.r.r.r.r.r.r.l.l.l), .inBlock 0, .code (B_r01_Given.r.r.r.r.r.r.r.r)] w
theorem N_r01_Given.j7_eq (Q : Value → World → Prop) (s2 : Addr) (s4 : Addr) (s5 : Int) (s6 : Option Addr) (s6n : Nat) (s6c : Nat) (s7 : Addr) (s8 : Int) (w : World) (h :
  cond (decide ((IntKind.wrap .i64 (s8 + s5)) ≤ ((s6n : Nat) : Int)))
  (drw w fun w1 =>
  (0 : Int) ≤ (IntKind.wrap .i64 (s8 + s5)) ∧
  (IntKind.wrap .i64 (s8 + s5)) ≤ ((s6c : Nat) : Int) ∧
  (0 : Int) ≤ s8 ∧
  s8 ≤ (IntKind.wrap .i64 (s8 + s5)) ∧
  opnI .i64 (w1.cell? (s2.add 0)) fun x2 =>
  opnRow w1 (s7.add 1) (8 * 1) fun x3 =>
  C_r01_mixed #[.int .i64 x2, .agg x3, .slice (slA s6 (Int.toNat s8) s6c 1) ((Int.toNat (IntKind.wrap .i64 (s8 + s5))) - (Int.toNat s8)) (s6c - (Int.toNat s8))] w1 fun v4 w5 =>
  opnG (some v4) fun x6 =>
  stRow (s7.add 1) x6 (8 * 1) w5 fun w7 =>
  N_r01_Given.j7 Q s2 s4 s5 s6 s6n s6c s7 (IntKind.wrap .i64 (s8 + s5)) w7)
  (drw w fun w8 =>
  (0 : Int) ≤ s8 ∧
  s8 ≤ ((s6n : Nat) : Int) ∧
  opnL (w8.cell? (s7.add 10)) fun x9 x9n x9c =>
  sem PP (Builtin.append_ #[29, 29] 29 #[.slice x9 x9n x9c, .slice (slA s6 (Int.toNat s8) s6c 1) (s6n - (Int.toNat s8)) (s6c - (Int.toNat s8))]) w8 fun v10 w11 =>
  opnL (some v10) fun x12 x12n x12c =>
  stC (s7.add 10) (.slice x12 x12n x12c) w11 fun w13 =>
  opnRow w13 s7 11 fun x14 =>
  stRow s4 x14 (11) w13 fun w15 =>
  opnRow w15 s4 11 fun x16 =>
  Q (.agg x16) w15)) :
N_r01_Given.j7 Q s2 s4 s5 s6 s6n s6c s7 s8 w := Nd_fold K_r01_Given (by kernel_rfl) h
theorem C_r01_Given_eq (Q : Value → World → Prop) (a0 : Array Value) (a1 : Option Addr) (a1n : Nat) (a1c : Nat) (w : World) (h :
  alC a0 165 w fun p1 w2 =>
  alZ PP 165 w2 fun p3 w4 =>
  opnI .i64 (w4.cell? (p1.add 0)) fun x5 =>
  C_r01_Block #[.int .i64 x5] w4 fun v6 w7 =>
  opnI .i64 (some v6) fun x8 =>
  opnL (w7.cell? (p1.add 10)) fun x9 x9n x9c =>
  sem PP (Builtin.append_ #[29, 29] 29 #[.slice none 0 0, .slice x9 x9n x9c]) w7 fun v10 w11 =>
  opnL (some v10) fun x12 x12n x12c =>
  sem PP (Builtin.append_ #[29, 29] 29 #[.slice x12 x12n x12c, .slice a1 a1n a1c]) w11 fun v13 w14 =>
  opnL (some v13) fun x15 x15n x15c =>
  opnI .i64 (w14.cell? (p1.add 0)) fun x16 =>
  opnRow w14 (p1.add 1) (8 * 1) fun x17 =>
  opnI .u64 (w14.cell? (p1.add 9)) fun x18 =>
  semP PP (Instr.build 165 #[(0, .int .i64 x16), (1, .agg x17), (2, .int .u64 (IntKind.wrap .u64 (x18 + (IntKind.wrap .u64 ((a1n : Nat) : Int)))))]) fun v19 =>
  opnG (some v19) fun x21 =>
  alZ PP 165 w14 fun p22 w23 =>
  stRow p22 x21 (11) w23 fun w24 =>
  N_r01_Given.j7 Q p1 p3 x8 x15 x15n x15c p22 0 w24) :
C_r01_Given #[.agg a0, .slice a1 a1n a1c] w Q := C_fold K_r01_Given (by kernel_rfl) h
end Go.Proofs.YtccjncflbbhldaaGreatDoor
/-! ## ShF3 -/
set_option maxRecDepth 100000
namespace Go.Proofs.YtccjncflbbhldaaGreatDoor
open Go.Sh
/-! ### ledger/ledgerref01.Begin -/
noncomputable def B_r01_Begin : Code := match Tryz.f105.body with | some c => c | _ => .skip
noncomputable def X_r01_Begin : Cx := { P := PP, fn := 105, N := 27, tab := tab, results := [.cell 2 165], iter := fun _ => (.none, .none), dyn := fun _ => false, live := fun r => cond (Nat.beq r 3) (some [0, 2, 3, 4]) (cond (Nat.beq r 4) (some [0, 2, 3, 4]) (none)) }
theorem K_r01_Begin : OkF X_r01_Begin B_r01_Begin Tryz.f105 := ⟨⟨tab_ok, mix_ok⟩, Tryz.func105, by kernel_rfl, by kernel_rfl, by kernel_rfl, by kernel_rfl⟩
noncomputable def N_r01_Begin.j3 (Q : Value → World → Prop) (s0 : Int) (s2 : Addr) (s3 : Addr) (s4 : Int) (w : World) : Prop := Nd X_r01_Begin Q [(0, 0, .int .i64 s0), (2, 2, .pointer (some s2)), (3, 3, .pointer (some s3)), (4, 4, .int .i64 s4)] [.code (B_r01_Begin.r.r.l.r.l.l.l.l), .code (B_r01_Begin.r.r.l.r.l.l.l.r), .code (B_r01_Begin.r.r.l.r.l.l.r), .inLoop (B_r01_Begin.r.r.l.r.l.l), .inBlock 0, .code (B_r01_Begin.r.r.r)] w
noncomputable def N_r01_Begin.j4 (Q : Value → World → Prop) (s0 : Int) (s2 : Addr) (s3 : Addr) (s4 : Int) (w : World) : Prop := Nd X_r01_Begin Q [(0, 0, .int .i64 s0), (2, 2, .pointer (some s2)), (3, 3, .pointer (some s3)), (4, 4, .int .i64 s4)] [.code (B_r01_Begin.r.r.l.r.l.l.r.r), .inLoop (B_r01_Begin.r.r.l.r.l.l), .inBlock 0, .code (B_r01_Begin.r.r.r)] w
theorem N_r01_Begin.j3_eq (Q : Value → World → Prop) (s0 : Int) (s2 : Addr) (s3 : Addr) (s4 : Int) (w : World) (h :
  cond (decide (s4 < 8))
  ((0 : Int) ≤ s4 ∧
  s4 < ((8 : Nat) : Int) ∧
  opnI .u64 (w.cell? ((⟨5, 0, none⟩ : Addr).add (Int.toNat s4 * 1))) fun x1 =>
  (0 : Int) ≤ s4 ∧
  s4 < ((8 : Nat) : Int) ∧
  stC ((s3.add 1).add (Int.toNat s4 * 1)) (.int .u64 x1) w fun w2 =>
  cond (s0 == 1)
  ((0 : Int) ≤ s4 ∧
  s4 < ((8 : Nat) : Int) ∧
  opnI .u64 (w2.cell? ((⟨5, 0, none⟩ : Addr).add (Int.toNat s4 * 1))) fun x3 =>
  (0 : Int) ≤ s4 ∧
  s4 < ((8 : Nat) : Int) ∧
  stC ((s3.add 1).add (Int.toNat s4 * 1)) (.int .u64 (shrI .u64 x3 32)) w2 fun w4 =>
  N_r01_Begin.j4 Q s0 s2 s3 s4 w4)
  (N_r01_Begin.j4 Q s0 s2 s3 s4 w2))
  (opnRow w s3 11 fun x5 =>
  stRow s2 x5 (11) w fun w6 =>
  opnRow w6 s2 11 fun x7 =>
  Q (.agg x7) w6)) :
N_r01_Begin.j3 Q s0 s2 s3 s4 w := Nd_fold K_r01_Begin (by kernel_rfl) h
theorem N_r01_Begin.j4_eq (Q : Value → World → Prop) (s0 : Int) (s2 : Addr) (s3 : Addr) (s4 : Int) (w : World) (h :
  N_r01_Begin.j3 Q s0 s2 s3 (IntKind.wrap .i64 (s4 + 1)) w) :
N_r01_Begin.j4 Q s0 s2 s3 s4 w := Nd_fold K_r01_Begin (by kernel_rfl) h
theorem C_r01_Begin_eq (Q : Value → World → Prop) (a0 : Int) (w : World) (h :
  alZ PP 165 w fun p1 w2 =>
  semP PP (Instr.build 165 #[(0, .int .i64 a0)]) fun v3 =>
  opnG (some v3) fun x5 =>
  alZ PP 165 w2 fun p6 w7 =>
  stRow p6 x5 (11) w7 fun w8 =>
  N_r01_Begin.j3 Q a0 p1 p6 0 w8) :
C_r01_Begin #[.int .i64 a0] w Q := C_fold K_r01_Begin (by kernel_rfl) h
/-! ### ledger/sha.load[uint32] -/
noncomputable def B_sha_load_uint32 : Code := match Tryz.f107.body with | some c => c | _ => .skip
noncomputable def X_sha_load_uint32 : Cx := { P := PP, fn := 107, N := 40, tab := tab, results := [], iter := fun _ => (.none, .none), dyn := fun _ => false, live := fun r => cond (Nat.beq r 1) (some [0, 1, 2, 11, 12]) (cond (Nat.beq r 5) (some [0, 1, 2, 6, 7, 11, 12, 23, 24, 25]) (none)) }
theorem K_sha_load_uint32 : OkF X_sha_load_uint32 B_sha_load_uint32 Tryz.f107 := ⟨⟨tab_ok, mix_ok⟩, Tryz.func107, by kernel_rfl, by kernel_rfl, by kernel_rfl, by kernel_rfl⟩
noncomputable def N_sha_load_uint32.j1 (Q : Value → World → Prop) (s0 : Option Addr) (s0n : Nat) (s0c : Nat) (s1 : Option Addr) (s1n : Nat) (s1c : Nat) (s2 : Int) (s11 : Int) (s12 : Int) (w : World) : Prop := Nd X_sha_load_uint32 Q [(0, 0, .slice s0 s0n s0c), (1, 1, .slice s1 s1n s1c), (2, 2, .int .i64 s2), (11, 11, .int .i64 s11), (12, 12, .int .i64 s12)] [.code (B_sha_load_uint32.r.l.l.l), .code (B_sha_load_uint32.r.l.l.r), .inLoop (B_sha_load_uint32.r.l.l), .inBlock 0] w
noncomputable def N_sha_load_uint32.j5 (Q : Value → World → Prop) (s0 : Option Addr) (s0n : Nat) (s0c : Nat) (s1 : Option Addr) (s1n : Nat) (s1c : Nat) (s2 : Int) (s6 : Int) (s7 : Int) (s11 : Int) (s12 : Int) (s23 : Option Addr) (s23n : Nat) (s23c : Nat) (s24 : Int) (s25 : Int) (w : World) : Prop := Nd X_sha_load_uint32 Q [(0, 0, .slice s0 s0n s0c), (1, 1, .slice s1 s1n s1c), (2, 2, .int .i64 s2), (6, 6, .int .i64 s6), (7, 7, .int .u32 s7), (11, 11, .int .i64 s11), (12, 12, .int .i64 s12), (23, 23, .slice s23 s23n s23c), (24, 24, .int .i64 s24), (25, 25, .int .i64 s25)] [.code (B_sha_load_uint32.r.l.l.r.r.l.l.r.r.l.r.l.l.l), .code (B_sha_load_uint32.r.l.l.r.r.l.l.r.r.l.r.l.l.r), .inLoop (B_sha_load_uint32.r.l.l.r.r.l.l.r.r.l.r.l.l), .inBlock 2, .code (B_sha_load_uint32.r.l.l.r.r.l.l.r.r.r), .inBlock 1, .code (B_sha_load_uint32.r.l.l.r.r.r), .inLoop (B_sha_load_uint32.r.l.l), .inBlock 0] w
theorem N_sha_load_uint32.j1_eq (Q : Value → World → Prop) (s0 : Option Addr) (s0n : Nat) (s0c : Nat) (s1 : Option Addr) (s1n : Nat) (s1c : Nat) (s2 : Int) (s11 : Int) (s12 : Int) (w : World) (h :
  cond (decide (s12 < s11))
  ((0 : Int) ≤ (IntKind.wrap .i64 ((IntKind.wrap .i64 (s12 + 1)) * s2)) ∧
  (IntKind.wrap .i64 ((IntKind.wrap .i64 (s12 + 1)) * s2)) ≤ ((s1c : Nat) : Int) ∧
  (0 : Int) ≤ (IntKind.wrap .i64 (s12 * s2)) ∧
  (IntKind.wrap .i64 (s12 * s2)) ≤ (IntKind.wrap .i64 ((IntKind.wrap .i64 (s12 + 1)) * s2)) ∧
  N_sha_load_uint32.j5 Q s0 s0n s0c s1 s1n s1c s2 s12 0 s11 s12 (slA s1 (Int.toNat (IntKind.wrap .i64 (s12 * s2))) s1c 1) ((Int.toNat (IntKind.wrap .i64 ((IntKind.wrap .i64 (s12 + 1)) * s2))) - (Int.toNat (IntKind.wrap .i64 (s12 * s2)))) (s1c - (Int.toNat (IntKind.wrap .i64 (s12 * s2)))) (((Int.toNat (IntKind.wrap .i64 ((IntKind.wrap .i64 (s12 + 1)) * s2))) - (Int.toNat (IntKind.wrap .i64 (s12 * s2))) : Nat) : Int) 0 w)
  (Q (.tuple #[]) w)) :
N_sha_load_uint32.j1 Q s0 s0n s0c s1 s1n s1c s2 s11 s12 w := Nd_fold K_sha_load_uint32 (by kernel_rfl) h
theorem N_sha_load_uint32.j5_eq (Q : Value → World → Prop) (s0 : Option Addr) (s0n : Nat) (s0c : Nat) (s1 : Option Addr) (s1n : Nat) (s1c : Nat) (s2 : Int) (s6 : Int) (s7 : Int) (s11 : Int) (s12 : Int) (s23 : Option Addr) (s23n : Nat) (s23c : Nat) (s24 : Int) (s25 : Int) (w : World) (h :
  cond (decide (s25 < s24))
  ((0 : Int) ≤ s25 ∧
  s25 < ((s23n : Nat) : Int) ∧
  opnA s23 fun ad1 =>
  opnI .u8 (w.cell? (ad1.add (Int.toNat s25 * 1))) fun x2 =>
  N_sha_load_uint32.j5 Q s0 s0n s0c s1 s1n s1c s2 s6 (bits .or .u32 (shlI .u32 s7 8) (IntKind.wrap .u32 x2)) s11 s12 s23 s23n s23c s24 (IntKind.wrap .i64 (s25 + 1)) w)
  ((0 : Int) ≤ s6 ∧
  s6 < ((s0n : Nat) : Int) ∧
  opnA s0 fun ad3 =>
  stC (ad3.add (Int.toNat s6 * 1)) (.int .u32 s7) w fun w4 =>
  N_sha_load_uint32.j1 Q s0 s0n s0c s1 s1n s1c s2 s11 (IntKind.wrap .i64 (s12 + 1)) w4)) :
N_sha_load_uint32.j5 Q s0 s0n s0c s1 s1n s1c s2 s6 s7 s11 s12 s23 s23n s23c s24 s25 w := Nd_fold K_sha_load_uint32 (by kernel_rfl) h
theorem C_sha_load_uint32_eq (Q : Value → World → Prop) (a0 : Option Addr) (a0n : Nat) (a0c : Nat) (a1 : Option Addr) (a1n : Nat) (a1c : Nat) (a2 : Int) (w : World) (h :
  N_sha_load_uint32.j1 Q a0 a0n a0c a1 a1n a1c a2 ((a0n : Nat) : Int) 0 w) :
C_sha_load_uint32 #[.slice a0 a0n a0c, .slice a1 a1n a1c, .int .i64 a2] w Q := C_fold K_sha_load_uint32 (by kernel_rfl) h
/-! ### ledger/sha.compress[uint32] -/
noncomputable def B_sha_compress_uint32 : Code := match Tryz.f108.body with | some c => c | _ => .skip
noncomputable def X_sha_compress_uint32 : Cx := { P := PP, fn := 108, N := 234, tab := tab, results := [], iter := fun _ => (.none, .none), dyn := fun _ => false, live := fun r => cond (Nat.beq r 2) (some [0, 1, 2, 4, 8, 10]) (cond (Nat.beq r 11) (some [0, 1, 4, 8, 15, 16, 17, 18, 19, 20, 21, 22, 23, 121, 122, 123]) (cond (Nat.beq r 18) (some [0, 15, 219, 220]) (none))) }
theorem K_sha_compress_uint32 : OkF X_sha_compress_uint32 B_sha_compress_uint32 Tryz.f108 := ⟨⟨tab_ok, mix_ok⟩, Tryz.func108, by kernel_rfl, by kernel_rfl, by kernel_rfl, by kernel_rfl⟩
noncomputable def N_sha_compress_uint32.j2 (Q : Value → World → Prop) (s0 : Option Addr) (s1 : Option Addr) (s1n : Nat) (s1c : Nat) (s2 : Option Addr) (s2n : Nat) (s2c : Nat) (s4 : Int) (s8 : Addr) (s10 : Int) (w : World) : Prop := Nd X_sha_compress_uint32 Q [(0, 0, .pointer s0), (1, 1, .slice s1 s1n s1c), (2, 2, .slice s2 s2n s2c), (4, 4, .int .i64 s4), (8, 8, .pointer (some s8)), (10, 10, .int .i64 s10)] [.code (B_sha_compress_uint32.r.l.r.l.l.l.l), .code (B_sha_compress_uint32.r.l.r.l.l.l.r), .code (B_sha_compress_uint32.r.l.r.l.l.r), .inLoop (B_sha_compress_uint32.r.l.r.l.l), .inBlock 0, .code (B_sha_compress_uint32.r.r)] w
noncomputable def N_sha_compress_uint32.j11 (Q : Value → World → Prop) (s0 : Option Addr) (s1 : Option Addr) (s1n : Nat) (s1c : Nat) (s4 : Int) (s8 : Addr) (s15 : Addr) (s16 : Int) (s17 : Int) (s18 : Int) (s19 : Int) (s20 : Int) (s21 : Int) (s22 : Int) (s23 : Int) (s121 : Option Addr) (s121n : Nat) (s121c : Nat) (s122 : Int) (s123 : Int) (w : World) : Prop := Nd X_sha_compress_uint32 Q [(0, 0, .pointer s0), (1, 1, .slice s1 s1n s1c), (4, 4, .int .i64 s4), (8, 8, .pointer (some s8)), (15, 15, .pointer (some s15)), (16, 16, .int .u32 s16), (17, 17, .int .u32 s17), (18, 18, .int .u32 s18), (19, 19, .int .u32 s19), (20, 20, .int .u32 s20), (21, 21, .int .u32 s21), (22, 22, .int .u32 s22), (23, 23, .int .u32 s23), (121, 121, .slice s121 s121n s121c), (122, 122, .int .i64 s122), (123, 123, .int .i64 s123)] [.code (B_sha_compress_uint32.r.r.r.r.l.r.l.l.l), .code (B_sha_compress_uint32.r.r.r.r.l.r.l.l.r), .inLoop (B_sha_compress_uint32.r.r.r.r.l.r.l.l), .inBlock 2, .code (B_sha_compress_uint32.r.r.r.r.r)] w
noncomputable def N_sha_compress_uint32.j18 (Q : Value → World → Prop) (s0 : Option Addr) (s15 : Addr) (s219 : Array Value) (s220 : Int) (w : World) : Prop := Nd X_sha_compress_uint32 Q [(0, 0, .pointer s0), (15, 15, .pointer (some s15)), (219, 219, .agg s219), (220, 220, .int .i64 s220)] [.code (B_sha_compress_uint32.r.r.r.r.r.r.l.l.l), .code (B_sha_compress_uint32.r.r.r.r.r.r.l.l.r), .inLoop (B_sha_compress_uint32.r.r.r.r.r.r.l.l), .inBlock 4] w
theorem N_sha_compress_uint32.j2_eq (Q : Value → World → Prop) (s0 : Option Addr) (s1 : Option Addr) (s1n : Nat) (s1c : Nat) (s2 : Option Addr) (s2n : Nat) (s2c : Nat) (s4 : Int) (s8 : Addr) (s10 : Int) (w : World) (h :
  cond (decide (s10 < ((s1n : Nat) : Int)))
  (drw w fun w1 =>
  (0 : Int) ≤ IntKind.wrap .i64 (s10 - 15) ∧
  (IntKind.wrap .i64 (s10 - 15)) < ((s1n : Nat) : Int) ∧
  opnA s1 fun ad2 =>
  (0 : Int) ≤ IntKind.wrap .i64 (s10 - 2) ∧
  (IntKind.wrap .i64 (s10 - 2)) < ((s1n : Nat) : Int) ∧
  opnA s1 fun ad3 =>
  opnI .u32 (w1.cell? (ad2.add (Int.toNat (IntKind.wrap .i64 (s10 - 15)) * 1))) fun x4 =>
  opnI .u32 (w1.cell? (ad3.add (Int.toNat (IntKind.wrap .i64 (s10 - 2)) * 1))) fun x5 =>
  drw w1 fun w6 =>
  (0 : Int) ≤ 0 ∧
  0 < ((3 : Nat) : Int) ∧
  (0 : Int) ≤ 1 ∧
  1 < ((3 : Nat) : Int) ∧
  (0 : Int) ≤ 2 ∧
  2 < ((3 : Nat) : Int) ∧
  opnI .i64 (w6.cell? ((s8.add 6).add (Int.toNat 0 * 1))) fun x7 =>
  opnI .i64 (w6.cell? ((s8.add 6).add (Int.toNat 1 * 1))) fun x8 =>
  opnI .i64 (w6.cell? ((s8.add 6).add (Int.toNat 2 * 1))) fun x9 =>
  nn x9 (
  C_sha_turn_uint32 #[.int .u32 x4, .int .i64 x7, .int .i64 s4] w6 fun v10 w11 =>
  opnI .u32 (some v10) fun x12 =>
  (opnI .i64 (w11.cell? ((s8.add 6).add (Int.toNat 2 * 1))) fun x13 =>
  ((.int .i64 x13) : Value) = .int .i64 x9) ∧
  (opnI .i64 (w11.cell? ((s8.add 6).add (Int.toNat 1 * 1))) fun x14 =>
  ((.int .i64 x14) : Value) = .int .i64 x8) ∧
  C_sha_turn_uint32 #[.int .u32 x4, .int .i64 x8, .int .i64 s4] w11 fun v15 w16 =>
  opnI .u32 (some v15) fun x17 =>
  (opnI .i64 (w16.cell? ((s8.add 6).add (Int.toNat 2 * 1))) fun x18 =>
  ((.int .i64 x18) : Value) = .int .i64 x9) ∧
  drw w16 fun w19 =>
  (0 : Int) ≤ 0 ∧
  0 < ((3 : Nat) : Int) ∧
  (0 : Int) ≤ 1 ∧
  1 < ((3 : Nat) : Int) ∧
  (0 : Int) ≤ 2 ∧
  2 < ((3 : Nat) : Int) ∧
  opnI .i64 (w19.cell? ((s8.add 9).add (Int.toNat 0 * 1))) fun x20 =>
  opnI .i64 (w19.cell? ((s8.add 9).add (Int.toNat 1 * 1))) fun x21 =>
  opnI .i64 (w19.cell? ((s8.add 9).add (Int.toNat 2 * 1))) fun x22 =>
  nn x22 (
  C_sha_turn_uint32 #[.int .u32 x5, .int .i64 x20, .int .i64 s4] w19 fun v23 w24 =>
  opnI .u32 (some v23) fun x25 =>
  (opnI .i64 (w24.cell? ((s8.add 9).add (Int.toNat 2 * 1))) fun x26 =>
  ((.int .i64 x26) : Value) = .int .i64 x22) ∧
  (opnI .i64 (w24.cell? ((s8.add 9).add (Int.toNat 1 * 1))) fun x27 =>
  ((.int .i64 x27) : Value) = .int .i64 x21) ∧
  C_sha_turn_uint32 #[.int .u32 x5, .int .i64 x21, .int .i64 s4] w24 fun v28 w29 =>
  opnI .u32 (some v28) fun x30 =>
  (opnI .i64 (w29.cell? ((s8.add 9).add (Int.toNat 2 * 1))) fun x31 =>
  ((.int .i64 x31) : Value) = .int .i64 x22) ∧
  drw w29 fun w32 =>
  (0 : Int) ≤ IntKind.wrap .i64 (s10 - 16) ∧
  (IntKind.wrap .i64 (s10 - 16)) < ((s1n : Nat) : Int) ∧
  opnA s1 fun ad33 =>
  (0 : Int) ≤ IntKind.wrap .i64 (s10 - 7) ∧
  (IntKind.wrap .i64 (s10 - 7)) < ((s1n : Nat) : Int) ∧
  opnA s1 fun ad34 =>
  opnI .u32 (w32.cell? (ad33.add (Int.toNat (IntKind.wrap .i64 (s10 - 16)) * 1))) fun x35 =>
  opnI .u32 (w32.cell? (ad34.add (Int.toNat (IntKind.wrap .i64 (s10 - 7)) * 1))) fun x36 =>
  (0 : Int) ≤ s10 ∧
  s10 < ((s1n : Nat) : Int) ∧
  opnA s1 fun ad37 =>
  stC (ad37.add (Int.toNat s10 * 1)) (.int .u32 (IntKind.wrap .u32 ((IntKind.wrap .u32 ((IntKind.wrap .u32 (x35 + (bits .xor .u32 (bits .xor .u32 x12 x17) (shrI .u32 x4 x9)))) + x36)) + (bits .xor .u32 (bits .xor .u32 x25 x30) (shrI .u32 x5 x22))))) w32 fun w38 =>
  N_sha_compress_uint32.j2 Q s0 s1 s1n s1c s2 s2n s2c s4 s8 (IntKind.wrap .i64 (s10 + 1)) w38)))
  (opnA s0 fun ad39 =>
  opnRow w ad39 (8 * 1) fun x40 =>
  alZ PP 155 w fun p41 w42 =>
  stRow p41 x40 (8 * 1) w42 fun w43 =>
  drw w43 fun w44 =>
  (0 : Int) ≤ 0 ∧
  0 < ((8 : Nat) : Int) ∧
  (0 : Int) ≤ 1 ∧
  1 < ((8 : Nat) : Int) ∧
  (0 : Int) ≤ 2 ∧
  2 < ((8 : Nat) : Int) ∧
  (0 : Int) ≤ 3 ∧
  3 < ((8 : Nat) : Int) ∧
  (0 : Int) ≤ 4 ∧
  4 < ((8 : Nat) : Int) ∧
  (0 : Int) ≤ 5 ∧
  5 < ((8 : Nat) : Int) ∧
  (0 : Int) ≤ 6 ∧
  6 < ((8 : Nat) : Int) ∧
  (0 : Int) ≤ 7 ∧
  7 < ((8 : Nat) : Int) ∧
  opnI .u32 (w44.cell? (p41.add (Int.toNat 0 * 1))) fun x45 =>
  opnI .u32 (w44.cell? (p41.add (Int.toNat 1 * 1))) fun x46 =>
  opnI .u32 (w44.cell? (p41.add (Int.toNat 2 * 1))) fun x47 =>
  opnI .u32 (w44.cell? (p41.add (Int.toNat 3 * 1))) fun x48 =>
  opnI .u32 (w44.cell? (p41.add (Int.toNat 4 * 1))) fun x49 =>
  opnI .u32 (w44.cell? (p41.add (Int.toNat 5 * 1))) fun x50 =>
  opnI .u32 (w44.cell? (p41.add (Int.toNat 6 * 1))) fun x51 =>
  opnI .u32 (w44.cell? (p41.add (Int.toNat 7 * 1))) fun x52 =>
  N_sha_compress_uint32.j11 Q s0 s1 s1n s1c s4 s8 p41 x45 x46 x47 x48 x49 x50 x51 x52 s2 s2n s2c ((s2n : Nat) : Int) 0 w44)) :
N_sha_compress_uint32.j2 Q s0 s1 s1n s1c s2 s2n s2c s4 s8 s10 w := Nd_fold K_sha_compress_uint32 (by kernel_rfl) h
theorem N_sha_compress_uint32.j11_eq (Q : Value → World → Prop) (s0 : Option Addr) (s1 : Option Addr) (s1n : Nat) (s1c : Nat) (s4 : Int) (s8 : Addr) (s15 : Addr) (s16 : Int) (s17 : Int) (s18 : Int) (s19 : Int) (s20 : Int) (s21 : Int) (s22 : Int) (s23 : Int) (s121 : Option Addr) (s121n : Nat) (s121c : Nat) (s122 : Int) (s123 : Int) (w : World) (h :
  cond (decide (s123 < s122))
  ((0 : Int) ≤ s123 ∧
  s123 < ((s121n : Nat) : Int) ∧
  opnA s121 fun ad1 =>
  opnI .u32 (w.cell? (ad1.add (Int.toNat s123 * 1))) fun x2 =>
  drw w fun w3 =>
  (0 : Int) ≤ 0 ∧
  0 < ((3 : Nat) : Int) ∧
  (0 : Int) ≤ 1 ∧
  1 < ((3 : Nat) : Int) ∧
  (0 : Int) ≤ 2 ∧
  2 < ((3 : Nat) : Int) ∧
  (0 : Int) ≤ s123 ∧
  s123 < ((s1n : Nat) : Int) ∧
  opnA s1 fun ad4 =>
  opnI .i64 (w3.cell? ((s8.add 3).add (Int.toNat 0 * 1))) fun x5 =>
  opnI .i64 (w3.cell? ((s8.add 3).add (Int.toNat 1 * 1))) fun x6 =>
  opnI .i64 (w3.cell? ((s8.add 3).add (Int.toNat 2 * 1))) fun x7 =>
  opnI .u32 (w3.cell? (ad4.add (Int.toNat s123 * 1))) fun x8 =>
  C_sha_turn_uint32 #[.int .u32 s20, .int .i64 x5, .int .i64 s4] w3 fun v9 w10 =>
  opnI .u32 (some v9) fun x11 =>
  (opnI .u32 (w10.cell? (ad4.add (Int.toNat s123 * 1))) fun x12 =>
  ((.int .u32 x12) : Value) = .int .u32 x8) ∧
  (opnI .i64 (w10.cell? ((s8.add 3).add (Int.toNat 2 * 1))) fun x13 =>
  ((.int .i64 x13) : Value) = .int .i64 x7) ∧
  (opnI .i64 (w10.cell? ((s8.add 3).add (Int.toNat 1 * 1))) fun x14 =>
  ((.int .i64 x14) : Value) = .int .i64 x6) ∧
  C_sha_turn_uint32 #[.int .u32 s20, .int .i64 x6, .int .i64 s4] w10 fun v15 w16 =>
  opnI .u32 (some v15) fun x17 =>
  (opnI .u32 (w16.cell? (ad4.add (Int.toNat s123 * 1))) fun x18 =>
  ((.int .u32 x18) : Value) = .int .u32 x8) ∧
  (opnI .i64 (w16.cell? ((s8.add 3).add (Int.toNat 2 * 1))) fun x19 =>
  ((.int .i64 x19) : Value) = .int .i64 x7) ∧
  C_sha_turn_uint32 #[.int .u32 s20, .int .i64 x7, .int .i64 s4] w16 fun v20 w21 =>
  opnI .u32 (some v20) fun x22 =>
  (opnI .u32 (w21.cell? (ad4.add (Int.toNat s123 * 1))) fun x23 =>
  ((.int .u32 x23) : Value) = .int .u32 x8) ∧
  drw w21 fun w24 =>
  (0 : Int) ≤ 0 ∧
  0 < ((3 : Nat) : Int) ∧
  (0 : Int) ≤ 1 ∧
  1 < ((3 : Nat) : Int) ∧
  (0 : Int) ≤ 2 ∧
  2 < ((3 : Nat) : Int) ∧
  opnI .i64 (w24.cell? ((s8.add 0).add (Int.toNat 0 * 1))) fun x25 =>
  opnI .i64 (w24.cell? ((s8.add 0).add (Int.toNat 1 * 1))) fun x26 =>
  opnI .i64 (w24.cell? ((s8.add 0).add (Int.toNat 2 * 1))) fun x27 =>
  C_sha_turn_uint32 #[.int .u32 s16, .int .i64 x25, .int .i64 s4] w24 fun v28 w29 =>
  opnI .u32 (some v28) fun x30 =>
  (opnI .i64 (w29.cell? ((s8.add 0).add (Int.toNat 2 * 1))) fun x31 =>
  ((.int .i64 x31) : Value) = .int .i64 x27) ∧
  (opnI .i64 (w29.cell? ((s8.add 0).add (Int.toNat 1 * 1))) fun x32 =>
  ((.int .i64 x32) : Value) = .int .i64 x26) ∧
  C_sha_turn_uint32 #[.int .u32 s16, .int .i64 x26, .int .i64 s4] w29 fun v33 w34 =>
  opnI .u32 (some v33) fun x35 =>
  (opnI .i64 (w34.cell? ((s8.add 0).add (Int.toNat 2 * 1))) fun x36 =>
  ((.int .i64 x36) : Value) = .int .i64 x27) ∧
  C_sha_turn_uint32 #[.int .u32 s16, .int .i64 x27, .int .i64 s4] w34 fun v37 w38 =>
  opnI .u32 (some v37) fun x39 =>
  N_sha_compress_uint32.j11 Q s0 s1 s1n s1c s4 s8 s15 (IntKind.wrap .u32 ((IntKind.wrap .u32 ((IntKind.wrap .u32 ((IntKind.wrap .u32 ((IntKind.wrap .u32 (s23 + (bits .xor .u32 (bits .xor .u32 x11 x17) x22))) + (bits .xor .u32 (bits .and .u32 s20 s21) (bits .and .u32 (bits .xor .u32 (if IntKind.signed .u32 then -1 else IntKind.max .u32) s20) s22)))) + x2)) + x8)) + (IntKind.wrap .u32 ((bits .xor .u32 (bits .xor .u32 x30 x35) x39) + (bits .xor .u32 (bits .xor .u32 (bits .and .u32 s16 s17) (bits .and .u32 s16 s18)) (bits .and .u32 s17 s18)))))) s16 s17 s18 (IntKind.wrap .u32 (s19 + (IntKind.wrap .u32 ((IntKind.wrap .u32 ((IntKind.wrap .u32 ((IntKind.wrap .u32 (s23 + (bits .xor .u32 (bits .xor .u32 x11 x17) x22))) + (bits .xor .u32 (bits .and .u32 s20 s21) (bits .and .u32 (bits .xor .u32 (if IntKind.signed .u32 then -1 else IntKind.max .u32) s20) s22)))) + x2)) + x8)))) s20 s21 s22 s121 s121n s121c s122 (IntKind.wrap .i64 (s123 + 1)) w38)
  (semP PP (Instr.build 155 #[(0, .int .u32 s16), (1, .int .u32 s17), (2, .int .u32 s18), (3, .int .u32 s19), (4, .int .u32 s20), (5, .int .u32 s21), (6, .int .u32 s22), (7, .int .u32 s23)]) fun v40 =>
  opnG (some v40) fun x42 =>
  N_sha_compress_uint32.j18 Q s0 s15 x42 0 w)) :
N_sha_compress_uint32.j11 Q s0 s1 s1n s1c s4 s8 s15 s16 s17 s18 s19 s20 s21 s22 s23 s121 s121n s121c s122 s123 w := Nd_fold K_sha_compress_uint32 (by kernel_rfl) h
theorem N_sha_compress_uint32.j18_eq (Q : Value → World → Prop) (s0 : Option Addr) (s15 : Addr) (s219 : Array Value) (s220 : Int) (w : World) (h :
  cond (decide (s220 < 8))
  ((0 : Int) ≤ s220 ∧
  s220 < ((8 : Nat) : Int) ∧
  opnI .u32 (s219[Int.toNat s220 * 1]?) fun x1 =>
  drw w fun w2 =>
  (0 : Int) ≤ s220 ∧
  s220 < ((8 : Nat) : Int) ∧
  opnA s0 fun ad3 =>
  opnI .u32 (w2.cell? (s15.add (Int.toNat s220 * 1))) fun x4 =>
  (0 : Int) ≤ s220 ∧
  s220 < ((8 : Nat) : Int) ∧
  stC (ad3.add (Int.toNat s220 * 1)) (.int .u32 (IntKind.wrap .u32 (x4 + x1))) w2 fun w5 =>
  N_sha_compress_uint32.j18 Q s0 s15 s219 (IntKind.wrap .i64 (s220 + 1)) w5)
  (Q (.tuple #[]) w)) :
N_sha_compress_uint32.j18 Q s0 s15 s219 s220 w := Nd_fold K_sha_compress_uint32 (by kernel_rfl) h
theorem C_sha_compress_uint32_eq (Q : Value → World → Prop) (a0 : Option Addr) (a1 : Option Addr) (a1n : Nat) (a1c : Nat) (a2 : Option Addr) (a2n : Nat) (a2c : Nat) (a3 : Array Value) (a4 : Int) (w : World) (h :
  alC a3 177 w fun p1 w2 =>
  N_sha_compress_uint32.j2 Q a0 a1 a1n a1c a2 a2n a2c a4 p1 16 w2) :
C_sha_compress_uint32 #[.pointer a0, .slice a1 a1n a1c, .slice a2 a2n a2c, .agg a3, .int .i64 a4] w Q := C_fold K_sha_compress_uint32 (by kernel_rfl) h
/-! ### ledger/sha.lay[uint32] -/
noncomputable def B_sha_lay_uint32 : Code := match Tryz.f111.body with | some c => c | _ => .skip
noncomputable def X_sha_lay_uint32 : Cx := { P := PP, fn := 111, N := 32, tab := tab, results := [.tmp 6], iter := fun _ => (.none, .none), dyn := fun _ => false, live := fun r => cond (Nat.beq r 2) (some [0, 2, 10, 11, 12]) (cond (Nat.beq r 5) (some [0, 2, 8, 9, 10, 11, 12]) (none)) }
theorem K_sha_lay_uint32 : OkF X_sha_lay_uint32 B_sha_lay_uint32 Tryz.f111 := ⟨⟨tab_ok, mix_ok⟩, Tryz.func111, by kernel_rfl, by kernel_rfl, by kernel_rfl, by kernel_rfl⟩
noncomputable def N_sha_lay_uint32.j2 (Q : Value → World → Prop) (s0 : Option Addr) (s0n : Nat) (s0c : Nat) (s2 : Int) (s10 : Option Addr) (s10n : Nat) (s10c : Nat) (s11 : Int) (s12 : Int) (w : World) : Prop := Nd X_sha_lay_uint32 Q [(0, 0, .slice s0 s0n s0c), (2, 2, .int .i64 s2), (10, 10, .slice s10 s10n s10c), (11, 11, .int .i64 s11), (12, 12, .int .i64 s12)] [.code (B_sha_lay_uint32.r.l.r.l.l.l), .code (B_sha_lay_uint32.r.l.r.l.l.r), .inLoop (B_sha_lay_uint32.r.l.r.l.l), .inBlock 0, .code (B_sha_lay_uint32.r.r)] w
noncomputable def N_sha_lay_uint32.j5 (Q : Value → World → Prop) (s0 : Option Addr) (s0n : Nat) (s0c : Nat) (s2 : Int) (s8 : Int) (s9 : Int) (s10 : Option Addr) (s10n : Nat) (s10c : Nat) (s11 : Int) (s12 : Int) (w : World) : Prop := Nd X_sha_lay_uint32 Q [(0, 0, .slice s0 s0n s0c), (2, 2, .int .i64 s2), (8, 8, .int .u32 s8), (9, 9, .int .i64 s9), (10, 10, .slice s10 s10n s10c), (11, 11, .int .i64 s11), (12, 12, .int .i64 s12)] [.code (B_sha_lay_uint32.r.l.r.l.l.r.r.l.l.r.r.l.l.l.l), .code (B_sha_lay_uint32.r.l.r.l.l.r.r.l.l.r.r.l.l.l.r), .code (B_sha_lay_uint32.r.l.r.l.l.r.r.l.l.r.r.l.l.r), .inLoop (B_sha_lay_uint32.r.l.r.l.l.r.r.l.l.r.r.l.l), .inBlock 2, .inBlock 1, .code (B_sha_lay_uint32.r.l.r.l.l.r.r.r), .inLoop (B_sha_lay_uint32.r.l.r.l.l), .inBlock 0, .code (B_sha_lay_uint32.r.r)] w
theorem N_sha_lay_uint32.j2_eq (Q : Value → World → Prop) (s0 : Option Addr) (s0n : Nat) (s0c : Nat) (s2 : Int) (s10 : Option Addr) (s10n : Nat) (s10c : Nat) (s11 : Int) (s12 : Int) (w : World) (h :
  cond (decide (s12 < s11))
  ((0 : Int) ≤ s12 ∧
  s12 < ((s10n : Nat) : Int) ∧
  opnA s10 fun ad1 =>
  opnI .u32 (w.cell? (ad1.add (Int.toNat s12 * 1))) fun x2 =>
  N_sha_lay_uint32.j5 Q s0 s0n s0c s2 x2 (IntKind.wrap .i64 (s2 - 1)) s10 s10n s10c s11 s12 w)
  (Q (.slice s0 s0n s0c) w)) :
N_sha_lay_uint32.j2 Q s0 s0n s0c s2 s10 s10n s10c s11 s12 w := Nd_fold K_sha_lay_uint32 (by kernel_rfl) h
theorem N_sha_lay_uint32.j5_eq (Q : Value → World → Prop) (s0 : Option Addr) (s0n : Nat) (s0c : Nat) (s2 : Int) (s8 : Int) (s9 : Int) (s10 : Option Addr) (s10n : Nat) (s10c : Nat) (s11 : Int) (s12 : Int) (w : World) (h :
  cond (decide (s9 ≥ 0))
  (nn (IntKind.wrap .i64 (8 * s9)) (
  alC #[.int .u8 (IntKind.wrap .u8 (shrI .u32 s8 (IntKind.wrap .i64 (8 * s9))))] 5 w fun p1 w2 =>
  sem PP (Builtin.append_ #[29, 29] 29 #[.slice s0 s0n s0c, .slice (some p1) 1 1]) w2 fun v3 w4 =>
  opnL (some v3) fun x5 x5n x5c =>
  N_sha_lay_uint32.j5 Q x5 x5n x5c s2 s8 (IntKind.wrap .i64 (s9 - 1)) s10 s10n s10c s11 s12 w4))
  (N_sha_lay_uint32.j2 Q s0 s0n s0c s2 s10 s10n s10c s11 (IntKind.wrap .i64 (s12 + 1)) w)) :
N_sha_lay_uint32.j5 Q s0 s0n s0c s2 s8 s9 s10 s10n s10c s11 s12 w := Nd_fold K_sha_lay_uint32 (by kernel_rfl) h
theorem C_sha_lay_uint32_eq (Q : Value → World → Prop) (a0 : Option Addr) (a0n : Nat) (a0c : Nat) (a1 : Option Addr) (a1n : Nat) (a1c : Nat) (a2 : Int) (w : World) (h :
  N_sha_lay_uint32.j2 Q a0 a0n a0c a2 a1 a1n a1c ((a1n : Nat) : Int) 0 w) :
C_sha_lay_uint32 #[.slice a0 a0n a0c, .slice a1 a1n a1c, .int .i64 a2] w Q := C_fold K_sha_lay_uint32 (by kernel_rfl) h
/-! ### ledger/ledgerref01.Block -/
noncomputable def B_r01_Block : Code := match Tryz.f113.body with | some c => c | _ => .skip
noncomputable def X_r01_Block : Cx := { P := PP, fn := 113, N := 5, tab := tab, results := [.tmp 2], iter := fun _ => (.none, .none), dyn := fun _ => false, live := fun _ => none }
theorem K_r01_Block : OkF X_r01_Block B_r01_Block Tryz.f113 := ⟨⟨tab_ok, mix_ok⟩, Tryz.func113, by kernel_rfl, by kernel_rfl, by kernel_rfl, by kernel_rfl⟩
theorem C_r01_Block_eq (Q : Value → World → Prop) (a0 : Int) (w : World) (h :
  Q (.int .i64 (IntKind.wrap .i64 (64 * a0))) w) :
C_r01_Block #[.int .i64 a0] w Q := C_fold K_r01_Block (by kernel_rfl) h
/-! ### ledger/ledgerref01.bytesOf -/
noncomputable def B_r01_bytesOf : Code := match Tryz.f114.body with | some c => c | _ => .skip
noncomputable def X_r01_bytesOf : Cx := { P := PP, fn := 114, N := 24, tab := tab, results := [.tmp 4], iter := fun _ => (.none, .none), dyn := fun _ => false, live := fun r => cond (Nat.beq r 3) (some [0, 5, 6]) (none) }
theorem K_r01_bytesOf : OkF X_r01_bytesOf B_r01_bytesOf Tryz.f114 := ⟨⟨tab_ok, mix_ok⟩, Tryz.func114, by kernel_rfl, by kernel_rfl, by kernel_rfl, by kernel_rfl⟩
noncomputable def N_r01_bytesOf.j3 (Q : Value → World → Prop) (s0 : Int) (s5 : Option Addr) (s5n : Nat) (s5c : Nat) (s6 : Int) (w : World) : Prop := Nd X_r01_bytesOf Q [(0, 0, .int .u64 s0), (5, 5, .slice s5 s5n s5c), (6, 6, .int .i64 s6)] [.code (B_r01_bytesOf.r.r.l.r.l.l.l.l), .code (B_r01_bytesOf.r.r.l.r.l.l.l.r), .code (B_r01_bytesOf.r.r.l.r.l.l.r), .inLoop (B_r01_bytesOf.r.r.l.r.l.l), .inBlock 0, .code (B_r01_bytesOf.r.r.r)] w
theorem N_r01_bytesOf.j3_eq (Q : Value → World → Prop) (s0 : Int) (s5 : Option Addr) (s5n : Nat) (s5c : Nat) (s6 : Int) (w : World) (h :
  cond (decide (s6 ≥ 0))
  (256 ≠ (0 : Int) ∧
  (0 : Int) ≤ s6 ∧
  s6 < ((s5n : Nat) : Int) ∧
  opnA s5 fun ad1 =>
  stC (ad1.add (Int.toNat s6 * 1)) (.int .u8 (IntKind.wrap .u8 (Int.tmod s0 256))) w fun w2 =>
  256 ≠ (0 : Int) ∧
  N_r01_bytesOf.j3 Q (IntKind.wrap .u64 (Int.tdiv s0 256)) s5 s5n s5c (IntKind.wrap .i64 (s6 - 1)) w2)
  (Q (.slice s5 s5n s5c) w)) :
N_r01_bytesOf.j3 Q s0 s5 s5n s5c s6 w := Nd_fold K_r01_bytesOf (by kernel_rfl) h
theorem C_r01_bytesOf_eq (Q : Value → World → Prop) (a0 : Int) (a1 : Int) (w : World) (h :
  sem PP (Instr.makeSlice 29 (.int .i64 a1) (.int .i64 a1)) w fun v1 w2 =>
  opnL (some v1) fun x3 x3n x3c =>
  N_r01_bytesOf.j3 Q a0 x3 x3n x3c (IntKind.wrap .i64 (a1 - 1)) w2) :
C_r01_bytesOf #[.int .u64 a0, .int .i64 a1] w Q := C_fold K_r01_bytesOf (by kernel_rfl) h
/-! ### ledger/ledgerref01.wide -/
noncomputable def B_r01_wide : Code := match Tryz.f115.body with | some c => c | _ => .skip
noncomputable def X_r01_wide : Cx := { P := PP, fn := 115, N := 5, tab := tab, results := [.tmp 2], iter := fun _ => (.none, .none), dyn := fun _ => false, live := fun _ => none }
theorem K_r01_wide : OkF X_r01_wide B_r01_wide Tryz.f115 := ⟨⟨tab_ok, mix_ok⟩, Tryz.func115, by kernel_rfl, by kernel_rfl, by kernel_rfl, by kernel_rfl⟩
theorem C_r01_wide_eq (Q : Value → World → Prop) (a0 : Int) (w : World) (h :
  Q (.int .i64 (IntKind.wrap .i64 (4 * a0))) w) :
C_r01_wide #[.int .i64 a0] w Q := C_fold K_r01_wide (by kernel_rfl) h
/-! ### ledger/ledgerref01.mixed -/
noncomputable def B_r01_mixed : Code := match Tryz.f116.body with | some c => c | _ => .skip
noncomputable def X_r01_mixed : Cx := { P := PP, fn := 116, N := 55, tab := tab, results := [.cell 6 156], iter := fun _ => (.none, .none), dyn := fun _ => false, live := fun r => cond (Nat.beq r 4) (some [0, 4, 6, 7, 8, 9]) (cond (Nat.beq r 5) (some [0, 4, 6, 7, 8, 9]) (cond (Nat.beq r 9) (some [0, 4, 6, 7, 8, 9, 10]) (cond (Nat.beq r 11) (some [0, 4, 6, 8, 11]) (none)))) }
theorem K_r01_mixed : OkF X_r01_mixed B_r01_mixed Tryz.f116 := ⟨⟨tab_ok, mix_ok⟩, Tryz.func116, by kernel_rfl, by kernel_rfl, by kernel_rfl, by kernel_rfl⟩
noncomputable def N_r01_mixed.j4 (Q : Value → World → Prop) (s0 : Int) (s4 : Addr) (s6 : Addr) (s7 : Option Addr) (s7n : Nat) (s7c : Nat) (s8 : Addr) (s9 : Int) (w : World) : Prop := Nd X_r01_mixed Q [(0, 0, .int .i64 s0), (4, 4, .pointer (some s4)), (6, 6, .pointer (some s6)), (7, 7, .slice s7 s7n s7c), (8, 8, .pointer (some s8)), (9, 9, .int .i64 s9)] [.code (B_r01_mixed.r.r.r.l.r.l.l.l.l), .code (B_r01_mixed.r.r.r.l.r.l.l.l.r), .code (B_r01_mixed.r.r.r.l.r.l.l.r), .inLoop (B_r01_mixed.r.r.r.l.r.l.l), .inBlock 0, .code (B_r01_mixed.r.r.r.r)] w
noncomputable def N_r01_mixed.j5 (Q : Value → World → Prop) (s0 : Int) (s4 : Addr) (s6 : Addr) (s7 : Option Addr) (s7n : Nat) (s7c : Nat) (s8 : Addr) (s9 : Int) (w : World) : Prop := Nd X_r01_mixed Q [(0, 0, .int .i64 s0), (4, 4, .pointer (some s4)), (6, 6, .pointer (some s6)), (7, 7, .slice s7 s7n s7c), (8, 8, .pointer (some s8)), (9, 9, .int .i64 s9)] [.code (B_r01_mixed.r.r.r.l.r.l.l.r.r), .inLoop (B_r01_mixed.r.r.r.l.r.l.l), .inBlock 0, .code (B_r01_mixed.r.r.r.r)] w
noncomputable def N_r01_mixed.j9 (Q : Value → World → Prop) (s0 : Int) (s4 : Addr) (s6 : Addr) (s7 : Option Addr) (s7n : Nat) (s7c : Nat) (s8 : Addr) (s9 : Int) (s10 : Int) (w : World) : Prop := Nd X_r01_mixed Q [(0, 0, .int .i64 s0), (4, 4, .pointer (some s4)), (6, 6, .pointer (some s6)), (7, 7, .slice s7 s7n s7c), (8, 8, .pointer (some s8)), (9, 9, .int .i64 s9), (10, 10, .int .u64 s10)] [.code (B_r01_mixed.r.r.r.l.r.l.l.r.l.l.r.r), .inBlock 1, .code (B_r01_mixed.r.r.r.l.r.l.l.r.r), .inLoop (B_r01_mixed.r.r.r.l.r.l.l), .inBlock 0, .code (B_r01_mixed.r.r.r.r)] w
noncomputable def N_r01_mixed.j11 (Q : Value → World → Prop) (s0 : Int) (s4 : Addr) (s6 : Addr) (s8 : Addr) (s11 : Int) (w : World) : Prop := Nd X_r01_mixed Q [(0, 0, .int .i64 s0), (4, 4, .pointer (some s4)), (6, 6, .pointer (some s6)), (8, 8, .pointer (some s8)), (11, 11, .int .i64 s11)] [.code (B_r01_mixed.r.r.r.r.l.r.l.l.l.l), .code (B_r01_mixed.r.r.r.r.l.r.l.l.l.r), .code (B_r01_mixed.r.r.r.r.l.r.l.l.r), .inLoop (B_r01_mixed.r.r.r.r.l.r.l.l), .inBlock 2, .code (B_r01_mixed.r.r.r.r.r)] w
theorem N_r01_mixed.j4_eq (Q : Value → World → Prop) (s0 : Int) (s4 : Addr) (s6 : Addr) (s7 : Option Addr) (s7n : Nat) (s7c : Nat) (s8 : Addr) (s9 : Int) (w : World) (h :
  cond (decide (s9 < ((s7n : Nat) : Int)))
  ((0 : Int) ≤ s9 ∧
  s9 < ((80 : Nat) : Int) ∧
  opnI .u64 (w.cell? ((⟨6, 0, none⟩ : Addr).add (Int.toNat s9 * 1))) fun x1 =>
  cond (s0 == 1)
  ((0 : Int) ≤ s9 ∧
  s9 < ((80 : Nat) : Int) ∧
  opnI .u64 (w.cell? ((⟨6, 0, none⟩ : Addr).add (Int.toNat s9 * 1))) fun x2 =>
  N_r01_mixed.j9 Q s0 s4 s6 s7 s7n s7c s8 s9 (shrI .u64 x2 32) w)
  (N_r01_mixed.j9 Q s0 s4 s6 s7 s7n s7c s8 s9 x1 w))
  (N_r01_mixed.j11 Q s0 s4 s6 s8 0 w)) :
N_r01_mixed.j4 Q s0 s4 s6 s7 s7n s7c s8 s9 w := Nd_fold K_r01_mixed (by kernel_rfl) h
theorem N_r01_mixed.j5_eq (Q : Value → World → Prop) (s0 : Int) (s4 : Addr) (s6 : Addr) (s7 : Option Addr) (s7n : Nat) (s7c : Nat) (s8 : Addr) (s9 : Int) (w : World) (h :
  N_r01_mixed.j4 Q s0 s4 s6 s7 s7n s7c s8 (IntKind.wrap .i64 (s9 + 1)) w) :
N_r01_mixed.j5 Q s0 s4 s6 s7 s7n s7c s8 s9 w := Nd_fold K_r01_mixed (by kernel_rfl) h
theorem N_r01_mixed.j9_eq (Q : Value → World → Prop) (s0 : Int) (s4 : Addr) (s6 : Addr) (s7 : Option Addr) (s7n : Nat) (s7c : Nat) (s8 : Addr) (s9 : Int) (s10 : Int) (w : World) (h :
  drw w fun w1 =>
  (0 : Int) ≤ s9 ∧
  s9 < ((s7n : Nat) : Int) ∧
  opnA s7 fun ad2 =>
  opnRow w1 s8 (8 * 1) fun x3 =>
  opnI .u64 (w1.cell? (ad2.add (Int.toNat s9 * 1))) fun x4 =>
  C_r01_round #[.int .i64 s0, .agg x3, .int .u64 s10, .int .u64 x4] w1 fun v5 w6 =>
  opnG (some v5) fun x7 =>
  stRow s8 x7 (8 * 1) w6 fun w8 =>
  N_r01_mixed.j5 Q s0 s4 s6 s7 s7n s7c s8 s9 w8) :
N_r01_mixed.j9 Q s0 s4 s6 s7 s7n s7c s8 s9 s10 w := Nd_fold K_r01_mixed (by kernel_rfl) h
theorem N_r01_mixed.j11_eq (Q : Value → World → Prop) (s0 : Int) (s4 : Addr) (s6 : Addr) (s8 : Addr) (s11 : Int) (w : World) (h :
  cond (decide (s11 < 8))
  (drw w fun w1 =>
  (0 : Int) ≤ s11 ∧
  s11 < ((8 : Nat) : Int) ∧
  (0 : Int) ≤ s11 ∧
  s11 < ((8 : Nat) : Int) ∧
  opnI .u64 (w1.cell? (s8.add (Int.toNat s11 * 1))) fun x2 =>
  opnI .u64 (w1.cell? (s4.add (Int.toNat s11 * 1))) fun x3 =>
  C_r01_word #[.int .i64 s0, .int .u64 (IntKind.wrap .u64 (x2 + x3))] w1 fun v4 w5 =>
  opnI .u64 (some v4) fun x6 =>
  (0 : Int) ≤ s11 ∧
  s11 < ((8 : Nat) : Int) ∧
  stC (s8.add (Int.toNat s11 * 1)) (.int .u64 x6) w5 fun w7 =>
  N_r01_mixed.j11 Q s0 s4 s6 s8 (IntKind.wrap .i64 (s11 + 1)) w7)
  (opnRow w s8 (8 * 1) fun x8 =>
  stRow s6 x8 (8 * 1) w fun w9 =>
  opnRow w9 s6 (8 * 1) fun x10 =>
  Q (.agg x10) w9)) :
N_r01_mixed.j11 Q s0 s4 s6 s8 s11 w := Nd_fold K_r01_mixed (by kernel_rfl) h
theorem C_r01_mixed_eq (Q : Value → World → Prop) (a0 : Int) (a1 : Array Value) (a2 : Option Addr) (a2n : Nat) (a2c : Nat) (w : World) (h :
  alC a1 156 w fun p1 w2 =>
  alZ PP 156 w2 fun p3 w4 =>
  C_r01_plan #[.int .i64 a0, .slice a2 a2n a2c] w4 fun v5 w6 =>
  opnL (some v5) fun x7 x7n x7c =>
  opnRow w6 p1 (8 * 1) fun x8 =>
  alZ PP 156 w6 fun p9 w10 =>
  stRow p9 x8 (8 * 1) w10 fun w11 =>
  N_r01_mixed.j4 Q a0 p1 p3 x7 x7n x7c p9 0 w11) :
C_r01_mixed #[.int .i64 a0, .agg a1, .slice a2 a2n a2c] w Q := C_fold K_r01_mixed (by kernel_rfl) h
/-! ### ledger/sha.turn[uint32] -/
noncomputable def B_sha_turn_uint32 : Code := match Tryz.f117.body with | some c => c | _ => .skip
noncomputable def X_sha_turn_uint32 : Cx := { P := PP, fn := 117, N := 16, tab := tab, results := [.tmp 6], iter := fun _ => (.none, .none), dyn := fun _ => false, live := fun _ => none }
theorem K_sha_turn_uint32 : OkF X_sha_turn_uint32 B_sha_turn_uint32 Tryz.f117 := ⟨⟨tab_ok, mix_ok⟩, Tryz.func117, by kernel_rfl, by kernel_rfl, by kernel_rfl, by kernel_rfl⟩
theorem C_sha_turn_uint32_eq (Q : Value → World → Prop) (a0 : Int) (a1 : Int) (a2 : Int) (w : World) (h :
  drw w fun w1 =>
  nn a1 (
  nn (IntKind.wrap .i64 (a2 - a1)) (
  Q (.int .u32 (bits .or .u32 (shrI .u32 a0 a1) (shlI .u32 a0 (IntKind.wrap .i64 (a2 - a1))))) w1))) :
C_sha_turn_uint32 #[.int .u32 a0, .int .i64 a1, .int .i64 a2] w Q := C_fold K_sha_turn_uint32 (by kernel_rfl) h
/-! ### ledger/ledgerref01.plan -/
noncomputable def B_r01_plan : Code := match Tryz.f119.body with | some c => c | _ => .skip
noncomputable def X_r01_plan : Cx := { P := PP, fn := 119, N := 107, tab := tab, results := [.tmp 4], iter := fun _ => (.none, .none), dyn := fun _ => false, live := fun r => cond (Nat.beq r 5) (some [0, 1, 5, 6, 7, 8]) (cond (Nat.beq r 9) (some [0, 6, 7, 9]) (none)) }
theorem K_r01_plan : OkF X_r01_plan B_r01_plan Tryz.f119 := ⟨⟨tab_ok, mix_ok⟩, Tryz.func119, by kernel_rfl, by kernel_rfl, by kernel_rfl, by kernel_rfl⟩
noncomputable def N_r01_plan.j5 (Q : Value → World → Prop) (s0 : Int) (s1 : Option Addr) (s1n : Nat) (s1c : Nat) (s5 : Int) (s6 : Addr) (s7 : Option Addr) (s7n : Nat) (s7c : Nat) (s8 : Int) (w : World) : Prop := Nd X_r01_plan Q [(0, 0, .int .i64 s0), (1, 1, .slice s1 s1n s1c), (5, 5, .int .i64 s5), (6, 6, .pointer (some s6)), (7, 7, .slice s7 s7n s7c), (8, 8, .int .i64 s8)] [.code (B_r01_plan.r.r.r.r.l.r.l.l.l.l), .code (B_r01_plan.r.r.r.r.l.r.l.l.l.r), .code (B_r01_plan.r.r.r.r.l.r.l.l.r), .inLoop (B_r01_plan.r.r.r.r.l.r.l.l), .inBlock 0, .code (B_r01_plan.r.r.r.r.r)] w
noncomputable def N_r01_plan.j9 (Q : Value → World → Prop) (s0 : Int) (s6 : Addr) (s7 : Option Addr) (s7n : Nat) (s7c : Nat) (s9 : Int) (w : World) : Prop := Nd X_r01_plan Q [(0, 0, .int .i64 s0), (6, 6, .pointer (some s6)), (7, 7, .slice s7 s7n s7c), (9, 9, .int .i64 s9)] [.code (B_r01_plan.r.r.r.r.r.l.r.l.l.l.l), .code (B_r01_plan.r.r.r.r.r.l.r.l.l.l.r), .code (B_r01_plan.r.r.r.r.r.l.r.l.l.r), .inLoop (B_r01_plan.r.r.r.r.r.l.r.l.l), .inBlock 2, .code (B_r01_plan.r.r.r.r.r.r)] w
theorem N_r01_plan.j5_eq (Q : Value → World → Prop) (s0 : Int) (s1 : Option Addr) (s1n : Nat) (s1c : Nat) (s5 : Int) (s6 : Addr) (s7 : Option Addr) (s7n : Nat) (s7c : Nat) (s8 : Int) (w : World) (h :
  cond (decide (s8 < 16))
  ((0 : Int) ≤ (IntKind.wrap .i64 ((IntKind.wrap .i64 (s5 * s8)) + s5)) ∧
  (IntKind.wrap .i64 ((IntKind.wrap .i64 (s5 * s8)) + s5)) ≤ ((s1c : Nat) : Int) ∧
  (0 : Int) ≤ (IntKind.wrap .i64 (s5 * s8)) ∧
  (IntKind.wrap .i64 (s5 * s8)) ≤ (IntKind.wrap .i64 ((IntKind.wrap .i64 (s5 * s8)) + s5)) ∧
  C_r01_number #[.slice (slA s1 (Int.toNat (IntKind.wrap .i64 (s5 * s8))) s1c 1) ((Int.toNat (IntKind.wrap .i64 ((IntKind.wrap .i64 (s5 * s8)) + s5))) - (Int.toNat (IntKind.wrap .i64 (s5 * s8)))) (s1c - (Int.toNat (IntKind.wrap .i64 (s5 * s8))))] w fun v1 w2 =>
  opnI .u64 (some v1) fun x3 =>
  alC #[.int .u64 x3] 124 w2 fun p4 w5 =>
  sem PP (Builtin.append_ #[180, 180] 180 #[.slice s7 s7n s7c, .slice (some p4) 1 1]) w5 fun v6 w7 =>
  opnL (some v6) fun x8 x8n x8c =>
  N_r01_plan.j5 Q s0 s1 s1n s1c s5 s6 x8 x8n x8c (IntKind.wrap .i64 (s8 + 1)) w7)
  (N_r01_plan.j9 Q s0 s6 s7 s7n s7c 16 w)) :
N_r01_plan.j5 Q s0 s1 s1n s1c s5 s6 s7 s7n s7c s8 w := Nd_fold K_r01_plan (by kernel_rfl) h
theorem N_r01_plan.j9_eq (Q : Value → World → Prop) (s0 : Int) (s6 : Addr) (s7 : Option Addr) (s7n : Nat) (s7c : Nat) (s9 : Int) (w : World) (h :
  cond (decide (s9 < (IntKind.wrap .i64 (48 + (IntKind.wrap .i64 (16 * s0))))))
  ((0 : Int) ≤ IntKind.wrap .i64 (s9 - 15) ∧
  (IntKind.wrap .i64 (s9 - 15)) < ((s7n : Nat) : Int) ∧
  opnA s7 fun ad1 =>
  opnI .u64 (w.cell? (ad1.add (Int.toNat (IntKind.wrap .i64 (s9 - 15)) * 1))) fun x2 =>
  (0 : Int) ≤ IntKind.wrap .i64 (s9 - 2) ∧
  (IntKind.wrap .i64 (s9 - 2)) < ((s7n : Nat) : Int) ∧
  opnA s7 fun ad3 =>
  opnI .u64 (w.cell? (ad3.add (Int.toNat (IntKind.wrap .i64 (s9 - 2)) * 1))) fun x4 =>
  drw w fun w5 =>
  (0 : Int) ≤ 6 ∧
  6 < ((12 : Nat) : Int) ∧
  (0 : Int) ≤ 7 ∧
  7 < ((12 : Nat) : Int) ∧
  (0 : Int) ≤ 8 ∧
  8 < ((12 : Nat) : Int) ∧
  opnI .u64 (w5.cell? (s6.add (Int.toNat 6 * 1))) fun x6 =>
  opnI .u64 (w5.cell? (s6.add (Int.toNat 7 * 1))) fun x7 =>
  opnI .u64 (w5.cell? (s6.add (Int.toNat 8 * 1))) fun x8 =>
  nn x8 (
  C_r01_turn #[.int .i64 s0, .int .u64 x2, .int .u64 x6] w5 fun v9 w10 =>
  opnI .u64 (some v9) fun x11 =>
  (opnI .u64 (w10.cell? (s6.add (Int.toNat 8 * 1))) fun x12 =>
  ((.int .u64 x12) : Value) = .int .u64 x8) ∧
  (opnI .u64 (w10.cell? (s6.add (Int.toNat 7 * 1))) fun x13 =>
  ((.int .u64 x13) : Value) = .int .u64 x7) ∧
  C_r01_turn #[.int .i64 s0, .int .u64 x2, .int .u64 x7] w10 fun v14 w15 =>
  opnI .u64 (some v14) fun x16 =>
  (opnI .u64 (w15.cell? (s6.add (Int.toNat 8 * 1))) fun x17 =>
  ((.int .u64 x17) : Value) = .int .u64 x8) ∧
  drw w15 fun w18 =>
  (0 : Int) ≤ 9 ∧
  9 < ((12 : Nat) : Int) ∧
  (0 : Int) ≤ 10 ∧
  10 < ((12 : Nat) : Int) ∧
  (0 : Int) ≤ 11 ∧
  11 < ((12 : Nat) : Int) ∧
  opnI .u64 (w18.cell? (s6.add (Int.toNat 9 * 1))) fun x19 =>
  opnI .u64 (w18.cell? (s6.add (Int.toNat 10 * 1))) fun x20 =>
  opnI .u64 (w18.cell? (s6.add (Int.toNat 11 * 1))) fun x21 =>
  nn x21 (
  C_r01_turn #[.int .i64 s0, .int .u64 x4, .int .u64 x19] w18 fun v22 w23 =>
  opnI .u64 (some v22) fun x24 =>
  (opnI .u64 (w23.cell? (s6.add (Int.toNat 11 * 1))) fun x25 =>
  ((.int .u64 x25) : Value) = .int .u64 x21) ∧
  (opnI .u64 (w23.cell? (s6.add (Int.toNat 10 * 1))) fun x26 =>
  ((.int .u64 x26) : Value) = .int .u64 x20) ∧
  C_r01_turn #[.int .i64 s0, .int .u64 x4, .int .u64 x20] w23 fun v27 w28 =>
  opnI .u64 (some v27) fun x29 =>
  (opnI .u64 (w28.cell? (s6.add (Int.toNat 11 * 1))) fun x30 =>
  ((.int .u64 x30) : Value) = .int .u64 x21) ∧
  drw w28 fun w31 =>
  (0 : Int) ≤ IntKind.wrap .i64 (s9 - 16) ∧
  (IntKind.wrap .i64 (s9 - 16)) < ((s7n : Nat) : Int) ∧
  opnA s7 fun ad32 =>
  (0 : Int) ≤ IntKind.wrap .i64 (s9 - 7) ∧
  (IntKind.wrap .i64 (s9 - 7)) < ((s7n : Nat) : Int) ∧
  opnA s7 fun ad33 =>
  opnI .u64 (w31.cell? (ad32.add (Int.toNat (IntKind.wrap .i64 (s9 - 16)) * 1))) fun x34 =>
  opnI .u64 (w31.cell? (ad33.add (Int.toNat (IntKind.wrap .i64 (s9 - 7)) * 1))) fun x35 =>
  C_r01_word #[.int .i64 s0, .int .u64 (IntKind.wrap .u64 ((IntKind.wrap .u64 ((IntKind.wrap .u64 (x34 + (bits .xor .u64 (bits .xor .u64 x11 x16) (shrI .u64 x2 x8)))) + x35)) + (bits .xor .u64 (bits .xor .u64 x24 x29) (shrI .u64 x4 x21))))] w31 fun v36 w37 =>
  opnI .u64 (some v36) fun x38 =>
  alC #[.int .u64 x38] 124 w37 fun p39 w40 =>
  sem PP (Builtin.append_ #[180, 180] 180 #[.slice s7 s7n s7c, .slice (some p39) 1 1]) w40 fun v41 w42 =>
  opnL (some v41) fun x43 x43n x43c =>
  N_r01_plan.j9 Q s0 s6 x43 x43n x43c (IntKind.wrap .i64 (s9 + 1)) w42)))
  (Q (.slice s7 s7n s7c) w)) :
N_r01_plan.j9 Q s0 s6 s7 s7n s7c s9 w := Nd_fold K_r01_plan (by kernel_rfl) h
theorem C_r01_plan_eq (Q : Value → World → Prop) (a0 : Int) (a1 : Option Addr) (a1n : Nat) (a1c : Nat) (w : World) (h :
  C_r01_wide #[.int .i64 a0] w fun v1 w2 =>
  opnI .i64 (some v1) fun x3 =>
  (0 : Int) ≤ a0 ∧
  a0 < ((3 : Nat) : Int) ∧
  opnRow w2 ((⟨7, 0, none⟩ : Addr).add (Int.toNat a0 * 12)) (12 * 1) fun x4 =>
  alZ PP 192 w2 fun p5 w6 =>
  stRow p5 x4 (12 * 1) w6 fun w7 =>
  N_r01_plan.j5 Q a0 a1 a1n a1c x3 p5 none 0 0 0 w7) :
C_r01_plan #[.int .i64 a0, .slice a1 a1n a1c] w Q := C_fold K_r01_plan (by kernel_rfl) h
/-! ### ledger/ledgerref01.round -/
noncomputable def B_r01_round : Code := match Tryz.f120.body with | some c => c | _ => .skip
noncomputable def X_r01_round : Cx := { P := PP, fn := 120, N := 123, tab := tab, results := [.cell 8 156], iter := fun _ => (.none, .none), dyn := fun _ => false, live := fun _ => none }
theorem K_r01_round : OkF X_r01_round B_r01_round Tryz.f120 := ⟨⟨tab_ok, mix_ok⟩, Tryz.func120, by kernel_rfl, by kernel_rfl, by kernel_rfl, by kernel_rfl⟩
theorem C_r01_round_eq (Q : Value → World → Prop) (a0 : Int) (a1 : Array Value) (a2 : Int) (a3 : Int) (w : World) (h :
  alC a1 156 w fun p1 w2 =>
  alZ PP 156 w2 fun p3 w4 =>
  (0 : Int) ≤ a0 ∧
  a0 < ((3 : Nat) : Int) ∧
  opnRow w4 ((⟨7, 0, none⟩ : Addr).add (Int.toNat a0 * 12)) (12 * 1) fun x5 =>
  alZ PP 192 w4 fun p6 w7 =>
  stRow p6 x5 (12 * 1) w7 fun w8 =>
  drw w8 fun w9 =>
  (0 : Int) ≤ 4 ∧
  4 < ((8 : Nat) : Int) ∧
  (0 : Int) ≤ 3 ∧
  3 < ((12 : Nat) : Int) ∧
  (0 : Int) ≤ 4 ∧
  4 < ((8 : Nat) : Int) ∧
  (0 : Int) ≤ 4 ∧
  4 < ((12 : Nat) : Int) ∧
  (0 : Int) ≤ 4 ∧
  4 < ((8 : Nat) : Int) ∧
  (0 : Int) ≤ 5 ∧
  5 < ((12 : Nat) : Int) ∧
  opnI .u64 (w9.cell? (p1.add (Int.toNat 4 * 1))) fun x10 =>
  opnI .u64 (w9.cell? (p6.add (Int.toNat 3 * 1))) fun x11 =>
  opnI .u64 (w9.cell? (p1.add (Int.toNat 4 * 1))) fun x12 =>
  opnI .u64 (w9.cell? (p6.add (Int.toNat 4 * 1))) fun x13 =>
  opnI .u64 (w9.cell? (p1.add (Int.toNat 4 * 1))) fun x14 =>
  opnI .u64 (w9.cell? (p6.add (Int.toNat 5 * 1))) fun x15 =>
  C_r01_turn #[.int .i64 a0, .int .u64 x10, .int .u64 x11] w9 fun v16 w17 =>
  opnI .u64 (some v16) fun x18 =>
  (opnI .u64 (w17.cell? (p6.add (Int.toNat 5 * 1))) fun x19 =>
  ((.int .u64 x19) : Value) = .int .u64 x15) ∧
  (opnI .u64 (w17.cell? (p1.add (Int.toNat 4 * 1))) fun x20 =>
  ((.int .u64 x20) : Value) = .int .u64 x14) ∧
  (opnI .u64 (w17.cell? (p6.add (Int.toNat 4 * 1))) fun x21 =>
  ((.int .u64 x21) : Value) = .int .u64 x13) ∧
  (opnI .u64 (w17.cell? (p1.add (Int.toNat 4 * 1))) fun x22 =>
  ((.int .u64 x22) : Value) = .int .u64 x12) ∧
  C_r01_turn #[.int .i64 a0, .int .u64 x12, .int .u64 x13] w17 fun v23 w24 =>
  opnI .u64 (some v23) fun x25 =>
  (opnI .u64 (w24.cell? (p6.add (Int.toNat 5 * 1))) fun x26 =>
  ((.int .u64 x26) : Value) = .int .u64 x15) ∧
  (opnI .u64 (w24.cell? (p1.add (Int.toNat 4 * 1))) fun x27 =>
  ((.int .u64 x27) : Value) = .int .u64 x14) ∧
  C_r01_turn #[.int .i64 a0, .int .u64 x14, .int .u64 x15] w24 fun v28 w29 =>
  opnI .u64 (some v28) fun x30 =>
  (0 : Int) ≤ 4 ∧
  4 < ((8 : Nat) : Int) ∧
  opnI .u64 (w29.cell? (p1.add (Int.toNat 4 * 1))) fun x31 =>
  (0 : Int) ≤ 5 ∧
  5 < ((8 : Nat) : Int) ∧
  opnI .u64 (w29.cell? (p1.add (Int.toNat 5 * 1))) fun x32 =>
  (0 : Int) ≤ 4 ∧
  4 < ((8 : Nat) : Int) ∧
  opnI .u64 (w29.cell? (p1.add (Int.toNat 4 * 1))) fun x33 =>
  (0 : Int) ≤ 6 ∧
  6 < ((8 : Nat) : Int) ∧
  opnI .u64 (w29.cell? (p1.add (Int.toNat 6 * 1))) fun x34 =>
  (0 : Int) ≤ 7 ∧
  7 < ((8 : Nat) : Int) ∧
  opnI .u64 (w29.cell? (p1.add (Int.toNat 7 * 1))) fun x35 =>
  drw w29 fun w36 =>
  (0 : Int) ≤ 0 ∧
  0 < ((8 : Nat) : Int) ∧
  (0 : Int) ≤ 0 ∧
  0 < ((12 : Nat) : Int) ∧
  (0 : Int) ≤ 0 ∧
  0 < ((8 : Nat) : Int) ∧
  (0 : Int) ≤ 1 ∧
  1 < ((12 : Nat) : Int) ∧
  (0 : Int) ≤ 0 ∧
  0 < ((8 : Nat) : Int) ∧
  (0 : Int) ≤ 2 ∧
  2 < ((12 : Nat) : Int) ∧
  opnI .u64 (w36.cell? (p1.add (Int.toNat 0 * 1))) fun x37 =>
  opnI .u64 (w36.cell? (p6.add (Int.toNat 0 * 1))) fun x38 =>
  opnI .u64 (w36.cell? (p1.add (Int.toNat 0 * 1))) fun x39 =>
  opnI .u64 (w36.cell? (p6.add (Int.toNat 1 * 1))) fun x40 =>
  opnI .u64 (w36.cell? (p1.add (Int.toNat 0 * 1))) fun x41 =>
  opnI .u64 (w36.cell? (p6.add (Int.toNat 2 * 1))) fun x42 =>
  C_r01_turn #[.int .i64 a0, .int .u64 x37, .int .u64 x38] w36 fun v43 w44 =>
  opnI .u64 (some v43) fun x45 =>
  (opnI .u64 (w44.cell? (p6.add (Int.toNat 2 * 1))) fun x46 =>
  ((.int .u64 x46) : Value) = .int .u64 x42) ∧
  (opnI .u64 (w44.cell? (p1.add (Int.toNat 0 * 1))) fun x47 =>
  ((.int .u64 x47) : Value) = .int .u64 x41) ∧
  (opnI .u64 (w44.cell? (p6.add (Int.toNat 1 * 1))) fun x48 =>
  ((.int .u64 x48) : Value) = .int .u64 x40) ∧
  (opnI .u64 (w44.cell? (p1.add (Int.toNat 0 * 1))) fun x49 =>
  ((.int .u64 x49) : Value) = .int .u64 x39) ∧
  C_r01_turn #[.int .i64 a0, .int .u64 x39, .int .u64 x40] w44 fun v50 w51 =>
  opnI .u64 (some v50) fun x52 =>
  (opnI .u64 (w51.cell? (p6.add (Int.toNat 2 * 1))) fun x53 =>
  ((.int .u64 x53) : Value) = .int .u64 x42) ∧
  (opnI .u64 (w51.cell? (p1.add (Int.toNat 0 * 1))) fun x54 =>
  ((.int .u64 x54) : Value) = .int .u64 x41) ∧
  C_r01_turn #[.int .i64 a0, .int .u64 x41, .int .u64 x42] w51 fun v55 w56 =>
  opnI .u64 (some v55) fun x57 =>
  (0 : Int) ≤ 0 ∧
  0 < ((8 : Nat) : Int) ∧
  opnI .u64 (w56.cell? (p1.add (Int.toNat 0 * 1))) fun x58 =>
  (0 : Int) ≤ 1 ∧
  1 < ((8 : Nat) : Int) ∧
  opnI .u64 (w56.cell? (p1.add (Int.toNat 1 * 1))) fun x59 =>
  (0 : Int) ≤ 0 ∧
  0 < ((8 : Nat) : Int) ∧
  opnI .u64 (w56.cell? (p1.add (Int.toNat 0 * 1))) fun x60 =>
  (0 : Int) ≤ 2 ∧
  2 < ((8 : Nat) : Int) ∧
  opnI .u64 (w56.cell? (p1.add (Int.toNat 2 * 1))) fun x61 =>
  (0 : Int) ≤ 1 ∧
  1 < ((8 : Nat) : Int) ∧
  opnI .u64 (w56.cell? (p1.add (Int.toNat 1 * 1))) fun x62 =>
  (0 : Int) ≤ 2 ∧
  2 < ((8 : Nat) : Int) ∧
  opnI .u64 (w56.cell? (p1.add (Int.toNat 2 * 1))) fun x63 =>
  drw w56 fun w64 =>
  (0 : Int) ≤ 0 ∧
  0 < ((8 : Nat) : Int) ∧
  (0 : Int) ≤ 1 ∧
  1 < ((8 : Nat) : Int) ∧
  (0 : Int) ≤ 2 ∧
  2 < ((8 : Nat) : Int) ∧
  (0 : Int) ≤ 3 ∧
  3 < ((8 : Nat) : Int) ∧
  (0 : Int) ≤ 4 ∧
  4 < ((8 : Nat) : Int) ∧
  (0 : Int) ≤ 5 ∧
  5 < ((8 : Nat) : Int) ∧
  (0 : Int) ≤ 6 ∧
  6 < ((8 : Nat) : Int) ∧
  opnI .u64 (w64.cell? (p1.add (Int.toNat 0 * 1))) fun x65 =>
  opnI .u64 (w64.cell? (p1.add (Int.toNat 1 * 1))) fun x66 =>
  opnI .u64 (w64.cell? (p1.add (Int.toNat 2 * 1))) fun x67 =>
  opnI .u64 (w64.cell? (p1.add (Int.toNat 3 * 1))) fun x68 =>
  opnI .u64 (w64.cell? (p1.add (Int.toNat 4 * 1))) fun x69 =>
  opnI .u64 (w64.cell? (p1.add (Int.toNat 5 * 1))) fun x70 =>
  opnI .u64 (w64.cell? (p1.add (Int.toNat 6 * 1))) fun x71 =>
  C_r01_word #[.int .i64 a0, .int .u64 (IntKind.wrap .u64 ((IntKind.wrap .u64 ((IntKind.wrap .u64 ((IntKind.wrap .u64 ((IntKind.wrap .u64 ((IntKind.wrap .u64 (x35 + (bits .xor .u64 (bits .xor .u64 x18 x25) x30))) + (bits .or .u64 (bits .and .u64 x31 x32) (bits .and .u64 (bits .xor .u64 (if IntKind.signed .u64 then -1 else IntKind.max .u64) x33) x34)))) + a2)) + a3)) + (bits .xor .u64 (bits .xor .u64 x45 x52) x57))) + (bits .or .u64 (bits .or .u64 (bits .and .u64 x58 x59) (bits .and .u64 x60 x61)) (bits .and .u64 x62 x63))))] w64 fun v72 w73 =>
  opnI .u64 (some v72) fun x74 =>
  (opnI .u64 (w73.cell? (p1.add (Int.toNat 6 * 1))) fun x75 =>
  ((.int .u64 x75) : Value) = .int .u64 x71) ∧
  (opnI .u64 (w73.cell? (p1.add (Int.toNat 5 * 1))) fun x76 =>
  ((.int .u64 x76) : Value) = .int .u64 x70) ∧
  (opnI .u64 (w73.cell? (p1.add (Int.toNat 4 * 1))) fun x77 =>
  ((.int .u64 x77) : Value) = .int .u64 x69) ∧
  (opnI .u64 (w73.cell? (p1.add (Int.toNat 3 * 1))) fun x78 =>
  ((.int .u64 x78) : Value) = .int .u64 x68) ∧
  (opnI .u64 (w73.cell? (p1.add (Int.toNat 2 * 1))) fun x79 =>
  ((.int .u64 x79) : Value) = .int .u64 x67) ∧
  (opnI .u64 (w73.cell? (p1.add (Int.toNat 1 * 1))) fun x80 =>
  ((.int .u64 x80) : Value) = .int .u64 x66) ∧
  (opnI .u64 (w73.cell? (p1.add (Int.toNat 0 * 1))) fun x81 =>
  ((.int .u64 x81) : Value) = .int .u64 x65) ∧
  C_r01_word #[.int .i64 a0, .int .u64 (IntKind.wrap .u64 (x68 + (IntKind.wrap .u64 ((IntKind.wrap .u64 ((IntKind.wrap .u64 ((IntKind.wrap .u64 (x35 + (bits .xor .u64 (bits .xor .u64 x18 x25) x30))) + (bits .or .u64 (bits .and .u64 x31 x32) (bits .and .u64 (bits .xor .u64 (if IntKind.signed .u64 then -1 else IntKind.max .u64) x33) x34)))) + a2)) + a3))))] w73 fun v82 w83 =>
  opnI .u64 (some v82) fun x84 =>
  (opnI .u64 (w83.cell? (p1.add (Int.toNat 6 * 1))) fun x85 =>
  ((.int .u64 x85) : Value) = .int .u64 x71) ∧
  (opnI .u64 (w83.cell? (p1.add (Int.toNat 5 * 1))) fun x86 =>
  ((.int .u64 x86) : Value) = .int .u64 x70) ∧
  (opnI .u64 (w83.cell? (p1.add (Int.toNat 4 * 1))) fun x87 =>
  ((.int .u64 x87) : Value) = .int .u64 x69) ∧
  (opnI .u64 (w83.cell? (p1.add (Int.toNat 2 * 1))) fun x88 =>
  ((.int .u64 x88) : Value) = .int .u64 x67) ∧
  (opnI .u64 (w83.cell? (p1.add (Int.toNat 1 * 1))) fun x89 =>
  ((.int .u64 x89) : Value) = .int .u64 x66) ∧
  (opnI .u64 (w83.cell? (p1.add (Int.toNat 0 * 1))) fun x90 =>
  ((.int .u64 x90) : Value) = .int .u64 x65) ∧
  semP PP (Instr.build 156 #[(0, .int .u64 x74), (1, .int .u64 x65), (2, .int .u64 x66), (3, .int .u64 x67), (4, .int .u64 x84), (5, .int .u64 x69), (6, .int .u64 x70), (7, .int .u64 x71)]) fun v91 =>
  opnG (some v91) fun x93 =>
  stRow p3 x93 (8 * 1) w83 fun w94 =>
  opnRow w94 p3 (8 * 1) fun x95 =>
  Q (.agg x95) w94) :
C_r01_round #[.int .i64 a0, .agg a1, .int .u64 a2, .int .u64 a3] w Q := C_fold K_r01_round (by kernel_rfl) h
/-! ### ledger/ledgerref01.word -/
noncomputable def B_r01_word : Code := match Tryz.f121.body with | some c => c | _ => .skip
noncomputable def X_r01_word : Cx := { P := PP, fn := 121, N := 10, tab := tab, results := [.tmp 4], iter := fun _ => (.none, .none), dyn := fun _ => false, live := fun _ => none }
theorem K_r01_word : OkF X_r01_word B_r01_word Tryz.f121 := ⟨⟨tab_ok, mix_ok⟩, Tryz.func121, by kernel_rfl, by kernel_rfl, by kernel_rfl, by kernel_rfl⟩
theorem C_r01_word_eq (Q : Value → World → Prop) (a0 : Int) (a1 : Int) (w : World) (h :
  cond (a0 == 1)
  (4294967296 ≠ (0 : Int) ∧
  Q (.int .u64 (Int.tmod a1 4294967296)) w)
  (Q (.int .u64 a1) w)) :
C_r01_word #[.int .i64 a0, .int .u64 a1] w Q := C_fold K_r01_word (by kernel_rfl) h
/-! ### ledger/ledgerref01.number -/
noncomputable def B_r01_number : Code := match Tryz.f122.body with | some c => c | _ => .skip
noncomputable def X_r01_number : Cx := { P := PP, fn := 122, N := 20, tab := tab, results := [.tmp 2], iter := fun _ => (.none, .none), dyn := fun _ => false, live := fun r => cond (Nat.beq r 3) (some [0, 3, 4]) (none) }
theorem K_r01_number : OkF X_r01_number B_r01_number Tryz.f122 := ⟨⟨tab_ok, mix_ok⟩, Tryz.func122, by kernel_rfl, by kernel_rfl, by kernel_rfl, by kernel_rfl⟩
noncomputable def N_r01_number.j3 (Q : Value → World → Prop) (s0 : Option Addr) (s0n : Nat) (s0c : Nat) (s3 : Int) (s4 : Int) (w : World) : Prop := Nd X_r01_number Q [(0, 0, .slice s0 s0n s0c), (3, 3, .int .u64 s3), (4, 4, .int .i64 s4)] [.code (B_r01_number.r.r.l.r.l.l.l.l), .code (B_r01_number.r.r.l.r.l.l.l.r), .code (B_r01_number.r.r.l.r.l.l.r), .inLoop (B_r01_number.r.r.l.r.l.l), .inBlock 0, .code (B_r01_number.r.r.r)] w
theorem N_r01_number.j3_eq (Q : Value → World → Prop) (s0 : Option Addr) (s0n : Nat) (s0c : Nat) (s3 : Int) (s4 : Int) (w : World) (h :
  cond (decide (s4 < ((s0n : Nat) : Int)))
  ((0 : Int) ≤ s4 ∧
  s4 < ((s0n : Nat) : Int) ∧
  opnA s0 fun ad1 =>
  opnI .u8 (w.cell? (ad1.add (Int.toNat s4 * 1))) fun x2 =>
  N_r01_number.j3 Q s0 s0n s0c (IntKind.wrap .u64 ((IntKind.wrap .u64 (s3 * 256)) + (IntKind.wrap .u64 x2))) (IntKind.wrap .i64 (s4 + 1)) w)
  (Q (.int .u64 s3) w)) :
N_r01_number.j3 Q s0 s0n s0c s3 s4 w := Nd_fold K_r01_number (by kernel_rfl) h
theorem C_r01_number_eq (Q : Value → World → Prop) (a0 : Option Addr) (a0n : Nat) (a0c : Nat) (w : World) (h :
  N_r01_number.j3 Q a0 a0n a0c 0 0 w) :
C_r01_number #[.slice a0 a0n a0c] w Q := C_fold K_r01_number (by kernel_rfl) h
/-! ### ledger/ledgerref01.turn -/
noncomputable def B_r01_turn : Code := match Tryz.f123.body with | some c => c | _ => .skip
noncomputable def X_r01_turn : Cx := { P := PP, fn := 123, N := 23, tab := tab, results := [.tmp 6], iter := fun _ => (.none, .none), dyn := fun _ => false, live := fun _ => none }
theorem K_r01_turn : OkF X_r01_turn B_r01_turn Tryz.f123 := ⟨⟨tab_ok, mix_ok⟩, Tryz.func123, by kernel_rfl, by kernel_rfl, by kernel_rfl, by kernel_rfl⟩
theorem C_r01_turn_eq (Q : Value → World → Prop) (a0 : Int) (a1 : Int) (a2 : Int) (w : World) (h :
  C_r01_wide #[.int .i64 a0] w fun v1 w2 =>
  opnI .i64 (some v1) fun x3 =>
  nn a2 (
  nn (IntKind.wrap .u64 ((IntKind.wrap .u64 (IntKind.wrap .i64 (8 * x3))) - a2)) (
  C_r01_word #[.int .i64 a0, .int .u64 (IntKind.wrap .u64 ((shrI .u64 a1 a2) + (shlI .u64 a1 (IntKind.wrap .u64 ((IntKind.wrap .u64 (IntKind.wrap .i64 (8 * x3))) - a2)))))] w2 fun v4 w5 =>
  opnI .u64 (some v4) fun x6 =>
  Q (.int .u64 x6) w5))) :
C_r01_turn #[.int .i64 a0, .int .u64 a1, .int .u64 a2] w Q := C_fold K_r01_turn (by kernel_rfl) h
end Go.Proofs.YtccjncflbbhldaaGreatDoor
/-! ## ShGm0 -/
set_option maxRecDepth 100000
namespace Go.Proofs.YtccjncflbbhldaaGreatDoor
open Go.Sh
/-! ### math/bits.OnesCount64 -/
noncomputable def B_math_bits_OnesCount64 : Code := match Tryz.f66.body with | some c => c | _ => .skip
noncomputable def X_math_bits_OnesCount64 : Cx := { P := PP, fn := 66, N := 35, tab := tab, results := [.tmp 2], iter := fun _ => (.none, .none), dyn := fun _ => false, live := fun _ => none }
theorem K_math_bits_OnesCount64 : OkF X_math_bits_OnesCount64 B_math_bits_OnesCount64 Tryz.f66 := ⟨⟨tab_ok, mix_ok⟩, Tryz.func66, by kernel_rfl, by kernel_rfl, by kernel_rfl, by kernel_rfl⟩
theorem C_math_bits_OnesCount64_eq (Q : Value → World → Prop) (a0 : Int) (w : World) (h :
  Q (.int .i64 (bits .and .i64 (IntKind.wrap .i64 (IntKind.wrap .u64 ((IntKind.wrap .u64 ((IntKind.wrap .u64 ((bits .and .u64 (IntKind.wrap .u64 ((shrI .u64 (IntKind.wrap .u64 ((bits .and .u64 (shrI .u64 (IntKind.wrap .u64 ((bits .and .u64 (shrI .u64 a0 1) 6148914691236517205) + (bits .and .u64 a0 6148914691236517205))) 2) 3689348814741910323) + (bits .and .u64 (IntKind.wrap .u64 ((bits .and .u64 (shrI .u64 a0 1) 6148914691236517205) + (bits .and .u64 a0 6148914691236517205))) 3689348814741910323))) 4) + (IntKind.wrap .u64 ((bits .and .u64 (shrI .u64 (IntKind.wrap .u64 ((bits .and .u64 (shrI .u64 a0 1) 6148914691236517205) + (bits .and .u64 a0 6148914691236517205))) 2) 3689348814741910323) + (bits .and .u64 (IntKind.wrap .u64 ((bits .and .u64 (shrI .u64 a0 1) 6148914691236517205) + (bits .and .u64 a0 6148914691236517205))) 3689348814741910323))))) 1085102592571150095) + (shrI .u64 (bits .and .u64 (IntKind.wrap .u64 ((shrI .u64 (IntKind.wrap .u64 ((bits .and .u64 (shrI .u64 (IntKind.wrap .u64 ((bits .and .u64 (shrI .u64 a0 1) 6148914691236517205) + (bits .and .u64 a0 6148914691236517205))) 2) 3689348814741910323) + (bits .and .u64 (IntKind.wrap .u64 ((bits .and .u64 (shrI .u64 a0 1) 6148914691236517205) + (bits .and .u64 a0 6148914691236517205))) 3689348814741910323))) 4) + (IntKind.wrap .u64 ((bits .and .u64 (shrI .u64 (IntKind.wrap .u64 ((bits .and .u64 (shrI .u64 a0 1) 6148914691236517205) + (bits .and .u64 a0 6148914691236517205))) 2) 3689348814741910323) + (bits .and .u64 (IntKind.wrap .u64 ((bits .and .u64 (shrI .u64 a0 1) 6148914691236517205) + (bits .and .u64 a0 6148914691236517205))) 3689348814741910323))))) 1085102592571150095) 8))) + (shrI .u64 (IntKind.wrap .u64 ((bits .and .u64 (IntKind.wrap .u64 ((shrI .u64 (IntKind.wrap .u64 ((bits .and .u64 (shrI .u64 (IntKind.wrap .u64 ((bits .and .u64 (shrI .u64 a0 1) 6148914691236517205) + (bits .and .u64 a0 6148914691236517205))) 2) 3689348814741910323) + (bits .and .u64 (IntKind.wrap .u64 ((bits .and .u64 (shrI .u64 a0 1) 6148914691236517205) + (bits .and .u64 a0 6148914691236517205))) 3689348814741910323))) 4) + (IntKind.wrap .u64 ((bits .and .u64 (shrI .u64 (IntKind.wrap .u64 ((bits .and .u64 (shrI .u64 a0 1) 6148914691236517205) + (bits .and .u64 a0 6148914691236517205))) 2) 3689348814741910323) + (bits .and .u64 (IntKind.wrap .u64 ((bits .and .u64 (shrI .u64 a0 1) 6148914691236517205) + (bits .and .u64 a0 6148914691236517205))) 3689348814741910323))))) 1085102592571150095) + (shrI .u64 (bits .and .u64 (IntKind.wrap .u64 ((shrI .u64 (IntKind.wrap .u64 ((bits .and .u64 (shrI .u64 (IntKind.wrap .u64 ((bits .and .u64 (shrI .u64 a0 1) 6148914691236517205) + (bits .and .u64 a0 6148914691236517205))) 2) 3689348814741910323) + (bits .and .u64 (IntKind.wrap .u64 ((bits .and .u64 (shrI .u64 a0 1) 6148914691236517205) + (bits .and .u64 a0 6148914691236517205))) 3689348814741910323))) 4) + (IntKind.wrap .u64 ((bits .and .u64 (shrI .u64 (IntKind.wrap .u64 ((bits .and .u64 (shrI .u64 a0 1) 6148914691236517205) + (bits .and .u64 a0 6148914691236517205))) 2) 3689348814741910323) + (bits .and .u64 (IntKind.wrap .u64 ((bits .and .u64 (shrI .u64 a0 1) 6148914691236517205) + (bits .and .u64 a0 6148914691236517205))) 3689348814741910323))))) 1085102592571150095) 8))) 16))) + (shrI .u64 (IntKind.wrap .u64 ((IntKind.wrap .u64 ((bits .and .u64 (IntKind.wrap .u64 ((shrI .u64 (IntKind.wrap .u64 ((bits .and .u64 (shrI .u64 (IntKind.wrap .u64 ((bits .and .u64 (shrI .u64 a0 1) 6148914691236517205) + (bits .and .u64 a0 6148914691236517205))) 2) 3689348814741910323) + (bits .and .u64 (IntKind.wrap .u64 ((bits .and .u64 (shrI .u64 a0 1) 6148914691236517205) + (bits .and .u64 a0 6148914691236517205))) 3689348814741910323))) 4) + (IntKind.wrap .u64 ((bits .and .u64 (shrI .u64 (IntKind.wrap .u64 ((bits .and .u64 (shrI .u64 a0 1) 6148914691236517205) + (bits .and .u64 a0 6148914691236517205))) 2) 3689348814741910323) + (bits .and .u64 (IntKind.wrap .u64 ((bits .and .u64 (shrI .u64 a0 1) 6148914691236517205) + (bits .and .u64 a0 6148914691236517205))) 3689348814741910323))))) 1085102592571150095) + (shrI .u64 (bits .and .u64 (IntKind.wrap .u64 ((shrI .u64 (IntKind.wrap .u64 ((bits .and .u64 (shrI .u64 (IntKind.wrap .u64 ((bits .and .u64 (shrI .u64 a0 1) 6148914691236517205) + (bits .and .u64 a0 6148914691236517205))) 2) 3689348814741910323) + (bits .and .u64 (IntKind.wrap .u64 ((bits .and .u64 (shrI .u64 a0 1) 6148914691236517205) + (bits .and .u64 a0 6148914691236517205))) 3689348814741910323))) 4) + (IntKind.wrap .u64 ((bits .and .u64 (shrI .u64 (IntKind.wrap .u64 ((bits .and .u64 (shrI .u64 a0 1) 6148914691236517205) + (bits .and .u64 a0 6148914691236517205))) 2) 3689348814741910323) + (bits .and .u64 (IntKind.wrap .u64 ((bits .and .u64 (shrI .u64 a0 1) 6148914691236517205) + (bits .and .u64 a0 6148914691236517205))) 3689348814741910323))))) 1085102592571150095) 8))) + (shrI .u64 (IntKind.wrap .u64 ((bits .and .u64 (IntKind.wrap .u64 ((shrI .u64 (IntKind.wrap .u64 ((bits .and .u64 (shrI .u64 (IntKind.wrap .u64 ((bits .and .u64 (shrI .u64 a0 1) 6148914691236517205) + (bits .and .u64 a0 6148914691236517205))) 2) 3689348814741910323) + (bits .and .u64 (IntKind.wrap .u64 ((bits .and .u64 (shrI .u64 a0 1) 6148914691236517205) + (bits .and .u64 a0 6148914691236517205))) 3689348814741910323))) 4) + (IntKind.wrap .u64 ((bits .and .u64 (shrI .u64 (IntKind.wrap .u64 ((bits .and .u64 (shrI .u64 a0 1) 6148914691236517205) + (bits .and .u64 a0 6148914691236517205))) 2) 3689348814741910323) + (bits .and .u64 (IntKind.wrap .u64 ((bits .and .u64 (shrI .u64 a0 1) 6148914691236517205) + (bits .and .u64 a0 6148914691236517205))) 3689348814741910323))))) 1085102592571150095) + (shrI .u64 (bits .and .u64 (IntKind.wrap .u64 ((shrI .u64 (IntKind.wrap .u64 ((bits .and .u64 (shrI .u64 (IntKind.wrap .u64 ((bits .and .u64 (shrI .u64 a0 1) 6148914691236517205) + (bits .and .u64 a0 6148914691236517205))) 2) 3689348814741910323) + (bits .and .u64 (IntKind.wrap .u64 ((bits .and .u64 (shrI .u64 a0 1) 6148914691236517205) + (bits .and .u64 a0 6148914691236517205))) 3689348814741910323))) 4) + (IntKind.wrap .u64 ((bits .and .u64 (shrI .u64 (IntKind.wrap .u64 ((bits .and .u64 (shrI .u64 a0 1) 6148914691236517205) + (bits .and .u64 a0 6148914691236517205))) 2) 3689348814741910323) + (bits .and .u64 (IntKind.wrap .u64 ((bits .and .u64 (shrI .u64 a0 1) 6148914691236517205) + (bits .and .u64 a0 6148914691236517205))) 3689348814741910323))))) 1085102592571150095) 8))) 16))) 32)))) 127)) w) :
C_math_bits_OnesCount64 #[.int .u64 a0] w Q := C_fold K_math_bits_OnesCount64 (by kernel_rfl) h
end Go.Proofs.YtccjncflbbhldaaGreatDoor
/-! ## ShGj0 -/
set_option maxRecDepth 100000
namespace Go.Proofs.YtccjncflbbhldaaGreatDoor
open Go.Sh
/-! ### (ledger/tlog.hasher).join -/
noncomputable def B_tlog_hasher_join : Code := match Tryz.f73.body with | some c => c | _ => .skip
noncomputable def X_tlog_hasher_join : Cx := { P := PP, fn := 73, N := 12, tab := tab, results := [.cell 6 54], iter := fun _ => (.none, .none), dyn := fun r => cond (Nat.beq r 8) true (false), live := fun _ => none }
theorem K_tlog_hasher_join : OkF X_tlog_hasher_join B_tlog_hasher_join Tryz.f73 := ⟨⟨tab_ok, mix_ok⟩, Tryz.func73, by kernel_rfl, by kernel_rfl, by kernel_rfl, by kernel_rfl⟩
theorem C_tlog_hasher_join_eq (Q : Value → World → Prop) (a0_0 : Int) (a0_1 : Value) (a0_2 : Value) (a0_3 : Value) (a1 : Array Value) (a2 : Array Value) (w : World) (h :
  alC #[.int .i64 a0_0, a0_1, a0_2, a0_3] 100 w fun p1 w2 =>
  alC a1 54 w2 fun p3 w4 =>
  alC a2 54 w4 fun p5 w6 =>
  alZ PP 54 w6 fun p7 w8 =>
  opnV (w8.cell? (p1.add 3)) fun x9 =>
  opnRow w8 p3 (32 * 1) fun x10 =>
  opnRow w8 p5 (32 * 1) fun x11 =>
  invk PP x9 #[.agg x10, .agg x11] w8 fun v12 w13 =>
  opnG (some v12) fun x14 =>
  stRow p7 x14 (32 * 1) w13 fun w15 =>
  opnRow w15 p7 (32 * 1) fun x16 =>
  Q (.agg x16) w15) :
C_tlog_hasher_join #[.agg #[.int .i64 a0_0, a0_1, a0_2, a0_3], .agg a1, .agg a2] w Q := C_fold K_tlog_hasher_join (by kernel_rfl) h
end Go.Proofs.YtccjncflbbhldaaGreatDoor
/-! ## ShL1 -/
namespace Go.Sh
open Go.ChangeShapes

/-- From w to w' nothing has changed but blocks of D and new ones. -/
structure Chg (D : Nat → Prop) (w w' : World) : Prop where
  os : w'.os = w.os
  tape : w'.tape = w.tape
  output : w'.output = w.output
  size : w.heap.size ≤ w'.heap.size
  block : ∀ k, k < w.heap.size → ¬ D k → w'.heap[k]? = w.heap[k]?
theorem Chg.refl (D : Nat → Prop) (w : World) : Chg D w w := ⟨rfl, rfl, rfl, Nat.le_refl _, fun _ _ _ => rfl⟩
theorem Chg.trans {D D' E : Nat → Prop} {a b c : World} (h : Chg D a b) (k : Chg D' b c) (h1 : ∀ x, x < a.heap.size → D x → E x) (h2 : ∀ x, x < a.heap.size → D' x → E x) : Chg E a c :=
  ⟨k.os.trans h.os, k.tape.trans h.tape, k.output.trans h.output, Nat.le_trans h.size k.size, fun i hi hn => (k.block i (Nat.lt_of_lt_of_le hi h.size) fun hd => hn (h2 i hi hd)).trans (h.block i hi fun hd => hn (h1 i hi hd))⟩
theorem Chg.mono {D E : Nat → Prop} {a b : World} (h : Chg D a b) (h1 : ∀ x, x < a.heap.size → D x → E x) : Chg E a b := ⟨h.os, h.tape, h.output, h.size, fun k hk hn => h.block k hk fun hd => hn (h1 k hk hd)⟩
/-- Blocks from B on. -/
abbrev Fr (B : Nat) := Chg (fun k => B ≤ k)
theorem Fr.trans {B : Nat} {a b c : World} (h : Fr B a b) (k : Fr B b c) : Fr B a c := Chg.trans h k (fun _ _ h => h) (fun _ _ h => h)
theorem Fr.of {D : Nat → Prop} {B : Nat} {a b : World} (h : Chg D a b) (hd : ∀ k, D k → B ≤ k) : Fr B a b := h.mono fun k _ h => hd k h
theorem Fr.below {B : Nat} {a b : World} (h : Fr B a b) (hB : B ≤ a.heap.size) : Go.RowKit.Below B a b := ⟨h.os, h.tape, h.output, h.size, fun k hk => h.block k (by omega) (by omega)⟩
theorem Fr.mono {B B' : Nat} {a b : World} (h : Fr B a b) (hB : B' ≤ B) : Fr B' a b := Chg.mono h fun _ _ h => Nat.le_trans hB h
/-- nothing old -/
abbrev None : Nat → Prop := fun _ => False
theorem Chg.fr {B : Nat} {a b : World} (h : Chg None a b) : Fr B a b := h.mono fun _ _ h => h.elim
theorem Chg.drew {D : Nat → Prop} {a w : World} (h : Chg D a w) : Chg D a w.drew := ⟨h.os, h.tape, h.output, h.size, h.block⟩
theorem Chg.drew0 {D : Nat → Prop} (w : World) : Chg D w w.drew := (Chg.refl D w).drew
theorem chg_alloc {D : Nat → Prop} (w : World) (o : Obj) : Chg D w (w.alloc o) := ⟨rfl, rfl, rfl, by simp, fun k hk _ => Go.RowKit.Below.heap_alloc w o k hk⟩
theorem chg_setCell {w : World} {p : Addr} {v : Value} : Chg (fun k => k = p.block) w (w.setCell p v) := ⟨rfl, rfl, rfl, by simp [World.setCell], fun k _ hn => Go.RowKit.Below.heap_setCell w p v k hn⟩

/-- Block b is a row of cells l, none of them frozen. -/
def Blk (w : World) (b : Nat) (t : TypeId) (l : List Value) : Prop := ∃ fr : Nat × Nat, w.heap[b]? = some (.cells l.toArray t fr) ∧ ∀ i, i < l.length → ¬ (fr.1 ≤ i ∧ i < fr.2)
section
variable {w w' : World} {b : Nat} {t : TypeId} {l : List Value}
theorem Blk.lt (h : Blk w b t l) : b < w.heap.size := by obtain ⟨_, h, _⟩ := h; exact (Array.getElem?_eq_some_iff.1 h).1
theorem Blk.cell (h : Blk w b t l) (j : Nat) : w.cell? ⟨b, j, none⟩ = l[j]? := by obtain ⟨_, h, _⟩ := h; simp [World.cell?, h]
theorem Blk.thaw (h : Blk w b t l) {j : Nat} (hj : j < l.length) : w.frozen? ⟨b, j, none⟩ = false := by
  obtain ⟨fr, h, hf⟩ := h
  have := hf j hj
  simp only [World.frozen?, h]
  cases h1 : decide (fr.1 ≤ j) <;> simp_all
theorem Blk.chg {D : Nat → Prop} (h : Blk w b t l) (c : Chg D w w') (hd : ¬ D b) : Blk w' b t l := by
  have hlt := h.lt
  obtain ⟨fr, h, hf⟩ := h
  exact ⟨fr, by rw [c.block b hlt hd]; exact h, hf⟩
theorem blk_alloc {cs : Array Value} : Blk (w.alloc (.cells cs t)) w.heap.size t cs.toList := ⟨(0, 0), by show (w.heap.push _)[w.heap.size]? = _; simp, fun i _ => by simp⟩
theorem Blk.set (h : Blk w b t l) (j : Nat) (v : Value) : Blk (w.setCell ⟨b, j, none⟩ v) b t (l.set j v) := by
  have hlt := h.lt
  obtain ⟨fr, h, hf⟩ := h
  refine ⟨fr, ?_, fun i hi => hf i (by simpa using hi)⟩
  simp only [World.setCell, Array.getElem?_modify, if_pos, h, Option.map_some, Option.isSome_none, Bool.false_eq_true, if_false]
  congr 2
  exact Array.ext' (by simp)
/-- A store into an own block. -/
theorem Blk.store (h : Blk w b t l) {j : Nat} (hj : j < l.length) {v : Value} (hv : v.oneCell' = true) {K : World → Prop} (hK : Blk (w.setCell ⟨b, j, none⟩ v) b t (l.set j v) → Chg (fun k => k = b) w (w.setCell ⟨b, j, none⟩ v) → K (w.setCell ⟨b, j, none⟩ v)) : stC ⟨b, j, none⟩ v w K :=
  ⟨hv, by rw [h.cell j]; simp [hj], h.thaw hj, hK (h.set j v) (chg_setCell (p := ⟨b, j, none⟩))⟩
theorem Blk.setCells (h : Blk w b t l) : ∀ (vs : List Value) (o : Nat), o + vs.length ≤ l.length → Blk (w.setCells b o vs) b t (l.take o ++ vs ++ l.drop (o + vs.length)) ∧ Chg (fun k => k = b) w (w.setCells b o vs) := by
  intro vs
  induction vs generalizing w l with
  | nil => intro o _; exact ⟨by simpa [World.setCells] using h, Chg.refl _ _⟩
  | cons v r ih =>
    intro o ho
    simp only [List.length_cons] at ho
    obtain ⟨h1, h2⟩ := ih (h.set o v) (o + 1) (by simp; omega)
    refine ⟨?_, Chg.trans (chg_setCell (p := ⟨b, o, none⟩)) h2 (fun _ _ h => h) (fun _ _ h => h)⟩
    have e : (l.set o v).take (o + 1) ++ r ++ (l.set o v).drop (o + 1 + r.length) = l.take o ++ (v :: r) ++ l.drop (o + (v :: r).length) := by
      rw [take_set_next l o (by omega), List.drop_set_of_lt (by omega)]
      simp [Nat.add_assoc, Nat.add_comm 1]
    rw [e] at h1; exact h1
end

/-- What lies behind an address: the values l, in blocks of S. -/
def Lies (w : World) (S : Nat → Prop) (a : Option Addr) (l : List Value) : Prop := ∀ j v, l[j]? = some v → ∃ p, a = some p ∧ S p.block ∧ w.cell? (p.add j) = some v
section
variable {w w' : World} {S S' : Nat → Prop} {a : Option Addr} {l : List Value}
theorem Lies.nil : Lies w S a [] := fun j v h => by simp at h
theorem Lies.mono (h : Lies w S a l) (hs : ∀ k, S k → S' k) : Lies w S' a l := fun j v hj => let ⟨p, h1, h2, h3⟩ := h j v hj; ⟨p, h1, hs _ h2, h3⟩
theorem Lies.chg {D : Nat → Prop} (h : Lies w S a l) (c : Chg D w w') (hd : ∀ k, k < w.heap.size → S k → ¬ D k) : Lies w' S a l := fun j v hj => by
  obtain ⟨p, h1, h2, h3⟩ := h j v hj
  refine ⟨p, h1, h2, ?_⟩
  have hb := World.block_lt_of_cell? _ _ h3
  rw [block_add] at hb
  rw [World.cell?_of_block (w := w) (by rw [block_add]; exact c.block _ hb (hd _ hb h2))]
  exact h3
theorem Lies.take (h : Lies w S a l) (n : Nat) : Lies w S a (l.take n) := fun j v hj => h j v (by rw [List.getElem?_take] at hj; split at hj; exact hj; cases hj)
theorem add_add' (a : Addr) (i j : Nat) : (a.add i).add j = a.add (i + j) := Go.Deep.add_add a i j
theorem Lies.drop (h : Lies w S a l) (n : Nat) : Lies w S (a.map (·.add n)) (l.drop n) := fun j v hj => by
  rw [List.getElem?_drop] at hj
  obtain ⟨p, rfl, h2, h3⟩ := h _ v hj
  exact ⟨p.add n, rfl, by rw [block_add]; exact h2, by rw [add_add']; exact h3⟩
theorem Lies.slA (h : Lies w S a l) (n m : Nat) : Lies w S (Sh.slA a n m 1) (if m = n then [] else l.drop n) := by
  unfold Sh.slA
  split
  · exact Lies.nil
  · rw [Nat.mul_one]; exact h.drop n
theorem Blk.lies {b : Nat} {t : TypeId} (h : Blk w b t l) (hS : S b) : Lies w S (some ⟨b, 0, none⟩) l := fun j v hj => ⟨_, rfl, hS, by rw [Addr.add_lit, Nat.zero_add, h.cell]; exact hj⟩
end
end Go.Sh
/-! ## ShL2 -/
namespace Go.Sh
open Go.ChangeShapes
variable {P : Program}

/-- t is a type of slices; its elements: type e, sz cells, by bytes. -/
structure SlT (P : Program) (t e sz by_ : Nat) : Prop where
  ht : P.underlying t = some (.slice e)
  info : (P.info? e).map (fun i => (i.zero.map (·.cells.size), i.size, i.bytes)) = some (some sz, sz, by_)
theorem SlT.get {t e sz by_ : Nat} (h : SlT P t e sz by_) : ∃ i z, P.info? e = some i ∧ i.zero = some z ∧ i.size = sz ∧ i.bytes = by_ ∧ z.cells.size = sz := by
  obtain ⟨i, hi, h⟩ := Option.map_eq_some_iff.1 h.info
  simp only [Prod.mk.injEq] at h
  obtain ⟨hz, hs, hb⟩ := h
  obtain ⟨z, hz, hc⟩ := Option.map_eq_some_iff.1 hz
  exact ⟨i, z, hi, hz, hs, hb, hc⟩

/-- A slice of one's own: a, n, c: its cells l (n elements of sz cells), alone in its block. -/
structure Own (w : World) (e sz : Nat) (a : Option Addr) (n c : Nat) (l : List Value) : Prop where
  len : l.length = n * sz
  row : (a = .none ∧ n = 0 ∧ c = 0) ∨ ∃ b rest, a = some ⟨b, 0, .none⟩ ∧ Blk w b e (l ++ rest) ∧ c * sz ≤ (l ++ rest).length ∧ n ≤ c
/-- The block of a slice. -/
def At (a : Option Addr) : Nat → Prop := fun k => ∃ p, a = some p ∧ p.block = k
section
variable {w w' : World} {e sz n c : Nat} {a : Option Addr} {l : List Value}
theorem Own.nil : Own w e sz .none 0 0 [] := ⟨by simp, .inl ⟨rfl, rfl, rfl⟩⟩
theorem Own.le (h : Own w e sz a n c l) : n ≤ c := by rcases h.row with ⟨_, h1, h2⟩ | ⟨_, _, _, _, _, h⟩ <;> omega
theorem Own.chg {D : Nat → Prop} (h : Own w e sz a n c l) (k : Chg D w w') (hd : ∀ x, At a x → ¬ D x) : Own w' e sz a n c l :=
  ⟨h.len, h.row.imp id fun ⟨b, rest, h1, h2, h3, h4⟩ => ⟨b, rest, h1, h2.chg k (hd b ⟨_, h1, rfl⟩), h3, h4⟩⟩
theorem Own.tight (h : Own w e sz a n c l) : Own w e sz a n n l :=
  ⟨h.len, h.row.imp (fun ⟨h1, h2, _⟩ => ⟨h1, h2, h2⟩) fun ⟨b, rest, h1, h2, h3, h4⟩ => ⟨b, rest, h1, h2, by rw [List.length_append, h.len]; omega, Nat.le_refl _⟩⟩
theorem Own.lies (h : Own w e sz a n c l) : Lies w (At a) a l := by
  rcases h.row with ⟨h1, h2, h3⟩ | ⟨b, rest, h1, h2, h3, h4⟩
  · have : l = [] := List.eq_nil_of_length_eq_zero (by rw [h.len, h2, Nat.zero_mul])
    subst this; exact Lies.nil
  · subst h1
    have := (h2.lies (S := At (some ⟨b, 0, .none⟩)) ⟨_, rfl, rfl⟩).take l.length
    rwa [List.take_left] at this
theorem Own.lt (h : Own w e sz a n c l) {k : Nat} (hk : At a k) : k < w.heap.size := by
  obtain ⟨p, rfl, rfl⟩ := hk
  rcases h.row with ⟨h1, _⟩ | ⟨b, rest, h1, h2, h3, h4⟩
  · cases h1
  · cases h1; exact h2.lt
end

/-- Where the appended cells come from. -/
theorem src_two {w : World} {tx e' : Nat} (hk : P.underlying tx = some (.slice e')) {vs : List Value} {n c : Nat} {sz t : Nat} (hl : vs.length = n * sz) (h1 : ∀ u ∈ vs, u.oneCell' = true) : Src P sz tx (.slice (some ⟨w.heap.size, 0, .none⟩) n c) n vs (w.alloc (.cells vs.toArray t)) :=
  Src.ofSlice _ hk _ n c vs hl (fun j u hj => by
    rw [Addr.add_lit, Nat.zero_add]
    rw [(blk_alloc (w := w) (t := t) (cs := vs.toArray)).cell j]; exact hj) h1
theorem src_lies {w : World} {S : Nat → Prop} {tx e' sz : Nat} (hk : P.underlying tx = some (.slice e')) {a : Option Addr} {n c : Nat} {vs : List Value} (h : Lies w S a vs) (hl : vs.length = n * sz) (hz : n = 0 ∨ 0 < sz) (h1 : ∀ u ∈ vs, u.oneCell' = true) : Src P sz tx (.slice a n c) n vs w := by
  cases a with
  | some p => exact Src.ofSlice _ hk p n c vs hl (fun j u hj => by obtain ⟨q, hq, _, hc⟩ := h j u hj; cases hq; exact hc) h1
  | none =>
    have : vs = [] := by
      cases vs with
      | nil => rfl
      | cons v r => obtain ⟨_, hq, _⟩ := h 0 v rfl; cases hq
    subst this
    have hn : n = 0 := by
      rcases hz with h | h
      · exact h
      · have : n * sz = 0 := by simpa using hl.symm
        rcases Nat.mul_eq_zero.1 this with h' | h' <;> omega
    subst hn
    exact Src.ofNil _ hk c

theorem append_own' {t tx ty e sz by_ : Nat} (T : SlT P t e sz by_) {w : World} {a : Option Addr} {n c : Nat} {l : List Value} (h : Own w e sz a n c l) {x : Value} {m : Nat} {news : List Value} (hs : Src P sz tx x m news w)
    (h63 : n + m ≤ maxLen) (hb : (n + m) * by_ ≤ 140737488355328) {K : Value → World → Prop}
    (hK : ∀ a' c' w', Own w' e sz a' (n + m) c' (l ++ news) → Chg (At a) w w' → (a' = a ∨ ∃ b, a' = some ⟨b, 0, .none⟩ ∧ w.heap.size ≤ b ∧ Chg None w w') → K (.slice a' (n + m) c') w') :
    sem P (Builtin.append_ #[t, tx] ty #[.slice a n c, x]) w K := by
  obtain ⟨i, z, hi, hz, rfl, rfl, hzs⟩ := T.get
  have hlen : (l ++ news).length = (n + m) * i.size := by rw [List.length_append, h.len, hs.newsLen, Nat.add_mul]
  have room : n + m ≤ c → sem P (Builtin.append_ #[t, tx] ty #[.slice a n c, x]) w K := by
    intro hr
    rcases h.row with ⟨rfl, h2, h3⟩ | ⟨b, rest, rfl, h2, h3, h4⟩
    · obtain rfl : m = 0 := by omega
      subst h2; subst h3
      have hn : news = [] := List.eq_nil_of_length_eq_zero (by rw [hs.newsLen, Nat.zero_mul])
      subst hn
      unfold sem
      rw [run_append_nothing w t tx ty e i T.ht hi .none 0 0 (Nat.le_refl _) x hs]
      exact hK .none 0 w (by simpa using h) (Chg.refl _ _) (.inl rfl)
    · have hlr : l.length + news.length ≤ (l ++ rest).length := by
        refine Nat.le_trans ?_ h3
        rw [h.len, hs.newsLen, ← Nat.add_mul]; exact Nat.mul_le_mul_right _ hr
      have hcell : ∀ j, j < news.length → 0 + n * i.size + j < (l ++ rest).length := fun j hj => by rw [Nat.zero_add, ← h.len]; omega
      have hrun := run_append_room_src (P := P) w t tx ty e i T.ht hi b 0 n c x m news hs hr
        (fun j hj => by rw [h2.cell, List.getElem?_eq_getElem (hcell j hj)]; rfl) (fun j hj => h2.thaw (hcell j hj))
      unfold sem
      rw [hrun]
      obtain ⟨g1, g2⟩ := h2.setCells news (0 + n * i.size) (by rw [Nat.zero_add, ← h.len]; omega)
      have e1 : (l ++ rest).take (0 + n * i.size) = l := by rw [Nat.zero_add, ← h.len, List.take_left]
      rw [e1] at g1
      refine hK _ c _ ⟨hlen, .inr ⟨b, (l ++ rest).drop (0 + n * i.size + news.length), rfl, g1, ?_, hr⟩⟩ (g2.mono fun k _ hk => ⟨_, rfl, hk.symm⟩) (.inl rfl)
      rw [Nat.zero_add, ← h.len]
      simp only [List.length_append, List.length_drop] at hlr h3 ⊢
      omega
  by_cases hr : n + m ≤ c
  · exact room hr
  · have hold : (Builtin.firstCells i.size n (.slice a n c)).run P w.drew = .ok l.toArray w.drew := by
      rcases h.row with ⟨rfl, h2, h3⟩ | ⟨b, rest, rfl, h2, h3, h4⟩
      · have : l = [] := List.eq_nil_of_length_eq_zero (by rw [h.len, h2, Nat.zero_mul])
        subst this; exact run_firstCells_none _ _ _ _ _
      · refine run_firstCells_some w.drew i.size n ⟨b, 0, .none⟩ n c l h.len fun j u hj => ?_
        rw [Addr.add_lit, Nat.zero_add]
        show w.cell? _ = _
        rw [h2.cell, List.getElem?_append_left (List.getElem?_eq_some_iff.1 hj).1]; exact hj
    have hmx : n + m ≤ 9223372036854775807 := by simpa [maxLen] using h63
    have hrun := run_append_grow_src (P := P) w t tx ty e i z T.ht hi hz a n c l hold x m news hs (by omega) (by omega) (growslice_fits (by omega) hb)
    unfold sem
    rw [hrun]
    have hge := grownCap_ge w (n + m) c e
    have kn : Chg None w (w.drew.alloc (.cells ((l ++ news).toArray ++ Builtin.zeroCells z.cells (grownCap w (n + m) c e - (n + m))) e)) := Chg.trans (Chg.drew0 (D := None) w) (chg_alloc (D := None) _ _) (fun _ _ h => h.elim) (fun _ _ h => h.elim)
    refine hK _ _ _ ⟨hlen, .inr ⟨w.heap.size, (Builtin.zeroCells z.cells (grownCap w (n + m) c e - (n + m))).toList, rfl, ?_, ?_, hge⟩⟩ (kn.mono fun _ _ h => h.elim) (.inr ⟨_, rfl, Nat.le_refl _, kn⟩)
    · have := blk_alloc (w := w.drew) (t := e) (cs := (l ++ news).toArray ++ Builtin.zeroCells z.cells (grownCap w (n + m) c e - (n + m)))
      simpa using this
    · rw [List.length_append, hlen, Array.length_toList, size_zeroCells, hzs, ← Nat.add_mul]
      exact Nat.mul_le_mul_right _ (by omega)
theorem append_own {t tx ty e sz by_ : Nat} (T : SlT P t e sz by_) {w : World} {a : Option Addr} {n c : Nat} {l : List Value} (h : Own w e sz a n c l) {x : Value} {m : Nat} {news : List Value} (hs : Src P sz tx x m news w)
    (h63 : n + m ≤ maxLen) (hb : (n + m) * by_ ≤ 140737488355328) {K : Value → World → Prop}
    (hK : ∀ a' c' w', Own w' e sz a' (n + m) c' (l ++ news) → Chg (At a) w w' → (a' = a ∨ ∃ b, a' = some ⟨b, 0, .none⟩ ∧ w.heap.size ≤ b) → K (.slice a' (n + m) c') w') :
    sem P (Builtin.append_ #[t, tx] ty #[.slice a n c, x]) w K :=
  append_own' T h hs h63 hb fun a' c' w' o k f => hK a' c' w' o k (f.imp id fun ⟨b, h1, h2, _⟩ => ⟨b, h1, h2⟩)

/-! ### bytes -/
def bv (b : UInt8) : Value := .int .u8 (b.toNat : Int)
def bvs (l : List UInt8) : List Value := l.map bv
theorem bvs_one {l : List UInt8} : ∀ u ∈ bvs l, u.oneCell' = true := fun u hu => by obtain ⟨b, _, rfl⟩ := List.mem_map.1 hu; rfl
theorem bvs_get {l : List UInt8} {j : Nat} (h : j < l.length) : (bvs l)[j]? = some (bv l[j]) := by simp [bvs, h]
theorem bvs_app (l r : List UInt8) : bvs (l ++ r) = bvs l ++ bvs r := List.map_append
@[simp] theorem bvs_len (l : List UInt8) : (bvs l).length = l.length := List.length_map _
/-- A byte, read. -/
theorem read_byte {w : World} {S : Nat → Prop} {a : Option Addr} {l : List UInt8} (h : Lies w S a (bvs l)) {j : Nat} (hj : j < l.length) {K : Int → Prop} (hK : K (l[j].toNat : Int)) : opnA a fun ad => opnI .u8 (w.cell? (ad.add (j * 1))) K := by
  obtain ⟨p, rfl, _, hc⟩ := h j _ (bvs_get hj)
  simp only [opnA, Nat.mul_one, hc, opnI, bv]
  exact ⟨trivial, hK⟩
/-- string(b) -/
theorem to_string {src dst e : Nat} (hs : P.underlying src = some (.slice e)) (he : P.underlying e = some (.int .u8)) (hd : P.underlying dst = some .string) {w : World} {S : Nat → Prop} {a : Option Addr} {c : Nat} {l : List UInt8} (h : Lies w S a (bvs l)) {K : Value → Prop} (hK : K (.string ⟨l.toArray⟩)) : semR P (convert src dst (.slice a l.length c)) w K := by
  unfold semR
  cases a with
  | some p =>
    rw [run_convert_bytes_back w src dst e p c l hs he hd (fun j hj => by obtain ⟨q, hq, _, hc⟩ := h j _ (bvs_get hj); cases hq; exact hc)]
    exact ⟨rfl, hK⟩
  | none =>
    have : l = [] := by
      cases l with
      | nil => rfl
      | cons v r => obtain ⟨_, hq, _⟩ := h 0 (bv v) rfl; cases hq
    subst this
    rw [run_convert_bytes_string w src dst e .none _ c hs he hd]
    exact ⟨rfl, hK⟩
/-- []byte(s) -/
theorem of_string {src dst e : Nat} (hs : P.underlying src = some .string) (hd : P.underlying dst = some (.slice e)) (he : P.underlying e = some (.int .u8)) {w : World} {l : List UInt8} {K : Value → World → Prop}
    (hK : ∀ b c w', Own w' e 1 (some ⟨b, 0, .none⟩) l.length c (bvs l) → Chg None w w' → w.heap.size ≤ b → K (.slice (some ⟨b, 0, .none⟩) l.length c) w') : sem P (convert src dst (.string ⟨l.toArray⟩)) w K := by
  unfold sem
  rw [run_bytes_of_string w src dst e ⟨l.toArray⟩ hs hd he]
  have hsz : (⟨l.toArray⟩ : ByteArray).size = l.length := by simp [ByteArray.size]
  have hge := grownCap_ge w l.length 0 e
  simp only [hsz]
  refine hK _ _ _ ⟨by simp, .inr ⟨w.heap.size, List.replicate (grownCap w l.length 0 e - l.length) (.int .u8 0), rfl, ?_, by simp; omega, hge⟩⟩ (Chg.trans (Chg.drew0 (D := None) w) (chg_alloc (D := None) _ _) (fun _ _ h => h.elim) (fun _ _ h => h.elim)) (Nat.le_refl _)
  refine ⟨((bytesRow ⟨l.toArray⟩ (grownCap w l.length 0 e)).size, (bytesRow ⟨l.toArray⟩ (grownCap w l.length 0 e)).size + 1), ?_, ?_⟩
  · show (w.heap.push _)[w.heap.size]? = _
    simp only [Array.getElem?_push_size]
    congr 2
    apply Array.ext'
    simp [bytesRow, bvs, bv, hsz]
  · intro i hi
    have : (bytesRow ⟨l.toArray⟩ (grownCap w l.length 0 e)).size = (bvs l ++ List.replicate (grownCap w l.length 0 e - l.length) (Value.int .u8 0)).length := by simp [bytesRow, hsz]
    rw [this]; omega
end Go.Sh
/-! ## ShL3 -/
namespace Go.Sh
open Go.ChangeShapes
variable {P : Program}

/-- What a [][]byte tells. -/
def Recs (w : World) (S : Nat → Prop) (a : Option Addr) (rs : List (List UInt8)) : Prop :=
  ∀ (j : Nat) (r : List UInt8), rs[j]? = some r → ∃ p q c, a = some p ∧ S p.block ∧ w.cell? (p.add j) = some (.slice q r.length c) ∧ r.length ≤ c ∧ Lies w S q (bvs r)
section
variable {w w' : World} {S : Nat → Prop} {a : Option Addr} {rs : List (List UInt8)}
theorem Recs.chg {D : Nat → Prop} (h : Recs w S a rs) (k : Chg D w w') (hd : ∀ x, x < w.heap.size → S x → ¬ D x) : Recs w' S a rs := fun j r hj => by
  obtain ⟨p, q, c, h1, h2, h3, h4, h5⟩ := h j r hj
  refine ⟨p, q, c, h1, h2, ?_, h4, h5.chg k hd⟩
  have hb := World.block_lt_of_cell? _ _ h3
  rw [block_add] at hb
  rw [World.cell?_of_block (w := w) (by rw [block_add]; exact k.block _ hb (hd _ hb h2))]
  exact h3
theorem Recs.mono {S' : Nat → Prop} (h : Recs w S a rs) (hs : ∀ k, S k → S' k) : Recs w S' a rs := fun j r hj => by
  obtain ⟨p, q, c, h1, h2, h3, h4, h5⟩ := h j r hj
  exact ⟨p, q, c, h1, hs _ h2, h3, h4, h5.mono hs⟩
theorem Recs.chg0 (h : Recs w S a rs) (k : Chg None w w') : Recs w' S a rs := h.chg k (fun _ _ _ h => h)
theorem Lies.chg0 {l : List Value} (h : Lies w S a l) (k : Chg None w w') : Lies w' S a l := h.chg k (fun _ _ _ h => h)
theorem Own.chg0 {e sz n c : Nat} {l : List Value} (h : Own w e sz a n c l) (k : Chg None w w') : Own w' e sz a n c l := h.chg k (fun _ _ h => h)
/-- A record, read. -/
theorem read_rec (h : Recs w S a rs) {j : Nat} {r : List UInt8} (hj : rs[j]? = some r) {K : Option Addr → Nat → Nat → Prop} (hK : ∀ q c, r.length ≤ c → Lies w S q (bvs r) → K q r.length c) : opnA a fun ad => opnL (w.cell? (ad.add (j * 1))) K := by
  obtain ⟨p, q, c, rfl, _, h3, h4, h5⟩ := h j r hj
  simp only [opnA, Nat.mul_one, h3, opnL]
  exact hK q c h4 h5
theorem read_rec0 {w0 : World} (h : Recs w0 S a rs) (k : Chg None w0 w) {j : Nat} {r : List UInt8} (hj : rs[j]? = some r) {K : Option Addr → Nat → Nat → Prop} (hK : ∀ q c, r.length ≤ c → Lies w0 S q (bvs r) → K q r.length c) : opnA a fun ad => opnL (w.cell? (ad.add (j * 1))) K := by
  obtain ⟨p, q, c, rfl, h2, h3, h4, h5⟩ := h j r hj
  have hb := World.block_lt_of_cell? _ _ h3
  rw [block_add] at hb
  have h6 : w.cell? (p.add j) = some (.slice q r.length c) := by
    rw [World.cell?_of_block (w := w0) (by rw [block_add]; exact k.block _ hb (fun h => h))]; exact h3
  simp only [opnA, Nat.mul_one, h6, opnL]
  exact hK q c h4 h5
end
theorem src_pair {w : World} {tx e' t : Nat} (hk : P.underlying tx = some (.slice e')) (x y : UInt8) : Src P 1 tx (.slice (some ⟨w.heap.size, 0, .none⟩) 2 2) 2 (bvs [x, y]) (w.alloc (.cells #[bv x, bv y] t)) := src_two (vs := bvs [x, y]) hk rfl bvs_one
theorem src_bytes {w : World} {S : Nat → Prop} {tx e' : Nat} (hk : P.underlying tx = some (.slice e')) {a : Option Addr} {c : Nat} {l : List UInt8} (h : Lies w S a (bvs l)) : Src P 1 tx (.slice a l.length c) l.length (bvs l) w := src_lies hk h (by simp) (.inr (by decide)) bvs_one
theorem Chg.none_trans {a b c : World} (h : Chg None a b) (k : Chg None b c) : Chg None a c := Chg.trans h k (fun _ _ h => h) (fun _ _ h => h)
/-- A change of own, new blocks alone. -/
theorem Chg.fresh {D : Nat → Prop} {a b c : World} (h : Chg None a b) (k : Chg D b c) (hd : ∀ x, D x → a.heap.size ≤ x) : Chg None a c := Chg.trans h k (fun _ _ h => h) (fun x hx h => absurd (hd x h) (by omega))
theorem wrap_id {n : Int} (h0 : -9223372036854775808 ≤ n) (h1 : n < 9223372036854775808) : IntKind.wrap .i64 n = n := by rw [IntKind.wrap_i64]; omega
theorem wrap_nat {n : Nat} (h1 : n < 9223372036854775807) : IntKind.wrap .i64 (((n : Nat) : Int) + 1) = ((n + 1 : Nat) : Int) := by rw [IntKind.wrap_i64]; omega
theorem u8_eq (n : Nat) : bv (UInt8.ofNat n) = .int .u8 (IntKind.wrap .u8 (n : Int)) := by
  simp only [bv, IntKind.wrap_u8]
  congr 1
end Go.Sh
/-! ## ShL4 -/
namespace Go.Sh
open Go.ChangeShapes
variable {P : Program}

theorem i64_or (a b : Nat) (ha : a < 9223372036854775808) (hb : b < 9223372036854775808) : bits .or .i64 (a : Int) (b : Int) = ((a ||| b : Nat) : Int) := by
  have hx : a ||| b < 2 ^ 63 := Nat.or_lt_two_pow (by omega) (by omega)
  have e : ∀ n : Nat, n < 9223372036854775808 → (BitVec.ofInt 64 (n : Int)).toNat = n := fun n hn => by
    rw [BitVec.ofInt_natCast, BitVec.toNat_ofNat]; exact Nat.mod_eq_of_lt (by omega)
  show IntKind.i64.wrap ((BitVec.ofInt 64 (a : Int) ||| BitVec.ofInt 64 (b : Int)).toNat : Int) = _
  rw [BitVec.toNat_or, e a ha, e b hb, IntKind.wrap_i64]
  omega
theorem or_add (a b : Nat) (hb : b < 256) : a * 256 ||| b = a * 256 + b := by
  have := Nat.two_pow_add_eq_or_of_lt (i := 8) (show b < 2 ^ 8 from hb) a
  rw [show 2 ^ 8 * a = a * 256 from by omega] at this
  exact this.symm
theorem u8_lt (b : UInt8) : b.toNat < 256 := b.toNat_lt
/-- two bytes, the higher first -/
theorem two_bytes (x y : UInt8) : bits .or .i64 (shlI .i64 (IntKind.wrap .i64 (x.toNat : Int)) 8) (IntKind.wrap .i64 (y.toNat : Int)) = ((x.toNat * 256 + y.toNat : Nat) : Int) := by
  have h1 := u8_lt x
  have h2 := u8_lt y
  have e1 : shlI .i64 (IntKind.wrap .i64 (x.toNat : Int)) 8 = ((x.toNat * 256 : Nat) : Int) := by
    rw [wrap_id (by omega) (by omega)]
    have : shlI .i64 (x.toNat : Int) 8 = IntKind.wrap .i64 ((x.toNat : Int) * 256) := rfl
    rw [this, wrap_id (by omega) (by omega)]; omega
  rw [e1, wrap_id (n := (y.toNat : Int)) (by omega) (by omega), i64_or _ _ (by omega) (by omega), or_add _ _ h2]

theorem make_own {t e by_ : Nat} {z : Value} (ht : P.underlying t = some (.slice e)) (info : (P.info? e).map (fun i => (i.zero, i.size, i.bytes)) = some (some z, 1, by_)) (hz : z.cells = #[z]) {w : World} {l c : Nat} (hlc : l ≤ c) (hb : by_ * c ≤ 281474976710656) (h63 : c ≤ 9223372036854775807) {K : Value → World → Prop}
    (hK : ∀ b w', Own w' e 1 (some ⟨b, 0, .none⟩) l c (List.replicate l z) → Chg None w w' → w.heap.size ≤ b → K (.slice (some ⟨b, 0, .none⟩) l c) w') : sem P (Instr.makeSlice t (.int .i64 (l : Int)) (.int .i64 (c : Int))) w K := by
  obtain ⟨i, hi, h⟩ := Option.map_eq_some_iff.1 info
  simp only [Prod.mk.injEq] at h
  obtain ⟨hzz, hs, rfl⟩ := h
  have hb' : (i.bytes : Int) * (c : Int) ≤ 281474976710656 := by
    have h : ((i.bytes * c : Nat) : Int) ≤ 281474976710656 := by omega
    rwa [Int.natCast_mul] at h
  unfold sem
  rw [run_make (P := P) w t e i z ht hi hzz .i64 .i64 l c (by omega) (by omega) hb' (by omega)]
  simp only [Int.toNat_natCast, hs, Nat.mul_one, hz]
  refine hK _ _ ⟨by simp, .inr ⟨w.heap.size, List.replicate (c - l) z, rfl, ?_, by simp; omega, hlc⟩⟩ (chg_alloc w _) (Nat.le_refl _)
  have := blk_alloc (w := w) (t := e) (cs := madeCells #[z] c)
  have e1 : (madeCells #[z] c).toList = List.replicate l z ++ List.replicate (c - l) z := by
    rw [List.replicate_append_replicate, show l + (c - l) = c by omega]
    apply List.ext_getElem?
    intro j
    by_cases hj : j < c
    · simp [madeCells, hj, Nat.mod_one]
    · simp [madeCells, hj]
  rw [e1] at this; exact this

/-- A store into an own slice. -/
theorem store_own {w : World} {e n c : Nat} {a : Option Addr} {l : List Value} (h : Own w e 1 a n c l) {j : Nat} (hj : j < n) {v : Value} (hv : v.oneCell' = true) {K : World → Prop} (hK : ∀ w', Own w' e 1 a n c (l.set j v) → Chg (At a) w w' → K w') : opnA a fun ad => stC (ad.add (j * 1)) v w K := by
  have hl := h.len
  rcases h.row with ⟨rfl, h2, h3⟩ | ⟨b, rest, rfl, h2, h3, h4⟩
  · omega
  · simp only [opnA, Nat.mul_one, Addr.add_lit, Nat.zero_add]
    refine h2.store (by rw [List.length_append]; omega) hv fun b1 k1 => hK _ ⟨by simp [hl], .inr ⟨b, rest, rfl, ?_, by simpa using h3, h4⟩⟩ (k1.mono fun k _ hk => ⟨_, rfl, hk.symm⟩)
    rw [List.set_append_left _ _ (by omega)] at b1; exact b1

/-- []byte{..} turned into a []byte: the run-time's mark behind its last cell. -/
theorem conv_same {t e : Nat} (hu : P.underlying t = some (.slice e)) (he : P.underlying e = some (.int .u8)) {w : World} {l : List UInt8} {cs : Array Value} (hcs : cs = (bvs l).toArray) {n : Nat} (hn : n = l.length) {K : Value → World → Prop}
    (hK : ∀ b c w', Own w' e 1 (some ⟨b, 0, .none⟩) l.length c (bvs l) → Chg None w w' → w.heap.size ≤ b → K (.slice (some ⟨b, 0, .none⟩) l.length c) w') : sem P (convert t t (.slice (some ⟨w.heap.size, 0, .none⟩) n n)) (w.alloc (.cells cs e)) K := by
  subst hcs; subst hn
  have hsh : (w.alloc (.cells (bvs l).toArray e)).shape? w.heap.size = some (e, l.length) := by
    have : (w.alloc (.cells (bvs l).toArray e)).heap[w.heap.size]? = some (.cells (bvs l).toArray e) := by
      show (w.heap.push _)[w.heap.size]? = _
      simp
    unfold World.shape?
    rw [this]; simp
  have hm : ∀ (a : Array Obj) (x : Obj) (f : Obj → Obj), (a.push x).modify a.size f = a.push (f x) := by
    intro a x f
    apply Array.ext
    · simp
    · intro i h1 h2
      simp only [Array.getElem_modify, Array.getElem_push]
      by_cases h : a.size = i
      · subst h; simp
      · have hi : i < a.size := by simp at h1; omega
        simp [h, hi]
  have hfr : (w.alloc (.cells (bvs l).toArray e)).freeze ⟨w.heap.size, l.length, none⟩ 1 = w.alloc (.cells (bvs l).toArray e (l.length, l.length + 1)) := by
    unfold World.freeze
    rw [if_neg (by decide)]
    show ({ w.alloc (.cells (bvs l).toArray e) with heap := (w.heap.push (.cells (bvs l).toArray e)).modify w.heap.size _ } : World) = _
    rw [hm]; rfl
  unfold sem
  have hrun : (convert t t (.slice (some ⟨w.heap.size, 0, .none⟩) l.length l.length)).run P (w.alloc (.cells (bvs l).toArray e)) = .ok (.slice (some ⟨w.heap.size, 0, .none⟩) l.length l.length) (w.alloc (.cells (bvs l).toArray e (l.length, l.length + 1))) := by
    simp [convert, run_underlying hu, run_underlying he, markStringish, hsh, hfr]
  rw [hrun]
  refine hK _ _ _ ⟨by simp, .inr ⟨w.heap.size, [], rfl, ⟨(l.length, l.length + 1), ?_, fun i hi => by simp at hi ⊢; omega⟩, by simp, Nat.le_refl _⟩⟩ (chg_alloc w _) (Nat.le_refl _)
  show (w.heap.push _)[w.heap.size]? = _
  simp

/-! ### lists of own byte slices -/
abbrev Part := Option Addr × Nat × List UInt8
def pv (x : Part) : Value := .slice x.1 x.2.2.length x.2.1
structure Parts (w : World) (B e2 e1 : Nat) (a : Option Addr) (n c : Nat) (ps : List Part) : Prop where
  own : Own w e2 1 a n c (ps.map pv)
  each : ∀ x ∈ ps, Own w e1 1 x.1 x.2.2.length x.2.1 (bvs x.2.2) ∧ ∀ k, At x.1 k → B ≤ k ∧ ¬ At a k
  apart : ps.Pairwise fun x y => ∀ k, At x.1 k → ¬ At y.1 k
  base : ∀ k, At a k → B ≤ k
theorem Parts.len {w : World} {B e2 e1 n c : Nat} {a : Option Addr} {ps : List Part} (h : Parts w B e2 e1 a n c ps) : ps.length = n := by have := h.own.len; simpa using this
theorem Parts.nil {w : World} {B e2 e1 : Nat} : Parts w B e2 e1 .none 0 0 [] := ⟨Own.nil, by simp, .nil, by rintro k ⟨p, hp, _⟩; cases hp⟩
theorem Parts.chg {w w' : World} {B e2 e1 n c : Nat} {a : Option Addr} {ps : List Part} {D : Nat → Prop} (h : Parts w B e2 e1 a n c ps) (k : Chg D w w') (h1 : ∀ x, At a x → ¬ D x) (h2 : ∀ x ∈ ps, ∀ k, At x.1 k → ¬ D k) : Parts w' B e2 e1 a n c ps :=
  ⟨h.own.chg k h1, fun x hx => ⟨(h.each x hx).1.chg k (h2 x hx), (h.each x hx).2⟩, h.apart, h.base⟩
theorem Parts.chg0 {w w' : World} {B e2 e1 n c : Nat} {a : Option Addr} {ps : List Part} (h : Parts w B e2 e1 a n c ps) (k : Chg None w w') : Parts w' B e2 e1 a n c ps := h.chg k (fun _ _ h => h) (fun _ _ _ _ h => h)
theorem Parts.recs {w : World} {B e2 e1 n c : Nat} {a : Option Addr} {ps : List Part} (h : Parts w B e2 e1 a n c ps) : Recs w (fun k => B ≤ k) a (ps.map (·.2.2)) := by
  intro j r hj
  obtain ⟨x, hx, rfl⟩ := Option.map_eq_some_iff.1 (by rw [List.getElem?_map] at hj; exact hj)
  have hv : (ps.map pv)[j]? = some (pv x) := by rw [List.getElem?_map, hx]; rfl
  obtain ⟨p, h1, h2, h3⟩ := h.own.lies j _ hv
  obtain ⟨ho, hk⟩ := h.each x (List.mem_of_getElem? hx)
  exact ⟨p, x.1, x.2.1, h1, h.base _ h2, h3, ho.le, ho.lies.mono fun k hk' => (hk k hk').1⟩
/-- One list more. -/
theorem parts_push {t e2 e1 : Nat} (T : SlT P t e2 1 24) {w : World} {B n c : Nat} {a : Option Addr} {ps : List Part} (h : Parts w B e2 e1 a n c ps) {q : Option Addr} {cq : Nat} {r : List UInt8} (hx : Own w e1 1 q r.length cq (bvs r))
    (hq : ∀ k, At q k → B ≤ k ∧ ¬ At a k ∧ ∀ x ∈ ps, ¬ At x.1 k) (hB : B ≤ w.heap.size) (hn : (n + 1) * 24 ≤ 140737488355328) {K : Option Addr → Nat → Nat → World → Prop}
    (hK : ∀ a' c' w', Parts w' B e2 e1 a' (n + 1) c' (ps ++ [(q, cq, r)]) → Chg (At a) w w' → K a' (n + 1) c' w') :
    alC #[.slice q r.length cq] e2 w fun p w2 => sem P (Builtin.append_ #[t, t] t #[.slice a n c, .slice (some p) 1 1]) w2 fun v w3 => opnL (some v) fun x xn xc => K x xn xc w3 := by
  unfold alC
  have ka : Chg None w (w.alloc (.cells #[.slice q r.length cq] e2)) := chg_alloc w _
  have hs : Src P 1 t (.slice (some ⟨w.heap.size, 0, .none⟩) 1 1) 1 [pv (q, cq, r)] (w.alloc (.cells #[.slice q r.length cq] e2)) :=
    src_two (vs := [pv (q, cq, r)]) T.ht rfl (by intro u hu; simp at hu; subst hu; rfl)
  refine append_own T (w := w.alloc (.cells #[.slice q r.length cq] e2)) (h.own.chg0 ka) hs (by simp only [maxLen]; omega) hn fun a' c' w' o k f => ?_
  refine hK a' c' w' ?_ (Chg.trans ka k (fun _ _ h => h.elim) (fun _ _ h => h))
  have hsz := ka.size
  have hnew : ∀ k, At a' k → At a k ∨ w.heap.size ≤ k := by
    rcases f with rfl | ⟨b, rfl, hb⟩
    · exact fun k hk => .inl hk
    · rintro k ⟨p, hp, rfl⟩; cases hp; exact .inr (Nat.le_trans hsz hb)
  refine ⟨by rw [List.map_append]; exact o, fun x hx' => ?_, List.pairwise_append.2 ⟨h.apart, by simp, fun x hx' y hy k hk hk' => ?_⟩, fun k hk => ?_⟩
  · rcases List.mem_append.1 hx' with hx' | hx'
    · obtain ⟨g1, g2⟩ := h.each x hx'
      refine ⟨(g1.chg0 ka).chg k fun k hk => (g2 k hk).2, fun k hk => ⟨(g2 k hk).1, fun hk' => ?_⟩⟩
      rcases hnew k hk' with h1 | h1
      · exact (g2 k hk).2 h1
      · have := g1.lt hk; omega
    · simp only [List.mem_singleton] at hx'; subst hx'
      refine ⟨(hx.chg0 ka).chg k fun k hk => (hq k hk).2.1, fun k hk => ⟨(hq k hk).1, fun hk' => ?_⟩⟩
      rcases hnew k hk' with h1 | h1
      · exact (hq k hk).2.1 h1
      · have := hx.lt hk; omega
  · simp only [List.mem_singleton] at hy; subst hy
    exact (hq k hk').2.2 x hx' hk
  · rcases hnew k hk with h1 | h1
    · exact h.base k h1
    · omega
end Go.Sh
/-! ## ShL6 -/
namespace Go.Sh
open Go.ChangeShapes
variable {P : Program}

section
variable {X Y : Prop}
theorem c_t {b : Bool} (h : b = true) (hx : X) : cond b X Y := by subst h; exact hx
theorem c_f {b : Bool} (h : b = false) (hy : Y) : cond b X Y := by subst h; exact hy
theorem c_lt {a b : Int} (h : a < b) (hx : X) : cond (decide (a < b)) X Y := by rw [decide_eq_true h]; exact hx
theorem c_nlt {a b : Int} (h : b ≤ a) (hy : Y) : cond (decide (a < b)) X Y := by rw [decide_eq_false (by omega)]; exact hy
theorem c_gt {a b : Int} (h : b < a) (hx : X) : cond (decide (a > b)) X Y := by rw [decide_eq_true h]; exact hx
theorem c_ngt {a b : Int} (h : a ≤ b) (hy : Y) : cond (decide (a > b)) X Y := by rw [decide_eq_false (by omega)]; exact hy
theorem c_le {a b : Int} (h : a ≤ b) (hx : X) : cond (decide (a ≤ b)) X Y := by rw [decide_eq_true h]; exact hx
theorem c_nle {a b : Int} (h : b < a) (hy : Y) : cond (decide (a ≤ b)) X Y := by rw [decide_eq_false (by omega)]; exact hy
theorem c_ge {a b : Int} (h : b ≤ a) (hx : X) : cond (decide (a ≥ b)) X Y := by rw [decide_eq_true h]; exact hx
theorem c_nge {a b : Int} (h : a < b) (hy : Y) : cond (decide (a ≥ b)) X Y := by rw [decide_eq_false (by omega)]; exact hy
theorem c_eq {a b : Int} (h : a = b) (hx : X) : cond (a == b) X Y := by subst h; rw [beq_self_eq_true]; exact hx
theorem c_neq {a b : Int} (h : a ≠ b) (hy : Y) : cond (a == b) X Y := by rw [beq_eq_false_iff_ne.2 h]; exact hy
theorem c_ne {a b : Int} (h : a ≠ b) (hx : X) : cond (a != b) X Y := by rw [bne_iff_ne.2 h]; exact hx
theorem c_nne {a b : Int} (h : a = b) (hy : Y) : cond (a != b) X Y := by subst h; rw [bne_self_eq_false]; exact hy
theorem c_str_ne {a b : List UInt8} (h : a = b) (hy : Y) : cond (!((⟨a.toArray⟩ : ByteArray).toList == (⟨b.toArray⟩ : ByteArray).toList)) X Y := by subst h; rw [beq_self_eq_true]; exact hy
theorem c_not_true {b : Bool} (h : b = true) (hy : Y) : cond (!b) X Y := by subst h; exact hy
theorem c_not_false {b : Bool} (h : b = false) (hx : X) : cond (!b) X Y := by subst h; exact hx
end

theorem drw_s {w : World} {K : World → Prop} : drw w K = K w.drew := rfl
theorem opnN_more {k x : Value} {A : Prop} {B : Value → Value → Prop} : opnN (.tuple #[.bool true, k, x]) A B = B k x := rfl
theorem opnN_end {A : Prop} {B : Value → Value → Prop} : opnN (.tuple #[.bool false]) A B = A := rfl
theorem opnL_s {a : Option Addr} {n c : Nat} {K : Option Addr → Nat → Nat → Prop} : opnL (some (.slice a n c)) K = K a n c := rfl
theorem opnI_s {k : IntKind} {n : Int} {K : Int → Prop} (h : K n) : opnI k (some (.int k n)) K := ⟨rfl, h⟩
theorem opnB_s {b : Bool} {K : Bool → Prop} : opnB (some (.bool b)) K = K b := rfl
theorem opnS_s {b : ByteArray} {K : ByteArray → Prop} : opnS (some (.string b)) K = K b := rfl
theorem opnP_s {a : Option Addr} {K : Option Addr → Prop} : opnP (some (.pointer a)) K = K a := rfl
theorem opnT_s {cs : Array Value} {K : Array Value → Prop} : opnT (some (.tuple cs)) K = K cs := rfl
theorem opnG_s {cs : Array Value} {K : Array Value → Prop} : opnG (some (.agg cs)) K = K cs := rfl

theorem set_mid {α : Type} (a b : List α) (x v : α) : (a ++ x :: b).set a.length v = a ++ v :: b := by
  rw [List.set_append_right _ _ (Nat.le_refl _), Nat.sub_self, List.set_cons_zero]

theorem set_mid' {α : Type} {a b : List α} {x v : α} {i : Nat} (h : a.length = i) : (a ++ x :: b).set i v = a ++ v :: b := by subst h; exact set_mid a b x v

theorem wrap_len {α : Type} {done : List α} {x : α} (h : done.length < 9223372036854775807) : IntKind.wrap .i64 (((done.length : Nat) : Int) + 1) = (((done ++ [x]).length : Nat) : Int) := by
  rw [wrap_nat h, List.length_append]; rfl

section
variable {w w' : World} {S : Nat → Prop} {a : Option Addr}
theorem Lies.some {l : List Value} (h : Lies w S a l) {j : Nat} (hj : j < l.length) : ∃ p, a = some p := by
  obtain ⟨p, h1, _⟩ := h j l[j] (List.getElem?_eq_getElem hj)
  exact ⟨p, h1⟩
theorem rd_byte {l : List UInt8} (h : Lies w S a (bvs l)) {i : Int} {x : UInt8} (hx : l[i.toNat]? = .some x) {K : Int → Prop} (hK : K (x.toNat : Int)) : opnA a fun ad => opnI .u8 (w.cell? (ad.add (Int.toNat i * 1))) K := by
  obtain ⟨hj, rfl⟩ := List.getElem?_eq_some_iff.1 hx
  exact read_byte h hj hK
theorem rd_rec {rs : List (List UInt8)} (h : Recs w S a rs) {i : Int} {r : List UInt8} (hx : rs[i.toNat]? = .some r) {K : Option Addr → Nat → Nat → Prop} (hK : ∀ q c, r.length ≤ c → Lies w S q (bvs r) → K q r.length c) : opnA a fun ad => opnL (w.cell? (ad.add (Int.toNat i * 1))) K := read_rec h hx hK
theorem st_own {e n c : Nat} {l : List Value} (h : Own w e 1 a n c l) {i : Int} (hi : i.toNat < n) {v : Value} (hv : v.oneCell' = true) {K : World → Prop} (hK : ∀ w', Own w' e 1 a n c (l.set i.toNat v) → Chg (At a) w w' → K w') : opnA a fun ad => stC (ad.add (Int.toNat i * 1)) v w K := store_own h hi hv hK
theorem Own.some {e n c : Nat} {l : List Value} (h : Own w e 1 a n c l) (hn : 0 < n) : ∃ b, a = .some ⟨b, 0, .none⟩ := by
  rcases h.row with ⟨_, h2, _⟩ | ⟨b, _, h1, _⟩
  · omega
  · exact ⟨b, h1⟩
theorem Own.at_lt {e sz n c : Nat} {l : List Value} (h : Own w e sz a n c l) : ∀ k, At a k → k < w.heap.size := fun _ hk => h.lt hk
/-- a cell of one's own, read -/
theorem Own.cell {e n c : Nat} {l : List Value} (h : Own w e 1 a n c l) {j : Nat} {v : Value} (hv : l[j]? = .some v) : ∃ p, a = .some p ∧ w.cell? (p.add j) = .some v := by
  obtain ⟨p, h1, _, h3⟩ := h.lies j v hv
  exact ⟨p, h1, h3⟩
theorem slA_zero (a : Option Addr) (m sz : Nat) : slA a 0 m sz = a := by
  unfold slA
  split
  · rfl
  · cases a <;> simp [Addr.add]
end


/-- s[lo:] and s[:k], of bytes -/
theorem Lies.dropB {w : World} {S : Nat → Prop} {a : Option Addr} {l : List UInt8} (h : Lies w S a (bvs l)) {lo m : Nat} (hm : l.length ≤ m) : Lies w S (Sh.slA a lo m 1) (bvs (l.drop lo)) := by
  have h1 := h.slA lo m
  split at h1
  · rename_i e
    have : l.drop lo = [] := List.drop_eq_nil_of_le (by omega)
    rw [this]; exact Lies.nil
  · rw [bvs, List.map_drop]; exact h1
theorem Lies.takeB {w : World} {S : Nat → Prop} {a : Option Addr} {l : List UInt8} (h : Lies w S a (bvs l)) (k : Nat) : Lies w S a (bvs (l.take k)) := by
  rw [bvs, List.map_take]; exact h.take k
/-- append(nil, ..) -/
theorem append_none {t tx ty e sz by_ : Nat} (T : SlT P t e sz by_) {w : World} {x : Value} {m : Nat} {news : List Value} (hs : Src P sz tx x m news w) (h63 : m ≤ maxLen) (hb : m * by_ ≤ 140737488355328) {K : Value → World → Prop}
    (hK : ∀ a' c' w', Own w' e sz a' m c' news → Chg None w w' → (∀ k, At a' k → w.heap.size ≤ k) → K (.slice a' m c') w') :
    sem P (Builtin.append_ #[t, tx] ty #[.slice none 0 0, x]) w K := by
  refine append_own' T (Own.nil (e := e) (sz := sz)) hs (by omega) (by rw [Nat.zero_add]; exact hb) fun a' c' w' o k f => ?_
  rw [Nat.zero_add] at o ⊢
  refine hK a' c' w' o (k.mono fun x _ hx => by obtain ⟨_, hx, _⟩ := hx; cases hx) ?_
  rcases f with rfl | ⟨b, rfl, hb, _⟩
  · rintro k ⟨p, hp, _⟩; cases hp
  · rintro k ⟨p, hp, rfl⟩; cases hp; exact hb

/-! ### a list of byte slices, whose elements lie in blocks of E -/
structure Lst (w : World) (t : Nat) (E : Nat → Prop) (a : Option Addr) (n c : Nat) (rs : List (List UInt8)) : Prop where
  own : ∃ vals, Own w t 1 a n c vals ∧ vals.length = rs.length ∧ ∀ (j : Nat) (r : List UInt8), rs[j]? = some r → ∃ q cq, vals[j]? = some (.slice q r.length cq) ∧ r.length ≤ cq ∧ Lies w E q (bvs r)
  apart : ∀ k, E k → ¬ At a k ∧ k < w.heap.size
section
variable {w w' : World} {t : Nat} {E : Nat → Prop} {a : Option Addr} {n c : Nat} {rs : List (List UInt8)}
theorem Lst.len (h : Lst w t E a n c rs) : rs.length = n := by
  obtain ⟨vals, h1, h2, _⟩ := h.own
  have := h1.len
  omega
theorem Lst.nil (hE : ∀ k, E k → k < w.heap.size) : Lst w t E .none 0 0 [] := ⟨⟨[], Own.nil, rfl, fun j r h => by simp at h⟩, fun k hk => ⟨(by rintro ⟨p, hp, _⟩; cases hp), hE k hk⟩⟩
theorem Lst.at_lt (h : Lst w t E a n c rs) : ∀ k, At a k → k < w.heap.size := fun k hk => by
  obtain ⟨vals, h1, _⟩ := h.own
  exact h1.lt hk
theorem Lst.chg {D : Nat → Prop} (h : Lst w t E a n c rs) (k : Chg D w w') (h1 : ∀ x, At a x → ¬ D x) (h2 : ∀ x, E x → ¬ D x) : Lst w' t E a n c rs := by
  obtain ⟨vals, g1, g2, g3⟩ := h.own
  refine ⟨⟨vals, g1.chg k h1, g2, fun j r hj => ?_⟩, fun x hx => ⟨(h.apart x hx).1, Nat.lt_of_lt_of_le (h.apart x hx).2 k.size⟩⟩
  obtain ⟨q, cq, k1, k2, k3⟩ := g3 j r hj
  exact ⟨q, cq, k1, k2, k3.chg k fun x _ hx => h2 x hx⟩
theorem Lst.chg0 (h : Lst w t E a n c rs) (k : Chg None w w') : Lst w' t E a n c rs := h.chg k (fun _ _ h => h) (fun _ _ h => h)
theorem Lst.recs (h : Lst w t E a n c rs) : Recs w (fun k => E k ∨ At a k) a rs := by
  intro j r hj
  obtain ⟨vals, g1, _, g3⟩ := h.own
  obtain ⟨q, cq, k1, k2, k3⟩ := g3 j r hj
  obtain ⟨p, p1, p2, p3⟩ := g1.lies j _ k1
  exact ⟨p, q, cq, p1, .inr p2, p3, k2, k3.mono fun k hk => .inl hk⟩
theorem Lst.more {E' : Nat → Prop} (h : Lst w t E a n c rs) (hE : ∀ k, E k → E' k) (hE' : ∀ k, E' k → ¬ At a k ∧ k < w.heap.size) : Lst w t E' a n c rs := by
  obtain ⟨vals, g1, g2, g3⟩ := h.own
  refine ⟨⟨vals, g1, g2, fun j r hj => ?_⟩, hE'⟩
  obtain ⟨q, cq, k1, k2, k3⟩ := g3 j r hj
  exact ⟨q, cq, k1, k2, k3.mono hE⟩
/-- One more. -/
theorem lst_push {tl : Nat} (T : SlT P tl t 1 24) (h : Lst w t E a n c rs) {q : Option Addr} {r : List UInt8} {cq : Nat} (hq : Lies w E q (bvs r)) (hr : r.length ≤ cq) (hn : (n + 1) * 24 ≤ 140737488355328) {K : Option Addr → Nat → Nat → World → Prop}
    (hK : ∀ a' c' w', Lst w' t E a' (n + 1) c' (rs ++ [r]) → Chg (At a) w w' → (a' = a ∨ ∃ b, a' = some ⟨b, 0, .none⟩ ∧ w.heap.size ≤ b) → K a' (n + 1) c' w') :
    alC #[.slice q r.length cq] t w fun p w2 => sem P (Builtin.append_ #[tl, tl] tl #[.slice a n c, .slice (some p) 1 1]) w2 fun v w3 => opnL (some v) fun x xn xc => K x xn xc w3 := by
  obtain ⟨vals, g1, g2, g3⟩ := h.own
  unfold alC
  have ka : Chg None w (w.alloc (.cells #[.slice q r.length cq] t)) := chg_alloc w _
  have hs : Src P 1 tl (.slice (some ⟨w.heap.size, 0, .none⟩) 1 1) 1 [.slice q r.length cq] (w.alloc (.cells #[.slice q r.length cq] t)) :=
    src_two (vs := [.slice q r.length cq]) T.ht rfl (by intro u hu; simp at hu; subst hu; rfl)
  refine append_own T (w := w.alloc (.cells #[.slice q r.length cq] t)) (g1.chg0 ka) hs (by simp only [maxLen]; omega) hn fun a' c' w' o k3 f => ?_
  have hsz := ka.size
  have kk : Chg (At a) w w' := Chg.trans ka k3 (fun _ _ h => h.elim) (fun _ _ h => h)
  have hnew : a' = a ∨ ∃ b, a' = some ⟨b, 0, .none⟩ ∧ w.heap.size ≤ b := by
    rcases f with rfl | ⟨b, rfl, hb⟩
    · exact .inl rfl
    · exact .inr ⟨b, rfl, Nat.le_trans hsz hb⟩
  refine hK a' c' w' ⟨⟨_, o, by simp [g2], fun j r' hj => ?_⟩, fun x hx => ⟨fun hx' => ?_, Nat.lt_of_lt_of_le (h.apart x hx).2 kk.size⟩⟩ kk hnew
  · rcases Nat.lt_or_ge j rs.length with hjl | hjl
    · rw [List.getElem?_append_left hjl] at hj
      obtain ⟨q', cq', k1, k2, k3⟩ := g3 j r' hj
      exact ⟨q', cq', by rw [List.getElem?_append_left (by omega)]; exact k1, k2, k3.chg kk fun x _ hx => (h.apart x hx).1⟩
    · rw [List.getElem?_append_right hjl] at hj
      have : j - rs.length = 0 := by
        have := (List.getElem?_eq_some_iff.1 hj).1
        simp at this; omega
      rw [this] at hj
      cases hj
      exact ⟨q, cq, by rw [List.getElem?_append_right (by omega), show j - vals.length = 0 by omega]; rfl, hr, hq.chg kk fun x _ hx => (h.apart x hx).1⟩
  · rcases hnew with rfl | ⟨b, rfl, hb⟩
    · exact (h.apart x hx).1 hx'
    · obtain ⟨p, hp, rfl⟩ := hx'; cases hp
      have := (h.apart _ hx).2
      simp only at this; omega
end


theorem u8w (n : Nat) : IntKind.wrap .u8 (n : Int) = ((UInt8.ofNat n).toNat : Int) := by
  have := u8_eq n
  simp only [bv, Value.int.injEq, true_and] at this
  exact this.symm
theorem rd_own_slice {w : World} {e n c : Nat} {a : Option Addr} {vals : List Value} (h : Own w e 1 a n c vals) {i : Int} {q : Option Addr} {m cq : Nat} (hv : vals[i.toNat]? = some (.slice q m cq)) {K : Option Addr → Nat → Nat → Prop} (hK : K q m cq) : opnA a fun ad => opnL (w.cell? (ad.add (Int.toNat i * 1))) K := by
  obtain ⟨p, rfl, hc⟩ := h.cell hv
  simp only [opnA, Nat.mul_one, hc, opnL]
  exact hK
theorem Lies.bound {w : World} {S : Nat → Prop} {a : Option Addr} {l : List Value} (h : Lies w S a l) : Lies w (fun k => S k ∧ k < w.heap.size) a l := fun j v hj => by
  obtain ⟨p, g1, g2, g3⟩ := h j v hj
  exact ⟨p, g1, ⟨g2, by have := World.block_lt_of_cell? _ _ g3; rwa [block_add] at this⟩, g3⟩
theorem nodup_map_on {α β : Type} {f : α → β} {l : List α} (hf : ∀ x ∈ l, ∀ y ∈ l, f x = f y → x = y) (h : l.Nodup) : (l.map f).Nodup := by
  rw [List.Nodup, List.pairwise_map]
  exact List.Pairwise.imp_of_mem (fun {x y} hx hy hne e => hne (hf x hx y hy e)) h
theorem Recs.bound {w : World} {S : Nat → Prop} {a : Option Addr} {rs : List (List UInt8)} (h : Recs w S a rs) : Recs w (fun k => S k ∧ k < w.heap.size) a rs := fun j r hj => by
  obtain ⟨p, q, c, h1, h2, h3, h4, h5⟩ := h j r hj
  refine ⟨p, q, c, h1, ⟨h2, ?_⟩, h3, h4, fun i v hi => ?_⟩
  · have := World.block_lt_of_cell? _ _ h3; rwa [block_add] at this
  · obtain ⟨p', g1, g2, g3⟩ := h5 i v hi
    exact ⟨p', g1, ⟨g2, by have := World.block_lt_of_cell? _ _ g3; rwa [block_add] at this⟩, g3⟩

/-! ### things that stand apart -/
structure HP where
  holds : World → Prop
  foot : Nat → Prop
structure HP.Ok (P : HP) : Prop where
  keep : ∀ {D : Nat → Prop} {w w' : World}, P.holds w → Chg D w w' → (∀ k, P.foot k → ¬ D k) → P.holds w'
  lt : ∀ {w : World}, P.holds w → ∀ k, P.foot k → k < w.heap.size
structure Sep (w : World) (l : List HP) : Prop where
  ok : ∀ p ∈ l, p.Ok
  holds : ∀ p ∈ l, p.holds w
  apart : l.Pairwise fun p q => ∀ k, p.foot k → ¬ q.foot k
def hOwn (e sz : Nat) (a : Option Addr) (n c : Nat) (l : List Value) : HP := ⟨fun w => Own w e sz a n c l, At a⟩
theorem hOwn.ok {e sz n c : Nat} {a : Option Addr} {l : List Value} : (hOwn e sz a n c l).Ok := ⟨fun h k hd => Own.chg h k hd, fun h _ hk => Own.lt h hk⟩
def hRecs (F : Nat → Prop) (a : Option Addr) (rs : List (List UInt8)) : HP := ⟨fun w => Recs w F a rs ∧ ∀ k, F k → k < w.heap.size, F⟩
theorem hRecs.ok {F : Nat → Prop} {a : Option Addr} {rs : List (List UInt8)} : (hRecs F a rs).Ok := ⟨fun h k hd => ⟨h.1.chg k fun x _ hx => hd x hx, fun x hx => Nat.lt_of_lt_of_le (h.2 x hx) k.size⟩, fun h => h.2⟩
section
variable {w w' : World}
theorem Sep.nil : Sep w [] := ⟨by simp, by simp, .nil⟩
theorem Sep.get {l r : List HP} {p : HP} (h : Sep w (l ++ p :: r)) : p.holds w := h.holds p (by simp)
theorem Sep.mem {l : List HP} {p : HP} (h : Sep w l) (hp : p ∈ l) : p.holds w := h.holds p hp
/-- What is done to one of them and to new memory. -/
theorem Sep.step {l r : List HP} {p : HP} (h : Sep w (l ++ p :: r)) (k : Chg p.foot w w') {p' : HP} (ok : p'.Ok) (hp : p'.holds w') (hf : ∀ x, p'.foot x → p.foot x ∨ w.heap.size ≤ x) : Sep w' (l ++ p' :: r) := by
  have h1 := h.ok
  have h2 := h.holds
  have h3 := h.apart
  rw [List.pairwise_append, List.pairwise_cons] at h3
  obtain ⟨a1, ⟨a2, a3⟩, a4⟩ := h3
  have hl : ∀ q ∈ l, ∀ x, q.foot x → ¬ p.foot x := fun q hq => a4 q hq p (by simp)
  have hr : ∀ q ∈ r, ∀ x, q.foot x → ¬ p.foot x := fun q hq x hx hx' => a2 q hq x hx' hx
  have lt : ∀ q ∈ l ++ p :: r, ∀ x, q.foot x → x < w.heap.size := fun q hq => (h1 q hq).lt (h2 q hq)
  refine ⟨fun q hq => ?_, fun q hq => ?_, ?_⟩
  · simp only [List.mem_append, List.mem_cons] at hq
    rcases hq with hq | rfl | hq
    · exact h1 q (by simp [hq])
    · exact ok
    · exact h1 q (by simp [hq])
  · simp only [List.mem_append, List.mem_cons] at hq
    rcases hq with hq | rfl | hq
    · exact (h1 q (by simp [hq])).keep (h2 q (by simp [hq])) k (hl q hq)
    · exact hp
    · exact (h1 q (by simp [hq])).keep (h2 q (by simp [hq])) k (hr q hq)
  · rw [List.pairwise_append, List.pairwise_cons]
    refine ⟨a1, ⟨fun q hq x hx hx' => ?_, a3⟩, fun q hq q' hq' => ?_⟩
    · rcases hf x hx with h | h
      · exact hr q hq x hx' h
      · have := lt q (by simp [hq]) x hx'; omega
    · rcases List.mem_cons.1 hq' with rfl | hq'
      · intro x hx hx'
        rcases hf x hx' with h | h
        · exact hl q hq x hx h
        · have := lt q (by simp [hq]) x hx; omega
      · exact a4 q hq q' (by simp [hq'])
/-- One more, of new memory. -/
theorem Sep.push {l : List HP} (h : Sep w l) (k : Chg None w w') {p' : HP} (ok : p'.Ok) (hp : p'.holds w') (hf : ∀ x, p'.foot x → w.heap.size ≤ x) : Sep w' (l ++ [p']) := by
  refine ⟨fun q hq => ?_, fun q hq => ?_, List.pairwise_append.2 ⟨h.apart, by simp, fun q hq q' hq' x hx hx' => ?_⟩⟩
  · rcases List.mem_append.1 hq with hq | hq
    · exact h.ok q hq
    · simp at hq; subst hq; exact ok
  · rcases List.mem_append.1 hq with hq | hq
    · exact (h.ok q hq).keep (h.holds q hq) k (fun _ _ h => h)
    · simp at hq; subst hq; exact hp
  · simp at hq'; subst hq'
    have := (h.ok q hq).lt (h.holds q hq) x hx
    have := hf x hx'
    omega
theorem Sep.chg {l : List HP} {D : Nat → Prop} (h : Sep w l) (k : Chg D w w') (hd : ∀ p ∈ l, ∀ x, p.foot x → ¬ D x) : Sep w' l := ⟨h.ok, fun q hq => (h.ok q hq).keep (h.holds q hq) k (hd q hq), h.apart⟩
theorem Sep.chg0 {l : List HP} (h : Sep w l) (k : Chg None w w') : Sep w' l := h.chg k fun _ _ _ _ h => h
theorem Sep.perm {l l' : List HP} (h : Sep w l) (hp : l.Perm l') : Sep w l' :=
  ⟨fun q hq => h.ok q (hp.mem_iff.2 hq), fun q hq => h.holds q (hp.mem_iff.2 hq), (hp.pairwise_iff fun {_ _} h k hq hp => h k hp hq).1 h.apart⟩
theorem Sep.sub {l l' : List HP} (h : Sep w l) (hs : l'.Sublist l) : Sep w l' :=
  ⟨fun q hq => h.ok q (hs.subset hq), fun q hq => h.holds q (hs.subset hq), h.apart.sublist hs⟩
theorem Parts.sep {B e2 e1 n c : Nat} {a : Option Addr} {ps : List Part} (h : Parts w B e2 e1 a n c ps) : Sep w (hOwn e2 1 a n c (ps.map pv) :: ps.map fun x => hOwn e1 1 x.1 x.2.2.length x.2.1 (bvs x.2.2)) := by
  refine ⟨fun q hq => ?_, fun q hq => ?_, ?_⟩
  · rcases List.mem_cons.1 hq with rfl | hq
    · exact hOwn.ok
    · obtain ⟨x, _, rfl⟩ := List.mem_map.1 hq; exact hOwn.ok
  · rcases List.mem_cons.1 hq with rfl | hq
    · exact h.own
    · obtain ⟨x, hx, rfl⟩ := List.mem_map.1 hq; exact (h.each x hx).1
  · rw [List.pairwise_cons, List.pairwise_map]
    refine ⟨fun q hq k hk hk' => ?_, h.apart⟩
    obtain ⟨x, hx, rfl⟩ := List.mem_map.1 hq
    exact ((h.each x hx).2 k hk').2 hk
end
end Go.Sh
/-! ## ShL8 -/
namespace Go.Sh
open Go.ChangeShapes
variable {P : Program}

/-! ### structs of plain cells, compared -/
inductive EqF (P : Program) (xs ys : Array Value) : List (Nat × Nat) → Bool → Prop
  | nil : EqF P xs ys [] true
  | int {t o : Nat} {k k' : IntKind} {a b : Int} {r : List (Nat × Nat)} {q : Bool} : P.underlying t = some (.int k') → xs[o]? = some (.int k a) → ys[o]? = some (.int k b) → EqF P xs ys r q → EqF P xs ys ((t, o) :: r) ((a == b) && q)
  | bool {t o : Nat} {a b : Bool} {r : List (Nat × Nat)} {q : Bool} : P.underlying t = some .bool → xs[o]? = some (.bool a) → ys[o]? = some (.bool b) → EqF P xs ys r q → EqF P xs ys ((t, o) :: r) ((a == b) && q)
  | str {t o : Nat} {a b : ByteArray} {r : List (Nat × Nat)} {q : Bool} : P.underlying t = some .string → xs[o]? = some (.string a) → ys[o]? = some (.string b) → EqF P xs ys r q → EqF P xs ys ((t, o) :: r) ((a.toList == b.toList) && q)
theorem eqF_run (w : World) (d : Nat) {xs ys : Array Value} : ∀ {fs : List Field} {tb : List (Nat × Nat)} {q : Bool}, fs.map (fun f => (f.name != "_", f.type, f.offset)) = tb.map (fun x => (true, x.1, x.2)) → EqF P xs ys tb q → (Op.eqFields (d + 1) xs ys fs).run P w = .ok q w
  | [], _, _, h, .nil => by simp [Op.eqFields]
  | f :: fs, (t, o) :: tb, _, h, e => by
    simp only [List.map_cons, List.cons.injEq, Prod.mk.injEq, bne_iff_ne] at h
    obtain ⟨⟨hn, rfl, rfl⟩, h⟩ := h
    have pk : ∀ {k}, P.underlying f.type = some (.int k) → P.plainKey f.type = true := fun hu => by unfold Program.plainKey; rw [hu]
    have pb : P.underlying f.type = some .bool → P.plainKey f.type = true := fun hu => by unfold Program.plainKey; rw [hu]
    have ps : P.underlying f.type = some .string → P.plainKey f.type = true := fun hu => by unfold Program.plainKey; rw [hu]
    cases e with
    | @int _ _ k k' a b _ q hu hx hy e =>
      have ih := eqF_run w d h e
      simp only [Op.eqFields, hn, ne_eq, not_false_eq_true, if_true, Sem.run_bind, run_part_plain w (pk hu) hx, run_part_plain w (pk hu) hy, run_equalIn_int w d _ _ _ _ _ hu, Result.andThen_ok]
      cases h1 : (a == b) <;> simp [ih]
    | @bool _ _ a b _ q hu hx hy e =>
      have ih := eqF_run w d h e
      simp only [Op.eqFields, hn, ne_eq, not_false_eq_true, if_true, Sem.run_bind, run_part_plain w (pb hu) hx, run_part_plain w (pb hu) hy, run_equalIn_bool' w d _ _ _ hu, Result.andThen_ok]
      cases h1 : (a == b) <;> simp [ih]
    | @str _ _ a b _ q hu hx hy e =>
      have ih := eqF_run w d h e
      simp only [Op.eqFields, hn, ne_eq, not_false_eq_true, if_true, Sem.run_bind, run_part_plain w (ps hu) hx, run_part_plain w (ps hu) hy, run_equalIn_string w d _ _ _ hu, Result.andThen_ok]
      cases h1 : (a.toList == b.toList) <;> simp [ih]
  | [], _ :: _, _, h, _ => by simp at h
  | _ :: _, [], _, h, _ => by simp at h
/-- A type whose values are compared field by field. -/
structure EqT (P : Program) (t : Nat) (tb : List (Nat × Nat)) : Prop where
  guard : P.eqGuardType P.depth t = false
  under : P.underlying t = some (.struct (P.fieldsOf t))
  held : P.stoodInHeld t = false
  tab : (P.fieldsOf t).toList.map (fun f => (f.name != "_", f.type, f.offset)) = tb.map (fun x => (true, x.1, x.2))
theorem struct_eql {t : Nat} {tb : List (Nat × Nat)} (T : EqT P t tb) {x y : Operand} {xs ys : Array Value} {q : Bool} (e : EqF P xs ys tb q) {w : World} {K : Value → Prop} (hK : K (.bool q)) : semR P (do eqGuard .eql t x y (.agg xs) (.agg ys); binOp .eql t (.agg xs) (.agg ys)) w K := by
  unfold semR
  have := eqF_run w 9998 T.tab e
  simp only [Sem.run_bind, run_eqGuard_agg w .eql t x y xs ys T.guard, Result.andThen_ok, run_eql_struct, run_equalIn_struct w 9999 t xs ys T.under T.held, this]
  exact ⟨trivial, hK⟩
theorem struct_neq {t : Nat} {tb : List (Nat × Nat)} (T : EqT P t tb) {x y : Operand} {xs ys : Array Value} {q : Bool} (e : EqF P xs ys tb q) {w : World} {K : Value → Prop} (hK : K (.bool (!q))) : semR P (do eqGuard .neq t x y (.agg xs) (.agg ys); binOp .neq t (.agg xs) (.agg ys)) w K := by
  unfold semR
  have := eqF_run w 9998 T.tab e
  simp only [Sem.run_bind, run_eqGuard_agg w .neq t x y xs ys T.guard, Result.andThen_ok, run_neq_struct, run_equalIn_struct w 9999 t xs ys T.under T.held, this]
  exact ⟨trivial, hK⟩

/-! ### make with a capacity, elements of any size -/
theorem make_empty {t e sz by_ : Nat} (T : SlT P t e sz by_) {w : World} {c : Nat} (hb : by_ * c ≤ 281474976710656) (h63 : c ≤ 9223372036854775807) {K : Value → World → Prop}
    (hK : ∀ b w', Own w' e sz (some ⟨b, 0, .none⟩) 0 c [] → Chg None w w' → w.heap.size ≤ b → K (.slice (some ⟨b, 0, .none⟩) 0 c) w') : sem P (Instr.makeSlice t (.int .i64 0) (.int .i64 (c : Int))) w K := by
  obtain ⟨i, z, hi, hz, rfl, rfl, hzs⟩ := T.get
  have hb' : (i.bytes : Int) * (c : Int) ≤ 281474976710656 := by
    have h : ((i.bytes * c : Nat) : Int) ≤ 281474976710656 := by omega
    rwa [Int.natCast_mul] at h
  unfold sem
  rw [run_make (P := P) w t e i z T.ht hi hz .i64 .i64 0 c (by omega) (by omega) hb' (by omega)]
  simp only [Int.toNat_natCast]
  refine hK _ _ ⟨by simp, .inr ⟨w.heap.size, (madeCells z.cells (c * i.size)).toList, rfl, ?_, by simp [size_madeCells], Nat.zero_le _⟩⟩ (chg_alloc w _) (Nat.le_refl _)
  simpa using blk_alloc (w := w) (t := e) (cs := madeCells z.cells (c * i.size))

/-! ### lists of structs -/
theorem flat_get {α : Type} (enc : α → List Value) (sz : Nat) (hs : ∀ x, (enc x).length = sz) : ∀ (l : List α) (i j : Nat) (x : α), l[i]? = some x → j < sz → (l.flatMap enc)[i * sz + j]? = (enc x)[j]?
  | [], i, _, _, h, _ => by simp at h
  | y :: l, 0, j, x, h, hj => by
    simp only [List.getElem?_cons_zero, Option.some.injEq] at h; subst h
    rw [List.flatMap_cons, Nat.zero_mul, Nat.zero_add, List.getElem?_append_left (by rw [hs]; exact hj)]
  | y :: l, i + 1, j, x, h, hj => by
    simp only [List.getElem?_cons_succ] at h
    rw [List.flatMap_cons, List.getElem?_append_right (by rw [hs, Nat.add_mul]; omega), hs, show (i + 1) * sz + j - sz = i * sz + j by rw [Nat.add_mul]; omega]
    exact flat_get enc sz hs l i j x h hj
theorem flat_len {α : Type} (enc : α → List Value) (sz : Nat) (hs : ∀ x, (enc x).length = sz) (l : List α) : (l.flatMap enc).length = l.length * sz := by
  induction l with
  | nil => simp
  | cons x l ih => rw [List.flatMap_cons, List.length_append, ih, hs, List.length_cons, Nat.add_mul]; omega
/-- field j of element i -/
theorem rd_fld {α : Type} {enc : α → List Value} {sz : Nat} (hs : ∀ x, (enc x).length = sz) {w : World} {S : Nat → Prop} {p : Addr} {l : List α} (h : Lies w S (some p) (l.flatMap enc)) {i : Int} {x : α} (hx : l[i.toNat]? = some x) {j : Nat} {v : Value} (hv : (enc x)[j]? = some v) : w.cell? ((p.add (Int.toNat i * sz)).add j) = some v := by
  have hj : j < sz := by have := (List.getElem?_eq_some_iff.1 hv).1; rwa [hs] at this
  obtain ⟨q, hq, _, hc⟩ := h (i.toNat * sz + j) v (by rw [flat_get enc sz hs l _ j x hx hj]; exact hv)
  cases hq
  rw [add_add']; exact hc
theorem lies_flat_some {α : Type} {enc : α → List Value} {sz : Nat} (hs : ∀ x, (enc x).length = sz) (h0 : 0 < sz) {w : World} {S : Nat → Prop} {a : Option Addr} {l : List α} (h : Lies w S a (l.flatMap enc)) {i : Nat} (hi : i < l.length) : ∃ p, a = some p := by
  refine h.some (j := i * sz) ?_
  rw [flat_len enc sz hs]
  exact Nat.mul_lt_mul_of_pos_right hi h0
end Go.Sh
/-! ## ShL9 -/
namespace Go.Sh
open Go.ChangeShapes
section
variable {w : World} {b : Nat} {t : TypeId}
theorem Blk.rd {l : List Value} (h : Blk w b t l) (j : Nat) {v : Value} (hv : l[j]? = some v) : w.cell? ((⟨b, 0, none⟩ : Addr).add j) = some v := by
  rw [Addr.add_lit, Nat.zero_add, h.cell]; exact hv
/-- in a box that lies further in -/
theorem Blk.rd2 {l : List Value} (h : Blk w b t l) (i j : Nat) {v : Value} (hv : l[i + j]? = some v) : w.cell? (((⟨b, 0, none⟩ : Addr).add i).add j) = some v := by
  rw [add_add', Addr.add_lit, Nat.zero_add, h.cell]; exact hv
theorem opnI_c {k : IntKind} {o : Option Value} {n : Int} (h : o = some (.int k n)) {K : Int → Prop} (hK : K n) : opnI k o K := by subst h; exact ⟨rfl, hK⟩
theorem opnB_c {o : Option Value} {n : Bool} (h : o = some (.bool n)) {K : Bool → Prop} (hK : K n) : opnB o K := by subst h; exact hK
theorem opnS_c {o : Option Value} {n : ByteArray} (h : o = some (.string n)) {K : ByteArray → Prop} (hK : K n) : opnS o K := by subst h; exact hK
theorem opnL_c {o : Option Value} {a : Option Addr} {n c : Nat} (h : o = some (.slice a n c)) {K : Option Addr → Nat → Nat → Prop} (hK : K a n c) : opnL o K := by subst h; exact hK
theorem opnP_c {o : Option Value} {a : Option Addr} (h : o = some (.pointer a)) {K : Option Addr → Prop} (hK : K a) : opnP o K := by subst h; exact hK
theorem opnM_c {o : Option Value} {a : Option Nat} (h : o = some (.map a)) {K : Option Nat → Prop} (hK : K a) : opnM o K := by subst h; exact hK
theorem opnV_c {o : Option Value} {v : Value} (h : o = some v) {K : Value → Prop} (hK : K v) : opnV o K := by subst h; exact hK
theorem box_stL {K : World → Prop} : ∀ (vs done old : List Value) (w : World), Blk w b t (done ++ old) → vs.length = old.length → (∀ v ∈ vs, v.oneCell' = true) → (∀ w', Blk w' b t (done ++ vs) → Chg (fun k => k = b) w w' → K w') → stL ⟨b, 0, none⟩ done.length vs w K
  | [], done, old, w, h, hl, _, hK => by
    have : old = [] := List.eq_nil_of_length_eq_zero hl.symm
    subst this
    exact hK w h (Chg.refl _ _)
  | v :: vs, done, x :: old, w, h, hl, h1, hK => by
    show stC ((⟨b, 0, none⟩ : Addr).add done.length) v w fun w' => stL ⟨b, 0, none⟩ (done.length + 1) vs w' K
    rw [Addr.add_lit, Nat.zero_add]
    refine h.store (by simp) (h1 v (by simp)) fun h' k' => ?_
    rw [set_mid] at h'
    have := box_stL (K := K) vs (done ++ [v]) old _ (by simpa using h') (by simpa using hl) (fun u hu => h1 u (by simp [hu])) (fun w' hb k => hK w' (by simpa using hb) (Chg.trans k' k (fun _ _ h => h) (fun _ _ h => h)))
    simpa using this
  | _ :: _, _, [], _, _, hl, _, _ => by simp at hl
theorem box_all {K : World → Prop} {vs old : List Value} (h : Blk w b t old) (hl : vs.length = old.length) (h1 : ∀ v ∈ vs, v.oneCell' = true) (hK : ∀ w', Blk w' b t vs → Chg (fun k => k = b) w w' → K w') : stL ⟨b, 0, none⟩ 0 vs w K := box_stL vs [] old w h hl h1 hK
theorem box_set {l : List Value} (h : Blk w b t l) {j : Nat} (hj : j < l.length) {v : Value} (hv : v.oneCell' = true) {K : World → Prop} (hK : ∀ w', Blk w' b t (l.set j v) → Chg (fun k => k = b) w w' → K w') : stC ((⟨b, 0, none⟩ : Addr).add j) v w K := by
  rw [Addr.add_lit, Nat.zero_add]
  exact h.store hj hv fun h' k' => hK _ h' k'
theorem alC_box {cs : Array Value} {K : Addr → World → Prop} (hK : ∀ b w', Blk w' b t cs.toList → Chg None w w' → w.heap.size ≤ b → K ⟨b, 0, none⟩ w') : alC cs t w K := hK _ _ blk_alloc (chg_alloc w _) (Nat.le_refl _)
theorem box2 {old : List Value} {v0 v1 : Value} {K : World → Prop} (h : Blk w b t old) (hl : old.length = 2) (h1 : ([v0, v1] : List Value).all Value.oneCell' = true) (hK : ∀ w', Blk w' b t [v0, v1] → Chg (fun k => k = b) w w' → K w') : stC ((⟨b, 0, none⟩ : Addr).add 0) v0 w fun w1 => stC ((⟨b, 0, none⟩ : Addr).add 1) v1 w1 fun w2 => K w2 := box_all h (by rw [hl]; rfl) (List.all_eq_true.1 h1) hK
theorem box3 {old : List Value} {v0 v1 v2 : Value} {K : World → Prop} (h : Blk w b t old) (hl : old.length = 3) (h1 : ([v0, v1, v2] : List Value).all Value.oneCell' = true) (hK : ∀ w', Blk w' b t [v0, v1, v2] → Chg (fun k => k = b) w w' → K w') : stC ((⟨b, 0, none⟩ : Addr).add 0) v0 w fun w1 => stC ((⟨b, 0, none⟩ : Addr).add 1) v1 w1 fun w2 => stC ((⟨b, 0, none⟩ : Addr).add 2) v2 w2 fun w3 => K w3 := box_all h (by rw [hl]; rfl) (List.all_eq_true.1 h1) hK
theorem box4 {old : List Value} {v0 v1 v2 v3 : Value} {K : World → Prop} (h : Blk w b t old) (hl : old.length = 4) (h1 : ([v0, v1, v2, v3] : List Value).all Value.oneCell' = true) (hK : ∀ w', Blk w' b t [v0, v1, v2, v3] → Chg (fun k => k = b) w w' → K w') : stC ((⟨b, 0, none⟩ : Addr).add 0) v0 w fun w1 => stC ((⟨b, 0, none⟩ : Addr).add 1) v1 w1 fun w2 => stC ((⟨b, 0, none⟩ : Addr).add 2) v2 w2 fun w3 => stC ((⟨b, 0, none⟩ : Addr).add 3) v3 w3 fun w4 => K w4 := box_all h (by rw [hl]; rfl) (List.all_eq_true.1 h1) hK
theorem box5 {old : List Value} {v0 v1 v2 v3 v4 : Value} {K : World → Prop} (h : Blk w b t old) (hl : old.length = 5) (h1 : ([v0, v1, v2, v3, v4] : List Value).all Value.oneCell' = true) (hK : ∀ w', Blk w' b t [v0, v1, v2, v3, v4] → Chg (fun k => k = b) w w' → K w') : stC ((⟨b, 0, none⟩ : Addr).add 0) v0 w fun w1 => stC ((⟨b, 0, none⟩ : Addr).add 1) v1 w1 fun w2 => stC ((⟨b, 0, none⟩ : Addr).add 2) v2 w2 fun w3 => stC ((⟨b, 0, none⟩ : Addr).add 3) v3 w3 fun w4 => stC ((⟨b, 0, none⟩ : Addr).add 4) v4 w4 fun w5 => K w5 := box_all h (by rw [hl]; rfl) (List.all_eq_true.1 h1) hK
theorem box6 {old : List Value} {v0 v1 v2 v3 v4 v5 : Value} {K : World → Prop} (h : Blk w b t old) (hl : old.length = 6) (h1 : ([v0, v1, v2, v3, v4, v5] : List Value).all Value.oneCell' = true) (hK : ∀ w', Blk w' b t [v0, v1, v2, v3, v4, v5] → Chg (fun k => k = b) w w' → K w') : stC ((⟨b, 0, none⟩ : Addr).add 0) v0 w fun w1 => stC ((⟨b, 0, none⟩ : Addr).add 1) v1 w1 fun w2 => stC ((⟨b, 0, none⟩ : Addr).add 2) v2 w2 fun w3 => stC ((⟨b, 0, none⟩ : Addr).add 3) v3 w3 fun w4 => stC ((⟨b, 0, none⟩ : Addr).add 4) v4 w4 fun w5 => stC ((⟨b, 0, none⟩ : Addr).add 5) v5 w5 fun w6 => K w6 := box_all h (by rw [hl]; rfl) (List.all_eq_true.1 h1) hK
theorem box7 {old : List Value} {v0 v1 v2 v3 v4 v5 v6 : Value} {K : World → Prop} (h : Blk w b t old) (hl : old.length = 7) (h1 : ([v0, v1, v2, v3, v4, v5, v6] : List Value).all Value.oneCell' = true) (hK : ∀ w', Blk w' b t [v0, v1, v2, v3, v4, v5, v6] → Chg (fun k => k = b) w w' → K w') : stC ((⟨b, 0, none⟩ : Addr).add 0) v0 w fun w1 => stC ((⟨b, 0, none⟩ : Addr).add 1) v1 w1 fun w2 => stC ((⟨b, 0, none⟩ : Addr).add 2) v2 w2 fun w3 => stC ((⟨b, 0, none⟩ : Addr).add 3) v3 w3 fun w4 => stC ((⟨b, 0, none⟩ : Addr).add 4) v4 w4 fun w5 => stC ((⟨b, 0, none⟩ : Addr).add 5) v5 w5 fun w6 => stC ((⟨b, 0, none⟩ : Addr).add 6) v6 w6 fun w7 => K w7 := box_all h (by rw [hl]; rfl) (List.all_eq_true.1 h1) hK
theorem box8 {old : List Value} {v0 v1 v2 v3 v4 v5 v6 v7 : Value} {K : World → Prop} (h : Blk w b t old) (hl : old.length = 8) (h1 : ([v0, v1, v2, v3, v4, v5, v6, v7] : List Value).all Value.oneCell' = true) (hK : ∀ w', Blk w' b t [v0, v1, v2, v3, v4, v5, v6, v7] → Chg (fun k => k = b) w w' → K w') : stC ((⟨b, 0, none⟩ : Addr).add 0) v0 w fun w1 => stC ((⟨b, 0, none⟩ : Addr).add 1) v1 w1 fun w2 => stC ((⟨b, 0, none⟩ : Addr).add 2) v2 w2 fun w3 => stC ((⟨b, 0, none⟩ : Addr).add 3) v3 w3 fun w4 => stC ((⟨b, 0, none⟩ : Addr).add 4) v4 w4 fun w5 => stC ((⟨b, 0, none⟩ : Addr).add 5) v5 w5 fun w6 => stC ((⟨b, 0, none⟩ : Addr).add 6) v6 w6 fun w7 => stC ((⟨b, 0, none⟩ : Addr).add 7) v7 w7 fun w8 => K w8 := box_all h (by rw [hl]; rfl) (List.all_eq_true.1 h1) hK
theorem box9 {old : List Value} {v0 v1 v2 v3 v4 v5 v6 v7 v8 : Value} {K : World → Prop} (h : Blk w b t old) (hl : old.length = 9) (h1 : ([v0, v1, v2, v3, v4, v5, v6, v7, v8] : List Value).all Value.oneCell' = true) (hK : ∀ w', Blk w' b t [v0, v1, v2, v3, v4, v5, v6, v7, v8] → Chg (fun k => k = b) w w' → K w') : stC ((⟨b, 0, none⟩ : Addr).add 0) v0 w fun w1 => stC ((⟨b, 0, none⟩ : Addr).add 1) v1 w1 fun w2 => stC ((⟨b, 0, none⟩ : Addr).add 2) v2 w2 fun w3 => stC ((⟨b, 0, none⟩ : Addr).add 3) v3 w3 fun w4 => stC ((⟨b, 0, none⟩ : Addr).add 4) v4 w4 fun w5 => stC ((⟨b, 0, none⟩ : Addr).add 5) v5 w5 fun w6 => stC ((⟨b, 0, none⟩ : Addr).add 6) v6 w6 fun w7 => stC ((⟨b, 0, none⟩ : Addr).add 7) v7 w7 fun w8 => stC ((⟨b, 0, none⟩ : Addr).add 8) v8 w8 fun w9 => K w9 := box_all h (by rw [hl]; rfl) (List.all_eq_true.1 h1) hK
theorem box10 {old : List Value} {v0 v1 v2 v3 v4 v5 v6 v7 v8 v9 : Value} {K : World → Prop} (h : Blk w b t old) (hl : old.length = 10) (h1 : ([v0, v1, v2, v3, v4, v5, v6, v7, v8, v9] : List Value).all Value.oneCell' = true) (hK : ∀ w', Blk w' b t [v0, v1, v2, v3, v4, v5, v6, v7, v8, v9] → Chg (fun k => k = b) w w' → K w') : stC ((⟨b, 0, none⟩ : Addr).add 0) v0 w fun w1 => stC ((⟨b, 0, none⟩ : Addr).add 1) v1 w1 fun w2 => stC ((⟨b, 0, none⟩ : Addr).add 2) v2 w2 fun w3 => stC ((⟨b, 0, none⟩ : Addr).add 3) v3 w3 fun w4 => stC ((⟨b, 0, none⟩ : Addr).add 4) v4 w4 fun w5 => stC ((⟨b, 0, none⟩ : Addr).add 5) v5 w5 fun w6 => stC ((⟨b, 0, none⟩ : Addr).add 6) v6 w6 fun w7 => stC ((⟨b, 0, none⟩ : Addr).add 7) v7 w7 fun w8 => stC ((⟨b, 0, none⟩ : Addr).add 8) v8 w8 fun w9 => stC ((⟨b, 0, none⟩ : Addr).add 9) v9 w9 fun w10 => K w10 := box_all h (by rw [hl]; rfl) (List.all_eq_true.1 h1) hK
theorem box11 {old : List Value} {v0 v1 v2 v3 v4 v5 v6 v7 v8 v9 v10 : Value} {K : World → Prop} (h : Blk w b t old) (hl : old.length = 11) (h1 : ([v0, v1, v2, v3, v4, v5, v6, v7, v8, v9, v10] : List Value).all Value.oneCell' = true) (hK : ∀ w', Blk w' b t [v0, v1, v2, v3, v4, v5, v6, v7, v8, v9, v10] → Chg (fun k => k = b) w w' → K w') : stC ((⟨b, 0, none⟩ : Addr).add 0) v0 w fun w1 => stC ((⟨b, 0, none⟩ : Addr).add 1) v1 w1 fun w2 => stC ((⟨b, 0, none⟩ : Addr).add 2) v2 w2 fun w3 => stC ((⟨b, 0, none⟩ : Addr).add 3) v3 w3 fun w4 => stC ((⟨b, 0, none⟩ : Addr).add 4) v4 w4 fun w5 => stC ((⟨b, 0, none⟩ : Addr).add 5) v5 w5 fun w6 => stC ((⟨b, 0, none⟩ : Addr).add 6) v6 w6 fun w7 => stC ((⟨b, 0, none⟩ : Addr).add 7) v7 w7 fun w8 => stC ((⟨b, 0, none⟩ : Addr).add 8) v8 w8 fun w9 => stC ((⟨b, 0, none⟩ : Addr).add 9) v9 w9 fun w10 => stC ((⟨b, 0, none⟩ : Addr).add 10) v10 w10 fun w11 => K w11 := box_all h (by rw [hl]; rfl) (List.all_eq_true.1 h1) hK
theorem box12 {old : List Value} {v0 v1 v2 v3 v4 v5 v6 v7 v8 v9 v10 v11 : Value} {K : World → Prop} (h : Blk w b t old) (hl : old.length = 12) (h1 : ([v0, v1, v2, v3, v4, v5, v6, v7, v8, v9, v10, v11] : List Value).all Value.oneCell' = true) (hK : ∀ w', Blk w' b t [v0, v1, v2, v3, v4, v5, v6, v7, v8, v9, v10, v11] → Chg (fun k => k = b) w w' → K w') : stC ((⟨b, 0, none⟩ : Addr).add 0) v0 w fun w1 => stC ((⟨b, 0, none⟩ : Addr).add 1) v1 w1 fun w2 => stC ((⟨b, 0, none⟩ : Addr).add 2) v2 w2 fun w3 => stC ((⟨b, 0, none⟩ : Addr).add 3) v3 w3 fun w4 => stC ((⟨b, 0, none⟩ : Addr).add 4) v4 w4 fun w5 => stC ((⟨b, 0, none⟩ : Addr).add 5) v5 w5 fun w6 => stC ((⟨b, 0, none⟩ : Addr).add 6) v6 w6 fun w7 => stC ((⟨b, 0, none⟩ : Addr).add 7) v7 w7 fun w8 => stC ((⟨b, 0, none⟩ : Addr).add 8) v8 w8 fun w9 => stC ((⟨b, 0, none⟩ : Addr).add 9) v9 w9 fun w10 => stC ((⟨b, 0, none⟩ : Addr).add 10) v10 w10 fun w11 => stC ((⟨b, 0, none⟩ : Addr).add 11) v11 w11 fun w12 => K w12 := box_all h (by rw [hl]; rfl) (List.all_eq_true.1 h1) hK
/-- a box made and filled -/
theorem mkbox2 {v0 v1 z0 z1 : Value} {K : Addr → World → Prop} (h1 : ([v0, v1] : List Value).all Value.oneCell' = true) (hK : ∀ b w', Blk w' b t [v0, v1] → Chg None w w' → w.heap.size ≤ b → K ⟨b, 0, none⟩ w') : alC #[z0, z1] t w fun p w0 => Array.size (#[v0, v1] : Array Value) = 2 ∧ stC (p.add 0) v0 w0 fun w1 => stC (p.add 1) v1 w1 fun w2 => K p w2 := by
  refine alC_box fun b w' hb k hlt => ⟨rfl, box2 hb rfl h1 fun w2 hb2 k2 => ?_⟩
  exact hK b w2 hb2 (Chg.fresh k k2 fun x hx => by rw [hx]; exact hlt) hlt
/-- a box made and filled -/
theorem mkbox3 {v0 v1 v2 z0 z1 z2 : Value} {K : Addr → World → Prop} (h1 : ([v0, v1, v2] : List Value).all Value.oneCell' = true) (hK : ∀ b w', Blk w' b t [v0, v1, v2] → Chg None w w' → w.heap.size ≤ b → K ⟨b, 0, none⟩ w') : alC #[z0, z1, z2] t w fun p w0 => Array.size (#[v0, v1, v2] : Array Value) = 3 ∧ stC (p.add 0) v0 w0 fun w1 => stC (p.add 1) v1 w1 fun w2 => stC (p.add 2) v2 w2 fun w3 => K p w3 := by
  refine alC_box fun b w' hb k hlt => ⟨rfl, box3 hb rfl h1 fun w2 hb2 k2 => ?_⟩
  exact hK b w2 hb2 (Chg.fresh k k2 fun x hx => by rw [hx]; exact hlt) hlt
/-- a box made and filled -/
theorem mkbox4 {v0 v1 v2 v3 z0 z1 z2 z3 : Value} {K : Addr → World → Prop} (h1 : ([v0, v1, v2, v3] : List Value).all Value.oneCell' = true) (hK : ∀ b w', Blk w' b t [v0, v1, v2, v3] → Chg None w w' → w.heap.size ≤ b → K ⟨b, 0, none⟩ w') : alC #[z0, z1, z2, z3] t w fun p w0 => Array.size (#[v0, v1, v2, v3] : Array Value) = 4 ∧ stC (p.add 0) v0 w0 fun w1 => stC (p.add 1) v1 w1 fun w2 => stC (p.add 2) v2 w2 fun w3 => stC (p.add 3) v3 w3 fun w4 => K p w4 := by
  refine alC_box fun b w' hb k hlt => ⟨rfl, box4 hb rfl h1 fun w2 hb2 k2 => ?_⟩
  exact hK b w2 hb2 (Chg.fresh k k2 fun x hx => by rw [hx]; exact hlt) hlt
/-- a box made and filled -/
theorem mkbox5 {v0 v1 v2 v3 v4 z0 z1 z2 z3 z4 : Value} {K : Addr → World → Prop} (h1 : ([v0, v1, v2, v3, v4] : List Value).all Value.oneCell' = true) (hK : ∀ b w', Blk w' b t [v0, v1, v2, v3, v4] → Chg None w w' → w.heap.size ≤ b → K ⟨b, 0, none⟩ w') : alC #[z0, z1, z2, z3, z4] t w fun p w0 => Array.size (#[v0, v1, v2, v3, v4] : Array Value) = 5 ∧ stC (p.add 0) v0 w0 fun w1 => stC (p.add 1) v1 w1 fun w2 => stC (p.add 2) v2 w2 fun w3 => stC (p.add 3) v3 w3 fun w4 => stC (p.add 4) v4 w4 fun w5 => K p w5 := by
  refine alC_box fun b w' hb k hlt => ⟨rfl, box5 hb rfl h1 fun w2 hb2 k2 => ?_⟩
  exact hK b w2 hb2 (Chg.fresh k k2 fun x hx => by rw [hx]; exact hlt) hlt
/-- a box made and filled -/
theorem mkbox6 {v0 v1 v2 v3 v4 v5 z0 z1 z2 z3 z4 z5 : Value} {K : Addr → World → Prop} (h1 : ([v0, v1, v2, v3, v4, v5] : List Value).all Value.oneCell' = true) (hK : ∀ b w', Blk w' b t [v0, v1, v2, v3, v4, v5] → Chg None w w' → w.heap.size ≤ b → K ⟨b, 0, none⟩ w') : alC #[z0, z1, z2, z3, z4, z5] t w fun p w0 => Array.size (#[v0, v1, v2, v3, v4, v5] : Array Value) = 6 ∧ stC (p.add 0) v0 w0 fun w1 => stC (p.add 1) v1 w1 fun w2 => stC (p.add 2) v2 w2 fun w3 => stC (p.add 3) v3 w3 fun w4 => stC (p.add 4) v4 w4 fun w5 => stC (p.add 5) v5 w5 fun w6 => K p w6 := by
  refine alC_box fun b w' hb k hlt => ⟨rfl, box6 hb rfl h1 fun w2 hb2 k2 => ?_⟩
  exact hK b w2 hb2 (Chg.fresh k k2 fun x hx => by rw [hx]; exact hlt) hlt
/-- a box made and filled -/
theorem mkbox7 {v0 v1 v2 v3 v4 v5 v6 z0 z1 z2 z3 z4 z5 z6 : Value} {K : Addr → World → Prop} (h1 : ([v0, v1, v2, v3, v4, v5, v6] : List Value).all Value.oneCell' = true) (hK : ∀ b w', Blk w' b t [v0, v1, v2, v3, v4, v5, v6] → Chg None w w' → w.heap.size ≤ b → K ⟨b, 0, none⟩ w') : alC #[z0, z1, z2, z3, z4, z5, z6] t w fun p w0 => Array.size (#[v0, v1, v2, v3, v4, v5, v6] : Array Value) = 7 ∧ stC (p.add 0) v0 w0 fun w1 => stC (p.add 1) v1 w1 fun w2 => stC (p.add 2) v2 w2 fun w3 => stC (p.add 3) v3 w3 fun w4 => stC (p.add 4) v4 w4 fun w5 => stC (p.add 5) v5 w5 fun w6 => stC (p.add 6) v6 w6 fun w7 => K p w7 := by
  refine alC_box fun b w' hb k hlt => ⟨rfl, box7 hb rfl h1 fun w2 hb2 k2 => ?_⟩
  exact hK b w2 hb2 (Chg.fresh k k2 fun x hx => by rw [hx]; exact hlt) hlt
/-- a box made and filled -/
theorem mkbox8 {v0 v1 v2 v3 v4 v5 v6 v7 z0 z1 z2 z3 z4 z5 z6 z7 : Value} {K : Addr → World → Prop} (h1 : ([v0, v1, v2, v3, v4, v5, v6, v7] : List Value).all Value.oneCell' = true) (hK : ∀ b w', Blk w' b t [v0, v1, v2, v3, v4, v5, v6, v7] → Chg None w w' → w.heap.size ≤ b → K ⟨b, 0, none⟩ w') : alC #[z0, z1, z2, z3, z4, z5, z6, z7] t w fun p w0 => Array.size (#[v0, v1, v2, v3, v4, v5, v6, v7] : Array Value) = 8 ∧ stC (p.add 0) v0 w0 fun w1 => stC (p.add 1) v1 w1 fun w2 => stC (p.add 2) v2 w2 fun w3 => stC (p.add 3) v3 w3 fun w4 => stC (p.add 4) v4 w4 fun w5 => stC (p.add 5) v5 w5 fun w6 => stC (p.add 6) v6 w6 fun w7 => stC (p.add 7) v7 w7 fun w8 => K p w8 := by
  refine alC_box fun b w' hb k hlt => ⟨rfl, box8 hb rfl h1 fun w2 hb2 k2 => ?_⟩
  exact hK b w2 hb2 (Chg.fresh k k2 fun x hx => by rw [hx]; exact hlt) hlt
/-- a box made and filled -/
theorem mkbox9 {v0 v1 v2 v3 v4 v5 v6 v7 v8 z0 z1 z2 z3 z4 z5 z6 z7 z8 : Value} {K : Addr → World → Prop} (h1 : ([v0, v1, v2, v3, v4, v5, v6, v7, v8] : List Value).all Value.oneCell' = true) (hK : ∀ b w', Blk w' b t [v0, v1, v2, v3, v4, v5, v6, v7, v8] → Chg None w w' → w.heap.size ≤ b → K ⟨b, 0, none⟩ w') : alC #[z0, z1, z2, z3, z4, z5, z6, z7, z8] t w fun p w0 => Array.size (#[v0, v1, v2, v3, v4, v5, v6, v7, v8] : Array Value) = 9 ∧ stC (p.add 0) v0 w0 fun w1 => stC (p.add 1) v1 w1 fun w2 => stC (p.add 2) v2 w2 fun w3 => stC (p.add 3) v3 w3 fun w4 => stC (p.add 4) v4 w4 fun w5 => stC (p.add 5) v5 w5 fun w6 => stC (p.add 6) v6 w6 fun w7 => stC (p.add 7) v7 w7 fun w8 => stC (p.add 8) v8 w8 fun w9 => K p w9 := by
  refine alC_box fun b w' hb k hlt => ⟨rfl, box9 hb rfl h1 fun w2 hb2 k2 => ?_⟩
  exact hK b w2 hb2 (Chg.fresh k k2 fun x hx => by rw [hx]; exact hlt) hlt
/-- a box made and filled -/
theorem mkbox10 {v0 v1 v2 v3 v4 v5 v6 v7 v8 v9 z0 z1 z2 z3 z4 z5 z6 z7 z8 z9 : Value} {K : Addr → World → Prop} (h1 : ([v0, v1, v2, v3, v4, v5, v6, v7, v8, v9] : List Value).all Value.oneCell' = true) (hK : ∀ b w', Blk w' b t [v0, v1, v2, v3, v4, v5, v6, v7, v8, v9] → Chg None w w' → w.heap.size ≤ b → K ⟨b, 0, none⟩ w') : alC #[z0, z1, z2, z3, z4, z5, z6, z7, z8, z9] t w fun p w0 => Array.size (#[v0, v1, v2, v3, v4, v5, v6, v7, v8, v9] : Array Value) = 10 ∧ stC (p.add 0) v0 w0 fun w1 => stC (p.add 1) v1 w1 fun w2 => stC (p.add 2) v2 w2 fun w3 => stC (p.add 3) v3 w3 fun w4 => stC (p.add 4) v4 w4 fun w5 => stC (p.add 5) v5 w5 fun w6 => stC (p.add 6) v6 w6 fun w7 => stC (p.add 7) v7 w7 fun w8 => stC (p.add 8) v8 w8 fun w9 => stC (p.add 9) v9 w9 fun w10 => K p w10 := by
  refine alC_box fun b w' hb k hlt => ⟨rfl, box10 hb rfl h1 fun w2 hb2 k2 => ?_⟩
  exact hK b w2 hb2 (Chg.fresh k k2 fun x hx => by rw [hx]; exact hlt) hlt
/-- a box made and filled -/
theorem mkbox11 {v0 v1 v2 v3 v4 v5 v6 v7 v8 v9 v10 z0 z1 z2 z3 z4 z5 z6 z7 z8 z9 z10 : Value} {K : Addr → World → Prop} (h1 : ([v0, v1, v2, v3, v4, v5, v6, v7, v8, v9, v10] : List Value).all Value.oneCell' = true) (hK : ∀ b w', Blk w' b t [v0, v1, v2, v3, v4, v5, v6, v7, v8, v9, v10] → Chg None w w' → w.heap.size ≤ b → K ⟨b, 0, none⟩ w') : alC #[z0, z1, z2, z3, z4, z5, z6, z7, z8, z9, z10] t w fun p w0 => Array.size (#[v0, v1, v2, v3, v4, v5, v6, v7, v8, v9, v10] : Array Value) = 11 ∧ stC (p.add 0) v0 w0 fun w1 => stC (p.add 1) v1 w1 fun w2 => stC (p.add 2) v2 w2 fun w3 => stC (p.add 3) v3 w3 fun w4 => stC (p.add 4) v4 w4 fun w5 => stC (p.add 5) v5 w5 fun w6 => stC (p.add 6) v6 w6 fun w7 => stC (p.add 7) v7 w7 fun w8 => stC (p.add 8) v8 w8 fun w9 => stC (p.add 9) v9 w9 fun w10 => stC (p.add 10) v10 w10 fun w11 => K p w11 := by
  refine alC_box fun b w' hb k hlt => ⟨rfl, box11 hb rfl h1 fun w2 hb2 k2 => ?_⟩
  exact hK b w2 hb2 (Chg.fresh k k2 fun x hx => by rw [hx]; exact hlt) hlt
/-- a box made and filled -/
theorem mkbox12 {v0 v1 v2 v3 v4 v5 v6 v7 v8 v9 v10 v11 z0 z1 z2 z3 z4 z5 z6 z7 z8 z9 z10 z11 : Value} {K : Addr → World → Prop} (h1 : ([v0, v1, v2, v3, v4, v5, v6, v7, v8, v9, v10, v11] : List Value).all Value.oneCell' = true) (hK : ∀ b w', Blk w' b t [v0, v1, v2, v3, v4, v5, v6, v7, v8, v9, v10, v11] → Chg None w w' → w.heap.size ≤ b → K ⟨b, 0, none⟩ w') : alC #[z0, z1, z2, z3, z4, z5, z6, z7, z8, z9, z10, z11] t w fun p w0 => Array.size (#[v0, v1, v2, v3, v4, v5, v6, v7, v8, v9, v10, v11] : Array Value) = 12 ∧ stC (p.add 0) v0 w0 fun w1 => stC (p.add 1) v1 w1 fun w2 => stC (p.add 2) v2 w2 fun w3 => stC (p.add 3) v3 w3 fun w4 => stC (p.add 4) v4 w4 fun w5 => stC (p.add 5) v5 w5 fun w6 => stC (p.add 6) v6 w6 fun w7 => stC (p.add 7) v7 w7 fun w8 => stC (p.add 8) v8 w8 fun w9 => stC (p.add 9) v9 w9 fun w10 => stC (p.add 10) v10 w10 fun w11 => stC (p.add 11) v11 w11 fun w12 => K p w12 := by
  refine alC_box fun b w' hb k hlt => ⟨rfl, box12 hb rfl h1 fun w2 hb2 k2 => ?_⟩
  exact hK b w2 hb2 (Chg.fresh k k2 fun x hx => by rw [hx]; exact hlt) hlt
end
end Go.Sh
/-! ## ShL10 -/
namespace Go.Sh
open Go.ChangeShapes
variable {P : Program}
/-- field j of element i, written -/
theorem st_fld {w : World} {e sz n c : Nat} {a : Option Addr} {l : List Value} (h : Own w e sz a n c l) {i : Int} {j : Nat} (hi : i.toNat < n) (hj : j < sz) {v : Value} (hv : v.oneCell' = true) {K : World → Prop} (hK : ∀ w', Own w' e sz a n c (l.set (i.toNat * sz + j) v) → Chg (At a) w w' → K w') :
    opnA a fun ad => stC ((ad.add (Int.toNat i * sz)).add j) v w K := by
  have hl := h.len
  have hlt : i.toNat * sz + j < n * sz := by
    have : (i.toNat + 1) * sz ≤ n * sz := Nat.mul_le_mul_right _ hi
    rw [Nat.add_mul] at this; omega
  rcases h.row with ⟨rfl, h2, h3⟩ | ⟨b, rest, rfl, h2, h3, h4⟩
  · omega
  · simp only [opnA, add_add', Addr.add_lit, Nat.zero_add]
    refine h2.store (by rw [List.length_append]; omega) hv fun b1 k1 => hK _ ⟨by simp [hl], .inr ⟨b, rest, rfl, ?_, by simpa using h3, h4⟩⟩ (k1.mono fun k _ hk => ⟨_, rfl, hk.symm⟩)
    rw [List.set_append_left _ _ (by omega)] at b1; exact b1
theorem flat_set {α : Type} (enc : α → List Value) (sz : Nat) (hs : ∀ x, (enc x).length = sz) (done rest : List α) (x y : α) {j : Nat} {v : Value} (hj : j < sz) (hy : enc y = (enc x).set j v) : ((done ++ x :: rest).flatMap enc).set (done.length * sz + j) v = (done ++ y :: rest).flatMap enc := by
  rw [List.flatMap_append, List.flatMap_append, List.flatMap_cons, List.flatMap_cons, ← flat_len enc sz hs done, List.set_append_right _ _ (by omega), Nat.add_sub_cancel_left, List.set_append_left _ _ (by rw [hs]; exact hj), hy]
/-- A list of slices: of each its length and its cells. -/
def LL (w : World) (S : Nat → Prop) (a : Option Addr) (ls : List (Nat × List Value)) : Prop :=
  ∀ (j : Nat) (x : Nat × List Value), ls[j]? = some x → ∃ p q c, a = some p ∧ S p.block ∧ w.cell? (p.add j) = some (.slice q x.1 c) ∧ x.1 ≤ c ∧ Lies w S q x.2
theorem LL.chg {w w' : World} {S D : Nat → Prop} {a : Option Addr} {ls : List (Nat × List Value)} (h : LL w S a ls) (k : Chg D w w') (hd : ∀ x, x < w.heap.size → S x → ¬ D x) : LL w' S a ls := fun j r hj => by
  obtain ⟨p, q, c, h1, h2, h3, h4, h5⟩ := h j r hj
  refine ⟨p, q, c, h1, h2, ?_, h4, h5.chg k hd⟩
  have hb := World.block_lt_of_cell? _ _ h3
  rw [block_add] at hb
  rw [World.cell?_of_block (w := w) (by rw [block_add]; exact k.block _ hb (hd _ hb h2))]
  exact h3
theorem LL.chg0 {w w' : World} {S : Nat → Prop} {a : Option Addr} {ls : List (Nat × List Value)} (h : LL w S a ls) (k : Chg None w w') : LL w' S a ls := h.chg k fun _ _ _ h => h
theorem rd_ll {w : World} {S : Nat → Prop} {a : Option Addr} {ls : List (Nat × List Value)} (h : LL w S a ls) {i : Int} {x : Nat × List Value} (hx : ls[i.toNat]? = some x) {K : Option Addr → Nat → Nat → Prop} (hK : ∀ q c, x.1 ≤ c → Lies w S q x.2 → K q x.1 c) : opnA a fun ad => opnL (w.cell? (ad.add (Int.toNat i * 1))) K := by
  obtain ⟨p, q, c, rfl, _, h3, h4, h5⟩ := h _ _ hx
  simp only [opnA, Nat.mul_one, h3, opnL]
  exact hK q c h4 h5
/-- one more struct behind a list of one's own -/
theorem push_struct {t e sz by_ : Nat} (T : SlT P t e sz by_) {w0 w : World} {a : Option Addr} {n c : Nat} {l : List Value} (h : Own w e sz a n c l) (f : ∀ k, At a k → w0.heap.size ≤ k) (k0 : Chg None w0 w) {cs : Array Value} (hcs : cs.size = sz) (h1 : cs.toList.all Value.oneCell' = true) (hn : (n + 1) * by_ ≤ 140737488355328) (hn2 : n < 140737488355328) {K : Option Addr → Nat → Nat → World → Prop}
    (hK : ∀ a' c' w', Own w' e sz a' (n + 1) c' (l ++ cs.toList) → (∀ k, At a' k → w0.heap.size ≤ k) → Chg None w0 w' → K a' (n + 1) c' w') :
    alC cs e w fun p w5 => sem P (Builtin.append_ #[t, t] t #[.slice a n c, .slice (some p) 1 1]) w5 fun v6 w7 => opnL (some v6) fun x xn xc => K x xn xc w7 := by
  unfold alC
  have ka : Chg None w (w.alloc (.cells cs e)) := chg_alloc w _
  have hsrc : Src P sz t (.slice (some ⟨w.heap.size, 0, none⟩) 1 1) 1 cs.toList (w.alloc (.cells cs e)) := src_two (vs := cs.toList) (t := e) (w := w) T.ht (by simpa using hcs) (fun u hu => List.all_eq_true.1 h1 u hu)
  refine append_own T (w := w.alloc (.cells cs e)) (h.chg0 ka) hsrc (by simp only [maxLen]; omega) hn fun a' c' w2 o2 k2 f2 => ?_
  refine hK a' c' w2 o2 ?_ (Chg.fresh (k0.none_trans ka) k2 f)
  rcases f2 with rfl | ⟨b, rfl, hb⟩
  · exact f
  · rintro k ⟨p, hp, rfl⟩; cases hp; exact Nat.le_trans (k0.none_trans ka).size hb
end Go.Sh
