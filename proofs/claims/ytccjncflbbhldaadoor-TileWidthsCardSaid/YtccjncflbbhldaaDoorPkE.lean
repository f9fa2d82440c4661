/- ShGr1, PlPlace, ShGr0, PlOf -/
import Derived.Test.YtccjncflbbhldaaDoorPkA
import Derived.Test.YtccjncflbbhldaaDoorPkD
/-! ## ShGr1 -/
set_option maxRecDepth 100000
namespace Go.Proofs.YtccjncflbbhldaaDoor
open Go.Sh
/-! ### ledger/tile.topOf -/
noncomputable def B_tile_topOf : Code := match Tryd.f56.body with | some c => c | _ => .skip
noncomputable def X_tile_topOf : Cx := { P := PP, fn := 56, N := 18, tab := tab, results := [.tmp 2], iter := fun _ => (.none, .none), dyn := fun _ => false, live := fun _ => none }
theorem K_tile_topOf : OkF X_tile_topOf B_tile_topOf Tryd.f56 := ⟨⟨tab_ok, mix_ok⟩, Tryd.func56, by kernel_rfl, by kernel_rfl, by kernel_rfl, by kernel_rfl⟩
theorem C_tile_topOf_eq (Q : Value → World → Prop) (a0_0 : Int) (a0_1 : Int) (a0_2 : Int) (a0_3 : Int) (a0_4 : Bool) (w : World) (h :
  alC #[.int .i64 a0_0, .int .i64 a0_1, .int .i64 a0_2, .int .i64 a0_3, .bool a0_4] 24 w fun p1 w2 =>
  opnI .i64 (w2.cell? (p1.add 0)) fun x3 =>
  opnI .i64 (w2.cell? (p1.add 1)) fun x4 =>
  opnI .i64 (w2.cell? (p1.add 2)) fun x5 =>
  C_tlog_Index #[.int .i64 (IntKind.wrap .i64 (x3 * (IntKind.wrap .i64 (x4 + 1)))), .int .i64 x5] w2 fun v6 w7 =>
  opnT (some v6) fun x8 =>
  x8.size = 2 ∧
  opnI .i64 (x8[0]?) fun x9 =>
  opnI .i64 (x8[1]?) fun x10 =>
  Q (.int .i64 x9) w7) :
C_tile_topOf #[.agg #[.int .i64 a0_0, .int .i64 a0_1, .int .i64 a0_2, .int .i64 a0_3, .bool a0_4]] w Q := C_fold K_tile_topOf (by kernel_rfl) h
/-! ### ledger/ledgerlaw10.heavy -/
noncomputable def B_l10_heavy : Code := match Tryd.f57.body with | some c => c | _ => .skip
noncomputable def X_l10_heavy : Cx := { P := PP, fn := 57, N := 31, tab := tab, results := [.tmp 4, .tmp 5], iter := fun _ => (.none, .none), dyn := fun _ => false, live := fun r => cond (Nat.beq r 3) (some [0, 1, 6, 7]) (none) }
theorem K_l10_heavy : OkF X_l10_heavy B_l10_heavy Tryd.f57 := ⟨⟨tab_ok, mix_ok⟩, Tryd.func57, by kernel_rfl, by kernel_rfl, by kernel_rfl, by kernel_rfl⟩
noncomputable def N_l10_heavy.j3 (Q : Value → World → Prop) (s0 : Int) (s1 : Int) (s6 : Int) (s7 : Int) (w : World) : Prop := Nd X_l10_heavy Q [(0, 0, .int .i64 s0), (1, 1, .int .i64 s1), (6, 6, .int .i64 s6), (7, 7, .int .i64 s7)] [.code (B_l10_heavy.r.r.r.l.l.l.l.l.l.l.l), .code (B_l10_heavy.r.r.r.l.l.l.l.l.l.l.r), .code (B_l10_heavy.r.r.r.l.l.l.l.l.l.r), .inLoop (B_l10_heavy.r.r.r.l.l.l.l.l.l), .inBlock 2, .code (B_l10_heavy.r.r.r.l.l.l.r), .inBlock 1, .inLoop (B_l10_heavy.r.r.r.l.l), .inBlock 0] w
theorem N_l10_heavy.j3_eq (Q : Value → World → Prop) (s0 : Int) (s1 : Int) (s6 : Int) (s7 : Int) (w : World) (h :
  nn (IntKind.wrap .u64 s7) (
  cond (decide ((IntKind.wrap .i64 (s6 + (shlI .i64 1 (IntKind.wrap .u64 s7)))) > s0))
  (N_l10_heavy.j3 Q s0 s1 s6 (IntKind.wrap .i64 (s7 - 1)) w)
  (nn (IntKind.wrap .u64 s7) (
  cond (decide (s1 < (IntKind.wrap .i64 (s6 + (shlI .i64 1 (IntKind.wrap .u64 s7))))))
  (Q (.tuple #[.int .i64 s6, .int .i64 s7]) w)
  (nn (IntKind.wrap .u64 s7) (
  N_l10_heavy.j3 Q s0 s1 (IntKind.wrap .i64 (s6 + (shlI .i64 1 (IntKind.wrap .u64 s7)))) s7 w)))))) :
N_l10_heavy.j3 Q s0 s1 s6 s7 w := Nd_fold K_l10_heavy (by kernel_rfl) h
theorem C_l10_heavy_eq (Q : Value → World → Prop) (a0 : Int) (a1 : Int) (w : World) (h :
  N_l10_heavy.j3 Q a0 a1 0 8 w) :
C_l10_heavy #[.int .i64 a0, .int .i64 a1] w Q := C_fold K_l10_heavy (by kernel_rfl) h
/-! ### ledger/ledgerlaw10.up -/
noncomputable def B_l10_up : Code := match Tryd.f58.body with | some c => c | _ => .skip
noncomputable def X_l10_up : Cx := { P := PP, fn := 58, N := 52, tab := tab, results := [.cell 8 29], iter := fun _ => (.none, .none), dyn := fun _ => false, live := fun r => cond (Nat.beq r 4) (some [1, 2, 8, 9, 10]) (none) }
theorem K_l10_up : OkF X_l10_up B_l10_up Tryd.f58 := ⟨⟨tab_ok, mix_ok⟩, Tryd.func58, by kernel_rfl, by kernel_rfl, by kernel_rfl, by kernel_rfl⟩
noncomputable def N_l10_up.j4 (Q : Value → World → Prop) (s1 : Option Addr) (s1n : Nat) (s1c : Nat) (s2 : Int) (s8 : Addr) (s9 : Addr) (s10 : Int) (w : World) : Prop := Nd X_l10_up Q [(1, 1, .slice s1 s1n s1c), (2, 2, .int .i64 s2), (8, 8, .pointer (some s8)), (9, 9, .pointer (some s9)), (10, 10, .int .i64 s10)] [.code (B_l10_up.r.l.r.l.r.l.r.l.l.l.l), .code (B_l10_up.r.l.r.l.r.l.r.l.l.l.r), .code (B_l10_up.r.l.r.l.r.l.r.l.l.r), .inLoop (B_l10_up.r.l.r.l.r.l.r.l.l), .inBlock 0, .code (B_l10_up.r.l.r.l.r.r), .code (B_l10_up.r.r)] w
theorem N_l10_up.j4_eq (Q : Value → World → Prop) (s1 : Option Addr) (s1n : Nat) (s1c : Nat) (s2 : Int) (s8 : Addr) (s9 : Addr) (s10 : Int) (w : World) (h :
  cond (decide (s10 < 32))
  ((0 : Int) ≤ IntKind.wrap .i64 ((IntKind.wrap .i64 (32 * s2)) + s10) ∧
  (IntKind.wrap .i64 ((IntKind.wrap .i64 (32 * s2)) + s10)) < ((s1n : Nat) : Int) ∧
  opnA s1 fun ad1 =>
  opnI .u8 (w.cell? (ad1.add (Int.toNat (IntKind.wrap .i64 ((IntKind.wrap .i64 (32 * s2)) + s10)) * 1))) fun x2 =>
  (0 : Int) ≤ s10 ∧
  s10 < ((32 : Nat) : Int) ∧
  stC (s9.add (Int.toNat s10 * 1)) (.int .u8 x2) w fun w3 =>
  N_l10_up.j4 Q s1 s1n s1c s2 s8 s9 (IntKind.wrap .i64 (s10 + 1)) w3)
  (opnRow w s9 (32 * 1) fun x4 =>
  stRow s8 x4 (32 * 1) w fun w5 =>
  opnRow w5 s8 (32 * 1) fun x6 =>
  Q (.agg x6) w5)) :
N_l10_up.j4 Q s1 s1n s1c s2 s8 s9 s10 w := Nd_fold K_l10_up (by kernel_rfl) h
theorem C_l10_up_eq (Q : Value → World → Prop) (a0 : Int) (a1 : Option Addr) (a1n : Nat) (a1c : Nat) (a2 : Int) (a3 : Int) (w : World) (h :
  alZ PP 29 w fun p1 w2 =>
  cond (a3 == 0)
  (alZ PP 29 w2 fun p3 w4 =>
  N_l10_up.j4 Q a1 a1n a1c a2 p1 p3 0 w4)
  (nn (IntKind.wrap .u64 (IntKind.wrap .i64 (a3 - 1))) (
  C_l10_up #[.int .i64 a0, .slice a1 a1n a1c, .int .i64 a2, .int .i64 (IntKind.wrap .i64 (a3 - 1))] w2 fun v5 w6 =>
  opnG (some v5) fun x7 =>
  alZ PP 29 w6 fun p8 w9 =>
  stRow p8 x7 (32 * 1) w9 fun w10 =>
  C_l10_up #[.int .i64 a0, .slice a1 a1n a1c, .int .i64 (IntKind.wrap .i64 (a2 + (shlI .i64 1 (IntKind.wrap .u64 (IntKind.wrap .i64 (a3 - 1)))))), .int .i64 (IntKind.wrap .i64 (a3 - 1))] w10 fun v11 w12 =>
  opnG (some v11) fun x13 =>
  alZ PP 29 w12 fun p14 w15 =>
  stRow p14 x13 (32 * 1) w15 fun w16 =>
  opnRow w16 p8 (32 * 1) fun x17 =>
  opnRow w16 p14 (32 * 1) fun x18 =>
  C_tlog_NodeHash #[.int .i64 a0, .agg x17, .agg x18] w16 fun v19 w20 =>
  opnG (some v19) fun x21 =>
  stRow p1 x21 (32 * 1) w20 fun w22 =>
  opnRow w22 p1 (32 * 1) fun x23 =>
  Q (.agg x23) w22))) :
C_l10_up #[.int .i64 a0, .slice a1 a1n a1c, .int .i64 a2, .int .i64 a3] w Q := C_fold K_l10_up (by kernel_rfl) h
/-! ### ledger/tlog.Count -/
noncomputable def B_tlog_Count : Code := match Tryd.f86.body with | some c => c | _ => .skip
noncomputable def X_tlog_Count : Cx := { P := PP, fn := 86, N := 12, tab := tab, results := [.tmp 2, .tmp 3], iter := fun _ => (.none, .none), dyn := fun _ => false, live := fun r => cond (Nat.beq r 2) (some []) (none) }
theorem K_tlog_Count : OkF X_tlog_Count B_tlog_Count Tryd.f86 := ⟨⟨tab_ok, mix_ok⟩, Tryd.func86, by kernel_rfl, by kernel_rfl, by kernel_rfl, by kernel_rfl⟩
noncomputable def N_tlog_Count.j2 (Q : Value → World → Prop) (w : World) : Prop := Nd X_tlog_Count Q [] [.code (B_tlog_Count.r.l.r.l.l), .code (B_tlog_Count.r.l.r.l.r), .code (B_tlog_Count.r.r)] w
theorem N_tlog_Count.j2_eq (Q : Value → World → Prop) (w : World) (h :
  Q (.tuple #[.int .i64 0, .int .i64 1]) w) :
N_tlog_Count.j2 Q w := Nd_fold K_tlog_Count (by kernel_rfl) h
theorem C_tlog_Count_eq (Q : Value → World → Prop) (a0 : Int) (w : World) (h :
  cond (decide (a0 < 0))
  (N_tlog_Count.j2 Q w)
  (cond (decide (a0 > 281474976710656))
  (N_tlog_Count.j2 Q w)
  (C_tlog_count #[.int .i64 a0] w fun v1 w2 =>
  opnI .i64 (some v1) fun x3 =>
  Q (.tuple #[.int .i64 x3, .int .i64 0]) w2))) :
C_tlog_Count #[.int .i64 a0] w Q := C_fold K_tlog_Count (by kernel_rfl) h
/-! ### ledger/tile.need -/
noncomputable def B_tile_need : Code := match Tryd.f87.body with | some c => c | _ => .skip
noncomputable def X_tile_need : Cx := { P := PP, fn := 87, N := 44, tab := tab, results := [], iter := fun _ => (.none, .none), dyn := fun _ => false, live := fun r => cond (Nat.beq r 0) (some [0, 1, 2, 3]) (cond (Nat.beq r 3) (some [0, 1, 2, 10, 23, 24]) (none)) }
theorem K_tile_need : OkF X_tile_need B_tile_need Tryd.f87 := ⟨⟨tab_ok, mix_ok⟩, Tryd.func87, by kernel_rfl, by kernel_rfl, by kernel_rfl, by kernel_rfl⟩
noncomputable def N_tile_need.j0 (Q : Value → World → Prop) (s0 : Option Nat) (s1 : Int) (s2 : Int) (s3 : Int) (w : World) : Prop := Nd X_tile_need Q [(0, 0, .map s0), (1, 1, .int .i64 s1), (2, 2, .int .i64 s2), (3, 3, .int .i64 s3)] [.code (B_tile_need.l.r.l.l.l.l), .code (B_tile_need.l.r.l.l.l.r), .inBlock 1, .inLoop (B_tile_need.l.r.l.l), .inBlock 0, .inScope (B_tile_need.l)] w
noncomputable def N_tile_need.j3 (Q : Value → World → Prop) (s0 : Option Nat) (s1 : Int) (s2 : Int) (s10 : Addr) (s23 : Int) (s24 : Int) (w : World) : Prop := Nd X_tile_need Q [(0, 0, .map s0), (1, 1, .int .i64 s1), (2, 2, .int .i64 s2), (10, 10, .pointer (some s10)), (23, 23, .int .i64 s23), (24, 24, .int .i64 s24)] [.code (B_tile_need.l.r.l.l.l.r.r.l.r.l.l.l), .code (B_tile_need.l.r.l.l.l.r.r.l.r.l.l.r), .inLoop (B_tile_need.l.r.l.l.l.r.r.l.r.l.l), .inBlock 2, .code (B_tile_need.l.r.l.l.l.r.r.r), .inBlock 1, .inLoop (B_tile_need.l.r.l.l), .inBlock 0, .inScope (B_tile_need.l)] w
theorem N_tile_need.j0_eq (Q : Value → World → Prop) (s0 : Option Nat) (s1 : Int) (s2 : Int) (s3 : Int) (w : World) (h :
  C_tile_seatOf #[.int .i64 s1, .int .i64 s3] w fun v1 w2 =>
  opnT (some v1) fun x3 =>
  x3.size = 2 ∧
  opnG (x3[0]?) fun x4 =>
  x4.size = 7 ∧
  opnI .i64 (x4[0]?) fun x5 =>
  opnI .i64 (x4[1]?) fun x6 =>
  opnI .i64 (x4[2]?) fun x7 =>
  opnI .i64 (x4[3]?) fun x8 =>
  opnB (x4[4]?) fun x9 =>
  opnI .i64 (x4[5]?) fun x10 =>
  opnI .i64 (x4[6]?) fun x11 =>
  opnB (x3[1]?) fun x12 =>
  alC #[.int .i64 0, .int .i64 0, .int .i64 0, .int .i64 0, .bool false, .int .i64 0, .int .i64 0] 90 w2 fun p13 w14 =>
  Array.size (#[.int .i64 x5, .int .i64 x6, .int .i64 x7, .int .i64 x8, .bool x9, .int .i64 x10, .int .i64 x11] : Array Value) = 7 ∧
  stC (p13.add 0) (.int .i64 x5) w14 fun w15 =>
  stC (p13.add 1) (.int .i64 x6) w15 fun w16 =>
  stC (p13.add 2) (.int .i64 x7) w16 fun w17 =>
  stC (p13.add 3) (.int .i64 x8) w17 fun w18 =>
  stC (p13.add 4) (.bool x9) w18 fun w19 =>
  stC (p13.add 5) (.int .i64 x10) w19 fun w20 =>
  stC (p13.add 6) (.int .i64 x11) w20 fun w21 =>
  opnI .i64 (w21.cell? ((p13.add 0).add 0)) fun x22 =>
  opnI .i64 (w21.cell? ((p13.add 0).add 1)) fun x23 =>
  opnI .i64 (w21.cell? ((p13.add 0).add 2)) fun x24 =>
  opnI .i64 (w21.cell? ((p13.add 0).add 3)) fun x25 =>
  opnB (w21.cell? ((p13.add 0).add 4)) fun x26 =>
  C_tile_wide #[.agg #[.int .i64 x22, .int .i64 x23, .int .i64 x24, .int .i64 x25, .bool x26], .int .i64 s2] w21 fun v27 w28 =>
  opnG (some v27) fun x29 =>
  x29.size = 5 ∧
  opnI .i64 (x29[0]?) fun x30 =>
  opnI .i64 (x29[1]?) fun x31 =>
  opnI .i64 (x29[2]?) fun x32 =>
  opnI .i64 (x29[3]?) fun x33 =>
  opnB (x29[4]?) fun x34 =>
  alC #[.int .i64 0, .int .i64 0, .int .i64 0, .int .i64 0, .bool false] 24 w28 fun p35 w36 =>
  Array.size (#[.int .i64 x30, .int .i64 x31, .int .i64 x32, .int .i64 x33, .bool x34] : Array Value) = 5 ∧
  stC (p35.add 0) (.int .i64 x30) w36 fun w37 =>
  stC (p35.add 1) (.int .i64 x31) w37 fun w38 =>
  stC (p35.add 2) (.int .i64 x32) w38 fun w39 =>
  stC (p35.add 3) (.int .i64 x33) w39 fun w40 =>
  stC (p35.add 4) (.bool x34) w40 fun w41 =>
  opnI .i64 (w41.cell? (p35.add 0)) fun x42 =>
  opnI .i64 (w41.cell? (p35.add 1)) fun x43 =>
  opnI .i64 (w41.cell? (p35.add 2)) fun x44 =>
  opnI .i64 (w41.cell? (p35.add 3)) fun x45 =>
  opnB (w41.cell? (p35.add 4)) fun x46 =>
  semR PP (Instr.lookup 103 (.map s0) (.agg #[.int .i64 x42, .int .i64 x43, .int .i64 x44, .int .i64 x45, .bool x46]) false) w41 fun x47 =>
  opnI .i64 (some x47) fun x48 =>
  N_tile_need.j3 Q s0 s1 s2 p35 x48 0 w41) :
N_tile_need.j0 Q s0 s1 s2 s3 w := Nd_fold K_tile_need (by kernel_rfl) h
theorem N_tile_need.j3_eq (Q : Value → World → Prop) (s0 : Option Nat) (s1 : Int) (s2 : Int) (s10 : Addr) (s23 : Int) (s24 : Int) (w : World) (h :
  cond (decide (s24 < s23))
  (Q (.tuple #[]) w)
  (opnI .i64 (w.cell? (s10.add 0)) fun x1 =>
  opnI .i64 (w.cell? (s10.add 1)) fun x2 =>
  opnI .i64 (w.cell? (s10.add 2)) fun x3 =>
  opnI .i64 (w.cell? (s10.add 3)) fun x4 =>
  opnB (w.cell? (s10.add 4)) fun x5 =>
  semU PP (Instr.mapUpdate 103 (.map s0) (.agg #[.int .i64 x1, .int .i64 x2, .int .i64 x3, .int .i64 x4, .bool x5]) (.int .i64 1)) w fun w6 =>
  drw w6 fun w7 =>
  opnI .i64 (w7.cell? (s10.add 3)) fun x8 =>
  C_tile_full #[.int .i64 s1] w7 fun v9 w10 =>
  opnI .i64 (some v9) fun x11 =>
  (opnI .i64 (w10.cell? (s10.add 3)) fun x12 =>
  ((.int .i64 x12) : Value) = .int .i64 x8) ∧
  cond (decide (x8 < x11))
  (Q (.tuple #[]) w10)
  (opnI .i64 (w10.cell? (s10.add 1)) fun x13 =>
  cond (decide ((IntKind.wrap .i64 (s1 * (IntKind.wrap .i64 (x13 + 1)))) > 48))
  (Q (.tuple #[]) w10)
  (opnI .i64 (w10.cell? (s10.add 0)) fun x14 =>
  opnI .i64 (w10.cell? (s10.add 1)) fun x15 =>
  opnI .i64 (w10.cell? (s10.add 2)) fun x16 =>
  opnI .i64 (w10.cell? (s10.add 3)) fun x17 =>
  opnB (w10.cell? (s10.add 4)) fun x18 =>
  C_tile_topOf #[.agg #[.int .i64 x14, .int .i64 x15, .int .i64 x16, .int .i64 x17, .bool x18]] w10 fun v19 w20 =>
  opnI .i64 (some v19) fun x21 =>
  N_tile_need.j0 Q s0 s1 s2 x21 w20)))) :
N_tile_need.j3 Q s0 s1 s2 s10 s23 s24 w := Nd_fold K_tile_need (by kernel_rfl) h
theorem C_tile_need_eq (Q : Value → World → Prop) (a0 : Option Nat) (a1 : Int) (a2 : Int) (a3 : Int) (w : World) (h :
  N_tile_need.j0 Q a0 a1 a2 a3 w) :
C_tile_need #[.map a0, .int .i64 a1, .int .i64 a2, .int .i64 a3] w Q := C_fold K_tile_need (by kernel_rfl) h
/-! ### slices.SortFunc[[]ledger/tile.Tile,ledger/tile.Tile] -/
noncomputable def B_slices_SortFunc_tile_Tile_tile_Tile : Code := match Tryd.f88.body with | some c => c | _ => .skip
noncomputable def X_slices_SortFunc_tile_Tile_tile_Tile : Cx := { P := PP, fn := 88, N := 14, tab := tab, results := [], iter := fun _ => (.none, .none), dyn := fun _ => false, live := fun _ => none }
theorem K_slices_SortFunc_tile_Tile_tile_Tile : OkF X_slices_SortFunc_tile_Tile_tile_Tile B_slices_SortFunc_tile_Tile_tile_Tile Tryd.f88 := ⟨⟨tab_ok, mix_ok⟩, Tryd.func88, by kernel_rfl, by kernel_rfl, by kernel_rfl, by kernel_rfl⟩
theorem C_slices_SortFunc_tile_Tile_tile_Tile_eq (Q : Value → World → Prop) (a0 : Option Addr) (a0n : Nat) (a0c : Nat) (a1 : Value) (w : World) (h :
  C_math_bits_Len #[.int .u64 (IntKind.wrap .u64 ((a0n : Nat) : Int))] w fun v1 w2 =>
  opnI .i64 (some v1) fun x3 =>
  C_slices_pdqsortCmpFunc_tile_Tile #[.slice a0 a0n a0c, .int .i64 0, .int .i64 ((a0n : Nat) : Int), .int .i64 x3, a1] w2 fun v4 w5 =>
  opnT (some v4) fun x6 =>
  x6.size = 0 ∧
  Q (.tuple #[]) w5) :
C_slices_SortFunc_tile_Tile_tile_Tile #[.slice a0 a0n a0c, a1] w Q := C_fold K_slices_SortFunc_tile_Tile_tile_Tile (by kernel_rfl) h
/-! ### ledger/tile.wide -/
noncomputable def B_tile_wide : Code := match Tryd.f93.body with | some c => c | _ => .skip
noncomputable def X_tile_wide : Cx := { P := PP, fn := 93, N := 15, tab := tab, results := [.cell 4 24], iter := fun _ => (.none, .none), dyn := fun _ => false, live := fun _ => none }
theorem K_tile_wide : OkF X_tile_wide B_tile_wide Tryd.f93 := ⟨⟨tab_ok, mix_ok⟩, Tryd.func93, by kernel_rfl, by kernel_rfl, by kernel_rfl, by kernel_rfl⟩
theorem C_tile_wide_eq (Q : Value → World → Prop) (a0_0 : Int) (a0_1 : Int) (a0_2 : Int) (a0_3 : Int) (a0_4 : Bool) (a1 : Int) (w : World) (h :
  alC #[.int .i64 a0_0, .int .i64 a0_1, .int .i64 a0_2, .int .i64 a0_3, .bool a0_4] 24 w fun p1 w2 =>
  alC #[.int .i64 0, .int .i64 0, .int .i64 0, .int .i64 0, .bool false] 24 w2 fun p3 w4 =>
  opnI .i64 (w4.cell? (p1.add 0)) fun x5 =>
  opnI .i64 (w4.cell? (p1.add 1)) fun x6 =>
  opnI .i64 (w4.cell? (p1.add 2)) fun x7 =>
  C_tile_widthOf #[.int .i64 x5, .int .i64 x6, .int .i64 x7, .int .i64 a1] w4 fun v8 w9 =>
  opnI .i64 (some v8) fun x10 =>
  stC (p1.add 3) (.int .i64 x10) w9 fun w11 =>
  opnI .i64 (w11.cell? (p1.add 0)) fun x12 =>
  opnI .i64 (w11.cell? (p1.add 1)) fun x13 =>
  opnI .i64 (w11.cell? (p1.add 2)) fun x14 =>
  opnI .i64 (w11.cell? (p1.add 3)) fun x15 =>
  opnB (w11.cell? (p1.add 4)) fun x16 =>
  Array.size (#[.int .i64 x12, .int .i64 x13, .int .i64 x14, .int .i64 x15, .bool x16] : Array Value) = 5 ∧
  stC (p3.add 0) (.int .i64 x12) w11 fun w17 =>
  stC (p3.add 1) (.int .i64 x13) w17 fun w18 =>
  stC (p3.add 2) (.int .i64 x14) w18 fun w19 =>
  stC (p3.add 3) (.int .i64 x15) w19 fun w20 =>
  stC (p3.add 4) (.bool x16) w20 fun w21 =>
  opnI .i64 (w21.cell? (p3.add 0)) fun x22 =>
  opnI .i64 (w21.cell? (p3.add 1)) fun x23 =>
  opnI .i64 (w21.cell? (p3.add 2)) fun x24 =>
  opnI .i64 (w21.cell? (p3.add 3)) fun x25 =>
  opnB (w21.cell? (p3.add 4)) fun x26 =>
  Q (.agg #[.int .i64 x22, .int .i64 x23, .int .i64 x24, .int .i64 x25, .bool x26]) w21) :
C_tile_wide #[.agg #[.int .i64 a0_0, .int .i64 a0_1, .int .i64 a0_2, .int .i64 a0_3, .bool a0_4], .int .i64 a1] w Q := C_fold K_tile_wide (by kernel_rfl) h
/-! ### slices.pdqsortCmpFunc[ledger/tile.Tile] -/
noncomputable def B_slices_pdqsortCmpFunc_tile_Tile : Code := match Tryd.f113.body with | some c => c | _ => .skip
noncomputable def X_slices_pdqsortCmpFunc_tile_Tile : Cx := { P := PP, fn := 113, N := 148, tab := tab, results := [], iter := fun _ => (.none, .none), dyn := fun r => cond (Nat.beq r 84) true (false), live := fun r => cond (Nat.beq r 2) (some [0, 1, 2, 3, 4, 10, 11]) (cond (Nat.beq r 10) (some [0, 1, 2, 3, 4, 10, 11, 12]) (cond (Nat.beq r 11) (some [0, 1, 2, 3, 4, 10, 11, 12, 13, 14]) (cond (Nat.beq r 12) (some [0, 1, 2, 3, 4, 10, 11, 12, 13]) (cond (Nat.beq r 13) (some [0, 1, 2, 3, 4, 10, 11, 12, 13]) (cond (Nat.beq r 14) (some [0, 1, 2, 3, 4, 10, 11, 12, 13]) (cond (Nat.beq r 15) (some [0, 1, 2, 3, 4, 10, 11, 12, 13, 14]) (cond (Nat.beq r 16) (some [0, 1, 2, 3, 4, 10, 11, 12, 13]) (cond (Nat.beq r 17) (some [0, 1, 2, 3, 4, 10, 11, 12, 13]) (cond (Nat.beq r 18) (some [0, 1, 2, 3, 4, 10, 11, 13]) (cond (Nat.beq r 19) (some [0, 2, 3, 4, 10, 11, 15]) (cond (Nat.beq r 20) (some [0, 1, 2, 3, 4, 12, 13]) (cond (Nat.beq r 21) (some [0, 1, 2, 3, 4, 12, 16, 17]) (cond (Nat.beq r 22) (some [0, 1, 2, 3, 4, 11, 12, 16]) (cond (Nat.beq r 23) (some [0, 1, 2, 3, 4, 11, 12, 16, 18, 19]) (cond (Nat.beq r 24) (some [0, 1, 2, 3, 4, 11, 16, 18, 19, 20]) (cond (Nat.beq r 25) (some [0, 1, 2, 3, 4, 11, 16, 18, 20]) (cond (Nat.beq r 26) (some [0, 1, 2, 3, 4, 10, 11, 16]) (cond (Nat.beq r 27) (some [0, 2, 3, 4, 10, 11, 16]) (cond (Nat.beq r 28) (some [0, 1, 2, 3, 4, 11, 16, 19, 20]) (cond (Nat.beq r 29) (some [0, 1, 2, 3, 4, 10, 11, 16]) (cond (Nat.beq r 30) (some [0, 1, 3, 4, 10, 11, 16]) (none)))))))))))))))))))))) }
theorem K_slices_pdqsortCmpFunc_tile_Tile : OkF X_slices_pdqsortCmpFunc_tile_Tile B_slices_pdqsortCmpFunc_tile_Tile Tryd.f113 := ⟨⟨tab_ok, mix_ok⟩, Tryd.func113, by kernel_rfl, by kernel_rfl, by kernel_rfl, by kernel_rfl⟩
noncomputable def N_slices_pdqsortCmpFunc_tile_Tile.j2 (Q : Value → World → Prop) (s0 : Option Addr) (s0n : Nat) (s0c : Nat) (s1 : Int) (s2 : Int) (s3 : Int) (s4 : Value) (s10 : Bool) (s11 : Bool) (w : World) : Prop := Nd X_slices_pdqsortCmpFunc_tile_Tile Q [(0, 0, .slice s0 s0n s0c), (1, 1, .int .i64 s1), (2, 2, .int .i64 s2), (3, 3, .int .i64 s3), (4, 4, s4), (10, 10, .bool s10), (11, 11, .bool s11)] [.code (B_slices_pdqsortCmpFunc_tile_Tile.r.r.l.l.l.l), .code (B_slices_pdqsortCmpFunc_tile_Tile.r.r.l.l.l.r), .inBlock 1, .inLoop (B_slices_pdqsortCmpFunc_tile_Tile.r.r.l.l), .inBlock 0] w
noncomputable def N_slices_pdqsortCmpFunc_tile_Tile.j10 (Q : Value → World → Prop) (s0 : Option Addr) (s0n : Nat) (s0c : Nat) (s1 : Int) (s2 : Int) (s3 : Int) (s4 : Value) (s10 : Bool) (s11 : Bool) (s12 : Int) (w : World) : Prop := Nd X_slices_pdqsortCmpFunc_tile_Tile Q [(0, 0, .slice s0 s0n s0c), (1, 1, .int .i64 s1), (2, 2, .int .i64 s2), (3, 3, .int .i64 s3), (4, 4, s4), (10, 10, .bool s10), (11, 11, .bool s11), (12, 12, .int .i64 s12)] [.code (B_slices_pdqsortCmpFunc_tile_Tile.r.r.l.l.l.r.r.r.r.l), .code (B_slices_pdqsortCmpFunc_tile_Tile.r.r.l.l.l.r.r.r.r.r), .inBlock 1, .inLoop (B_slices_pdqsortCmpFunc_tile_Tile.r.r.l.l), .inBlock 0] w
noncomputable def N_slices_pdqsortCmpFunc_tile_Tile.j11 (Q : Value → World → Prop) (s0 : Option Addr) (s0n : Nat) (s0c : Nat) (s1 : Int) (s2 : Int) (s3 : Int) (s4 : Value) (s10 : Bool) (s11 : Bool) (s12 : Int) (s13 : Int) (s14 : Int) (w : World) : Prop := Nd X_slices_pdqsortCmpFunc_tile_Tile Q [(0, 0, .slice s0 s0n s0c), (1, 1, .int .i64 s1), (2, 2, .int .i64 s2), (3, 3, .int .i64 s3), (4, 4, s4), (10, 10, .bool s10), (11, 11, .bool s11), (12, 12, .int .i64 s12), (13, 13, .int .i64 s13), (14, 14, .int .i64 s14)] [.code (B_slices_pdqsortCmpFunc_tile_Tile.r.r.l.l.l.r.r.r.r.r.l.l), .code (B_slices_pdqsortCmpFunc_tile_Tile.r.r.l.l.l.r.r.r.r.r.l.r), .code (B_slices_pdqsortCmpFunc_tile_Tile.r.r.l.l.l.r.r.r.r.r.r), .inBlock 1, .inLoop (B_slices_pdqsortCmpFunc_tile_Tile.r.r.l.l), .inBlock 0] w
noncomputable def N_slices_pdqsortCmpFunc_tile_Tile.j12 (Q : Value → World → Prop) (s0 : Option Addr) (s0n : Nat) (s0c : Nat) (s1 : Int) (s2 : Int) (s3 : Int) (s4 : Value) (s10 : Bool) (s11 : Bool) (s12 : Int) (s13 : Int) (w : World) : Prop := Nd X_slices_pdqsortCmpFunc_tile_Tile Q [(0, 0, .slice s0 s0n s0c), (1, 1, .int .i64 s1), (2, 2, .int .i64 s2), (3, 3, .int .i64 s3), (4, 4, s4), (10, 10, .bool s10), (11, 11, .bool s11), (12, 12, .int .i64 s12), (13, 13, .int .i64 s13)] [.code (B_slices_pdqsortCmpFunc_tile_Tile.r.r.l.l.l.r.r.r.r.r.l.r.l.l), .code (B_slices_pdqsortCmpFunc_tile_Tile.r.r.l.l.l.r.r.r.r.r.l.r.l.r), .code (B_slices_pdqsortCmpFunc_tile_Tile.r.r.l.l.l.r.r.r.r.r.r), .inBlock 1, .inLoop (B_slices_pdqsortCmpFunc_tile_Tile.r.r.l.l), .inBlock 0] w
noncomputable def N_slices_pdqsortCmpFunc_tile_Tile.j13 (Q : Value → World → Prop) (s0 : Option Addr) (s0n : Nat) (s0c : Nat) (s1 : Int) (s2 : Int) (s3 : Int) (s4 : Value) (s10 : Bool) (s11 : Bool) (s12 : Int) (s13 : Int) (w : World) : Prop := Nd X_slices_pdqsortCmpFunc_tile_Tile Q [(0, 0, .slice s0 s0n s0c), (1, 1, .int .i64 s1), (2, 2, .int .i64 s2), (3, 3, .int .i64 s3), (4, 4, s4), (10, 10, .bool s10), (11, 11, .bool s11), (12, 12, .int .i64 s12), (13, 13, .int .i64 s13)] [.code (B_slices_pdqsortCmpFunc_tile_Tile.r.r.l.l.l.r.r.r.r.r.l.r.l.r.l), .code (B_slices_pdqsortCmpFunc_tile_Tile.r.r.l.l.l.r.r.r.r.r.l.r.l.r.r), .code (B_slices_pdqsortCmpFunc_tile_Tile.r.r.l.l.l.r.r.r.r.r.r), .inBlock 1, .inLoop (B_slices_pdqsortCmpFunc_tile_Tile.r.r.l.l), .inBlock 0] w
noncomputable def N_slices_pdqsortCmpFunc_tile_Tile.j14 (Q : Value → World → Prop) (s0 : Option Addr) (s0n : Nat) (s0c : Nat) (s1 : Int) (s2 : Int) (s3 : Int) (s4 : Value) (s10 : Bool) (s11 : Bool) (s12 : Int) (s13 : Int) (w : World) : Prop := Nd X_slices_pdqsortCmpFunc_tile_Tile Q [(0, 0, .slice s0 s0n s0c), (1, 1, .int .i64 s1), (2, 2, .int .i64 s2), (3, 3, .int .i64 s3), (4, 4, s4), (10, 10, .bool s10), (11, 11, .bool s11), (12, 12, .int .i64 s12), (13, 13, .int .i64 s13)] [.code (B_slices_pdqsortCmpFunc_tile_Tile.r.r.l.l.l.r.r.r.r.r.l.r.l.r.r), .code (B_slices_pdqsortCmpFunc_tile_Tile.r.r.l.l.l.r.r.r.r.r.r), .inBlock 1, .inLoop (B_slices_pdqsortCmpFunc_tile_Tile.r.r.l.l), .inBlock 0] w
noncomputable def N_slices_pdqsortCmpFunc_tile_Tile.j15 (Q : Value → World → Prop) (s0 : Option Addr) (s0n : Nat) (s0c : Nat) (s1 : Int) (s2 : Int) (s3 : Int) (s4 : Value) (s10 : Bool) (s11 : Bool) (s12 : Int) (s13 : Int) (s14 : Int) (w : World) : Prop := Nd X_slices_pdqsortCmpFunc_tile_Tile Q [(0, 0, .slice s0 s0n s0c), (1, 1, .int .i64 s1), (2, 2, .int .i64 s2), (3, 3, .int .i64 s3), (4, 4, s4), (10, 10, .bool s10), (11, 11, .bool s11), (12, 12, .int .i64 s12), (13, 13, .int .i64 s13), (14, 14, .int .i64 s14)] [.code (B_slices_pdqsortCmpFunc_tile_Tile.r.r.l.l.l.r.r.r.r.r.r.l.l), .code (B_slices_pdqsortCmpFunc_tile_Tile.r.r.l.l.l.r.r.r.r.r.r.l.r), .code (B_slices_pdqsortCmpFunc_tile_Tile.r.r.l.l.l.r.r.r.r.r.r.r), .inBlock 1, .inLoop (B_slices_pdqsortCmpFunc_tile_Tile.r.r.l.l), .inBlock 0] w
noncomputable def N_slices_pdqsortCmpFunc_tile_Tile.j16 (Q : Value → World → Prop) (s0 : Option Addr) (s0n : Nat) (s0c : Nat) (s1 : Int) (s2 : Int) (s3 : Int) (s4 : Value) (s10 : Bool) (s11 : Bool) (s12 : Int) (s13 : Int) (w : World) : Prop := Nd X_slices_pdqsortCmpFunc_tile_Tile Q [(0, 0, .slice s0 s0n s0c), (1, 1, .int .i64 s1), (2, 2, .int .i64 s2), (3, 3, .int .i64 s3), (4, 4, s4), (10, 10, .bool s10), (11, 11, .bool s11), (12, 12, .int .i64 s12), (13, 13, .int .i64 s13)] [.code (B_slices_pdqsortCmpFunc_tile_Tile.r.r.l.l.l.r.r.r.r.r.r.l.r.l.l), .code (B_slices_pdqsortCmpFunc_tile_Tile.r.r.l.l.l.r.r.r.r.r.r.l.r.l.r), .code (B_slices_pdqsortCmpFunc_tile_Tile.r.r.l.l.l.r.r.r.r.r.r.r), .inBlock 1, .inLoop (B_slices_pdqsortCmpFunc_tile_Tile.r.r.l.l), .inBlock 0] w
noncomputable def N_slices_pdqsortCmpFunc_tile_Tile.j17 (Q : Value → World → Prop) (s0 : Option Addr) (s0n : Nat) (s0c : Nat) (s1 : Int) (s2 : Int) (s3 : Int) (s4 : Value) (s10 : Bool) (s11 : Bool) (s12 : Int) (s13 : Int) (w : World) : Prop := Nd X_slices_pdqsortCmpFunc_tile_Tile Q [(0, 0, .slice s0 s0n s0c), (1, 1, .int .i64 s1), (2, 2, .int .i64 s2), (3, 3, .int .i64 s3), (4, 4, s4), (10, 10, .bool s10), (11, 11, .bool s11), (12, 12, .int .i64 s12), (13, 13, .int .i64 s13)] [.code (B_slices_pdqsortCmpFunc_tile_Tile.r.r.l.l.l.r.r.r.r.r.r.r.l.l), .code (B_slices_pdqsortCmpFunc_tile_Tile.r.r.l.l.l.r.r.r.r.r.r.r.l.r), .code (B_slices_pdqsortCmpFunc_tile_Tile.r.r.l.l.l.r.r.r.r.r.r.r.r), .inBlock 1, .inLoop (B_slices_pdqsortCmpFunc_tile_Tile.r.r.l.l), .inBlock 0] w
noncomputable def N_slices_pdqsortCmpFunc_tile_Tile.j18 (Q : Value → World → Prop) (s0 : Option Addr) (s0n : Nat) (s0c : Nat) (s1 : Int) (s2 : Int) (s3 : Int) (s4 : Value) (s10 : Bool) (s11 : Bool) (s13 : Int) (w : World) : Prop := Nd X_slices_pdqsortCmpFunc_tile_Tile Q [(0, 0, .slice s0 s0n s0c), (1, 1, .int .i64 s1), (2, 2, .int .i64 s2), (3, 3, .int .i64 s3), (4, 4, s4), (10, 10, .bool s10), (11, 11, .bool s11), (13, 13, .int .i64 s13)] [.code (B_slices_pdqsortCmpFunc_tile_Tile.r.r.l.l.l.r.r.r.r.r.r.r.l.r.l.l), .code (B_slices_pdqsortCmpFunc_tile_Tile.r.r.l.l.l.r.r.r.r.r.r.r.l.r.l.r), .code (B_slices_pdqsortCmpFunc_tile_Tile.r.r.l.l.l.r.r.r.r.r.r.r.r), .inBlock 1, .inLoop (B_slices_pdqsortCmpFunc_tile_Tile.r.r.l.l), .inBlock 0] w
noncomputable def N_slices_pdqsortCmpFunc_tile_Tile.j19 (Q : Value → World → Prop) (s0 : Option Addr) (s0n : Nat) (s0c : Nat) (s2 : Int) (s3 : Int) (s4 : Value) (s10 : Bool) (s11 : Bool) (s15 : Int) (w : World) : Prop := Nd X_slices_pdqsortCmpFunc_tile_Tile Q [(0, 0, .slice s0 s0n s0c), (2, 2, .int .i64 s2), (3, 3, .int .i64 s3), (4, 4, s4), (10, 10, .bool s10), (11, 11, .bool s11), (15, 15, .int .i64 s15)] [.code (B_slices_pdqsortCmpFunc_tile_Tile.r.r.l.l.l.r.r.r.r.r.r.r.l.r.l.r.l), .code (B_slices_pdqsortCmpFunc_tile_Tile.r.r.l.l.l.r.r.r.r.r.r.r.l.r.l.r.r), .code (B_slices_pdqsortCmpFunc_tile_Tile.r.r.l.l.l.r.r.r.r.r.r.r.r), .inBlock 1, .inLoop (B_slices_pdqsortCmpFunc_tile_Tile.r.r.l.l), .inBlock 0] w
noncomputable def N_slices_pdqsortCmpFunc_tile_Tile.j20 (Q : Value → World → Prop) (s0 : Option Addr) (s0n : Nat) (s0c : Nat) (s1 : Int) (s2 : Int) (s3 : Int) (s4 : Value) (s12 : Int) (s13 : Int) (w : World) : Prop := Nd X_slices_pdqsortCmpFunc_tile_Tile Q [(0, 0, .slice s0 s0n s0c), (1, 1, .int .i64 s1), (2, 2, .int .i64 s2), (3, 3, .int .i64 s3), (4, 4, s4), (12, 12, .int .i64 s12), (13, 13, .int .i64 s13)] [.code (B_slices_pdqsortCmpFunc_tile_Tile.r.r.l.l.l.r.r.r.r.r.r.r.r.l), .code (B_slices_pdqsortCmpFunc_tile_Tile.r.r.l.l.l.r.r.r.r.r.r.r.r.r), .inBlock 1, .inLoop (B_slices_pdqsortCmpFunc_tile_Tile.r.r.l.l), .inBlock 0] w
noncomputable def N_slices_pdqsortCmpFunc_tile_Tile.j21 (Q : Value → World → Prop) (s0 : Option Addr) (s0n : Nat) (s0c : Nat) (s1 : Int) (s2 : Int) (s3 : Int) (s4 : Value) (s12 : Int) (s16 : Int) (s17 : Bool) (w : World) : Prop := Nd X_slices_pdqsortCmpFunc_tile_Tile Q [(0, 0, .slice s0 s0n s0c), (1, 1, .int .i64 s1), (2, 2, .int .i64 s2), (3, 3, .int .i64 s3), (4, 4, s4), (12, 12, .int .i64 s12), (16, 16, .int .i64 s16), (17, 17, .bool s17)] [.code (B_slices_pdqsortCmpFunc_tile_Tile.r.r.l.l.l.r.r.r.r.r.r.r.r.r.l), .code (B_slices_pdqsortCmpFunc_tile_Tile.r.r.l.l.l.r.r.r.r.r.r.r.r.r.r), .inBlock 1, .inLoop (B_slices_pdqsortCmpFunc_tile_Tile.r.r.l.l), .inBlock 0] w
noncomputable def N_slices_pdqsortCmpFunc_tile_Tile.j22 (Q : Value → World → Prop) (s0 : Option Addr) (s0n : Nat) (s0c : Nat) (s1 : Int) (s2 : Int) (s3 : Int) (s4 : Value) (s11 : Bool) (s12 : Int) (s16 : Int) (w : World) : Prop := Nd X_slices_pdqsortCmpFunc_tile_Tile Q [(0, 0, .slice s0 s0n s0c), (1, 1, .int .i64 s1), (2, 2, .int .i64 s2), (3, 3, .int .i64 s3), (4, 4, s4), (11, 11, .bool s11), (12, 12, .int .i64 s12), (16, 16, .int .i64 s16)] [.code (B_slices_pdqsortCmpFunc_tile_Tile.r.r.l.l.l.r.r.r.r.r.r.r.r.r.r.l), .code (B_slices_pdqsortCmpFunc_tile_Tile.r.r.l.l.l.r.r.r.r.r.r.r.r.r.r.r), .inBlock 1, .inLoop (B_slices_pdqsortCmpFunc_tile_Tile.r.r.l.l), .inBlock 0] w
noncomputable def N_slices_pdqsortCmpFunc_tile_Tile.j23 (Q : Value → World → Prop) (s0 : Option Addr) (s0n : Nat) (s0c : Nat) (s1 : Int) (s2 : Int) (s3 : Int) (s4 : Value) (s11 : Bool) (s12 : Int) (s16 : Int) (s18 : Int) (s19 : Int) (w : World) : Prop := Nd X_slices_pdqsortCmpFunc_tile_Tile Q [(0, 0, .slice s0 s0n s0c), (1, 1, .int .i64 s1), (2, 2, .int .i64 s2), (3, 3, .int .i64 s3), (4, 4, s4), (11, 11, .bool s11), (12, 12, .int .i64 s12), (16, 16, .int .i64 s16), (18, 18, .int .i64 s18), (19, 19, .int .i64 s19)] [.code (B_slices_pdqsortCmpFunc_tile_Tile.r.r.l.l.l.r.r.r.r.r.r.r.r.r.r.r.l), .code (B_slices_pdqsortCmpFunc_tile_Tile.r.r.l.l.l.r.r.r.r.r.r.r.r.r.r.r.r), .inBlock 1, .inLoop (B_slices_pdqsortCmpFunc_tile_Tile.r.r.l.l), .inBlock 0] w
noncomputable def N_slices_pdqsortCmpFunc_tile_Tile.j24 (Q : Value → World → Prop) (s0 : Option Addr) (s0n : Nat) (s0c : Nat) (s1 : Int) (s2 : Int) (s3 : Int) (s4 : Value) (s11 : Bool) (s16 : Int) (s18 : Int) (s19 : Int) (s20 : Int) (w : World) : Prop := Nd X_slices_pdqsortCmpFunc_tile_Tile Q [(0, 0, .slice s0 s0n s0c), (1, 1, .int .i64 s1), (2, 2, .int .i64 s2), (3, 3, .int .i64 s3), (4, 4, s4), (11, 11, .bool s11), (16, 16, .int .i64 s16), (18, 18, .int .i64 s18), (19, 19, .int .i64 s19), (20, 20, .int .i64 s20)] [.code (B_slices_pdqsortCmpFunc_tile_Tile.r.r.l.l.l.r.r.r.r.r.r.r.r.r.r.r.r.l), .code (B_slices_pdqsortCmpFunc_tile_Tile.r.r.l.l.l.r.r.r.r.r.r.r.r.r.r.r.r.r), .inBlock 1, .inLoop (B_slices_pdqsortCmpFunc_tile_Tile.r.r.l.l), .inBlock 0] w
noncomputable def N_slices_pdqsortCmpFunc_tile_Tile.j25 (Q : Value → World → Prop) (s0 : Option Addr) (s0n : Nat) (s0c : Nat) (s1 : Int) (s2 : Int) (s3 : Int) (s4 : Value) (s11 : Bool) (s16 : Int) (s18 : Int) (s20 : Int) (w : World) : Prop := Nd X_slices_pdqsortCmpFunc_tile_Tile Q [(0, 0, .slice s0 s0n s0c), (1, 1, .int .i64 s1), (2, 2, .int .i64 s2), (3, 3, .int .i64 s3), (4, 4, s4), (11, 11, .bool s11), (16, 16, .int .i64 s16), (18, 18, .int .i64 s18), (20, 20, .int .i64 s20)] [.code (B_slices_pdqsortCmpFunc_tile_Tile.r.r.l.l.l.r.r.r.r.r.r.r.r.r.r.r.r.r.l.l), .code (B_slices_pdqsortCmpFunc_tile_Tile.r.r.l.l.l.r.r.r.r.r.r.r.r.r.r.r.r.r.l.r), .inBlock 1, .inLoop (B_slices_pdqsortCmpFunc_tile_Tile.r.r.l.l), .inBlock 0] w
noncomputable def N_slices_pdqsortCmpFunc_tile_Tile.j26 (Q : Value → World → Prop) (s0 : Option Addr) (s0n : Nat) (s0c : Nat) (s1 : Int) (s2 : Int) (s3 : Int) (s4 : Value) (s10 : Bool) (s11 : Bool) (s16 : Int) (w : World) : Prop := Nd X_slices_pdqsortCmpFunc_tile_Tile Q [(0, 0, .slice s0 s0n s0c), (1, 1, .int .i64 s1), (2, 2, .int .i64 s2), (3, 3, .int .i64 s3), (4, 4, s4), (10, 10, .bool s10), (11, 11, .bool s11), (16, 16, .int .i64 s16)] [.code (B_slices_pdqsortCmpFunc_tile_Tile.r.r.l.l.l.r.r.r.r.r.r.r.r.r.r.r.r.r.l.r.l), .code (B_slices_pdqsortCmpFunc_tile_Tile.r.r.l.l.l.r.r.r.r.r.r.r.r.r.r.r.r.r.l.r.r), .inBlock 1, .inLoop (B_slices_pdqsortCmpFunc_tile_Tile.r.r.l.l), .inBlock 0] w
noncomputable def N_slices_pdqsortCmpFunc_tile_Tile.j27 (Q : Value → World → Prop) (s0 : Option Addr) (s0n : Nat) (s0c : Nat) (s2 : Int) (s3 : Int) (s4 : Value) (s10 : Bool) (s11 : Bool) (s16 : Int) (w : World) : Prop := Nd X_slices_pdqsortCmpFunc_tile_Tile Q [(0, 0, .slice s0 s0n s0c), (2, 2, .int .i64 s2), (3, 3, .int .i64 s3), (4, 4, s4), (10, 10, .bool s10), (11, 11, .bool s11), (16, 16, .int .i64 s16)] [.code (B_slices_pdqsortCmpFunc_tile_Tile.r.r.l.l.l.r.r.r.r.r.r.r.r.r.r.r.r.r.l.r.r), .inBlock 1, .inLoop (B_slices_pdqsortCmpFunc_tile_Tile.r.r.l.l), .inBlock 0] w
noncomputable def N_slices_pdqsortCmpFunc_tile_Tile.j28 (Q : Value → World → Prop) (s0 : Option Addr) (s0n : Nat) (s0c : Nat) (s1 : Int) (s2 : Int) (s3 : Int) (s4 : Value) (s11 : Bool) (s16 : Int) (s19 : Int) (s20 : Int) (w : World) : Prop := Nd X_slices_pdqsortCmpFunc_tile_Tile Q [(0, 0, .slice s0 s0n s0c), (1, 1, .int .i64 s1), (2, 2, .int .i64 s2), (3, 3, .int .i64 s3), (4, 4, s4), (11, 11, .bool s11), (16, 16, .int .i64 s16), (19, 19, .int .i64 s19), (20, 20, .int .i64 s20)] [.code (B_slices_pdqsortCmpFunc_tile_Tile.r.r.l.l.l.r.r.r.r.r.r.r.r.r.r.r.r.r.r.l), .code (B_slices_pdqsortCmpFunc_tile_Tile.r.r.l.l.l.r.r.r.r.r.r.r.r.r.r.r.r.r.r.r), .inBlock 1, .inLoop (B_slices_pdqsortCmpFunc_tile_Tile.r.r.l.l), .inBlock 0] w
noncomputable def N_slices_pdqsortCmpFunc_tile_Tile.j29 (Q : Value → World → Prop) (s0 : Option Addr) (s0n : Nat) (s0c : Nat) (s1 : Int) (s2 : Int) (s3 : Int) (s4 : Value) (s10 : Bool) (s11 : Bool) (s16 : Int) (w : World) : Prop := Nd X_slices_pdqsortCmpFunc_tile_Tile Q [(0, 0, .slice s0 s0n s0c), (1, 1, .int .i64 s1), (2, 2, .int .i64 s2), (3, 3, .int .i64 s3), (4, 4, s4), (10, 10, .bool s10), (11, 11, .bool s11), (16, 16, .int .i64 s16)] [.code (B_slices_pdqsortCmpFunc_tile_Tile.r.r.l.l.l.r.r.r.r.r.r.r.r.r.r.r.r.r.r.r.l), .code (B_slices_pdqsortCmpFunc_tile_Tile.r.r.l.l.l.r.r.r.r.r.r.r.r.r.r.r.r.r.r.r.r), .inBlock 1, .inLoop (B_slices_pdqsortCmpFunc_tile_Tile.r.r.l.l), .inBlock 0] w
noncomputable def N_slices_pdqsortCmpFunc_tile_Tile.j30 (Q : Value → World → Prop) (s0 : Option Addr) (s0n : Nat) (s0c : Nat) (s1 : Int) (s3 : Int) (s4 : Value) (s10 : Bool) (s11 : Bool) (s16 : Int) (w : World) : Prop := Nd X_slices_pdqsortCmpFunc_tile_Tile Q [(0, 0, .slice s0 s0n s0c), (1, 1, .int .i64 s1), (3, 3, .int .i64 s3), (4, 4, s4), (10, 10, .bool s10), (11, 11, .bool s11), (16, 16, .int .i64 s16)] [.code (B_slices_pdqsortCmpFunc_tile_Tile.r.r.l.l.l.r.r.r.r.r.r.r.r.r.r.r.r.r.r.r.r), .inBlock 1, .inLoop (B_slices_pdqsortCmpFunc_tile_Tile.r.r.l.l), .inBlock 0] w
theorem N_slices_pdqsortCmpFunc_tile_Tile.j2_eq (Q : Value → World → Prop) (s0 : Option Addr) (s0n : Nat) (s0c : Nat) (s1 : Int) (s2 : Int) (s3 : Int) (s4 : Value) (s10 : Bool) (s11 : Bool) (w : World) (h :
  cond (decide ((IntKind.wrap .i64 (s2 - s1)) ≤ 12))
  (C_slices_insertionSortCmpFunc_tile_Tile #[.slice s0 s0n s0c, .int .i64 s1, .int .i64 s2, s4] w fun v1 w2 =>
  opnT (some v1) fun x3 =>
  x3.size = 0 ∧
  Q (.tuple #[]) w2)
  (cond (s3 == 0)
  (C_slices_heapSortCmpFunc_tile_Tile #[.slice s0 s0n s0c, .int .i64 s1, .int .i64 s2, s4] w fun v4 w5 =>
  opnT (some v4) fun x6 =>
  x6.size = 0 ∧
  Q (.tuple #[]) w5)
  (cond (!s10)
  (C_slices_breakPatternsCmpFunc_tile_Tile #[.slice s0 s0n s0c, .int .i64 s1, .int .i64 s2, s4] w fun v7 w8 =>
  opnT (some v7) fun x9 =>
  x9.size = 0 ∧
  N_slices_pdqsortCmpFunc_tile_Tile.j10 Q s0 s0n s0c s1 s2 (IntKind.wrap .i64 (s3 - 1)) s4 s10 s11 (IntKind.wrap .i64 (s2 - s1)) w8)
  (N_slices_pdqsortCmpFunc_tile_Tile.j10 Q s0 s0n s0c s1 s2 s3 s4 s10 s11 (IntKind.wrap .i64 (s2 - s1)) w)))) :
N_slices_pdqsortCmpFunc_tile_Tile.j2 Q s0 s0n s0c s1 s2 s3 s4 s10 s11 w := Nd_fold K_slices_pdqsortCmpFunc_tile_Tile (by kernel_rfl) h
theorem N_slices_pdqsortCmpFunc_tile_Tile.j10_eq (Q : Value → World → Prop) (s0 : Option Addr) (s0n : Nat) (s0c : Nat) (s1 : Int) (s2 : Int) (s3 : Int) (s4 : Value) (s10 : Bool) (s11 : Bool) (s12 : Int) (w : World) (h :
  C_slices_choosePivotCmpFunc_tile_Tile #[.slice s0 s0n s0c, .int .i64 s1, .int .i64 s2, s4] w fun v1 w2 =>
  opnT (some v1) fun x3 =>
  x3.size = 2 ∧
  opnI .i64 (x3[0]?) fun x4 =>
  opnI .i64 (x3[1]?) fun x5 =>
  N_slices_pdqsortCmpFunc_tile_Tile.j11 Q s0 s0n s0c s1 s2 s3 s4 s10 s11 s12 x4 x5 w2) :
N_slices_pdqsortCmpFunc_tile_Tile.j10 Q s0 s0n s0c s1 s2 s3 s4 s10 s11 s12 w := Nd_fold K_slices_pdqsortCmpFunc_tile_Tile (by kernel_rfl) h
theorem N_slices_pdqsortCmpFunc_tile_Tile.j11_eq (Q : Value → World → Prop) (s0 : Option Addr) (s0n : Nat) (s0c : Nat) (s1 : Int) (s2 : Int) (s3 : Int) (s4 : Value) (s10 : Bool) (s11 : Bool) (s12 : Int) (s13 : Int) (s14 : Int) (w : World) (h :
  cond (s14 == 2)
  (N_slices_pdqsortCmpFunc_tile_Tile.j12 Q s0 s0n s0c s1 s2 s3 s4 s10 s11 s12 s13 w)
  (N_slices_pdqsortCmpFunc_tile_Tile.j15 Q s0 s0n s0c s1 s2 s3 s4 s10 s11 s12 s13 s14 w)) :
N_slices_pdqsortCmpFunc_tile_Tile.j11 Q s0 s0n s0c s1 s2 s3 s4 s10 s11 s12 s13 s14 w := Nd_fold K_slices_pdqsortCmpFunc_tile_Tile (by kernel_rfl) h
theorem N_slices_pdqsortCmpFunc_tile_Tile.j12_eq (Q : Value → World → Prop) (s0 : Option Addr) (s0n : Nat) (s0c : Nat) (s1 : Int) (s2 : Int) (s3 : Int) (s4 : Value) (s10 : Bool) (s11 : Bool) (s12 : Int) (s13 : Int) (w : World) (h :
  C_slices_reverseRangeCmpFunc_tile_Tile #[.slice s0 s0n s0c, .int .i64 s1, .int .i64 s2, s4] w fun v1 w2 =>
  opnT (some v1) fun x3 =>
  x3.size = 0 ∧
  N_slices_pdqsortCmpFunc_tile_Tile.j13 Q s0 s0n s0c s1 s2 s3 s4 s10 s11 s12 s13 w2) :
N_slices_pdqsortCmpFunc_tile_Tile.j12 Q s0 s0n s0c s1 s2 s3 s4 s10 s11 s12 s13 w := Nd_fold K_slices_pdqsortCmpFunc_tile_Tile (by kernel_rfl) h
theorem N_slices_pdqsortCmpFunc_tile_Tile.j13_eq (Q : Value → World → Prop) (s0 : Option Addr) (s0n : Nat) (s0c : Nat) (s1 : Int) (s2 : Int) (s3 : Int) (s4 : Value) (s10 : Bool) (s11 : Bool) (s12 : Int) (s13 : Int) (w : World) (h :
  N_slices_pdqsortCmpFunc_tile_Tile.j14 Q s0 s0n s0c s1 s2 s3 s4 s10 s11 s12 (IntKind.wrap .i64 ((IntKind.wrap .i64 (s2 - 1)) - (IntKind.wrap .i64 (s13 - s1)))) w) :
N_slices_pdqsortCmpFunc_tile_Tile.j13 Q s0 s0n s0c s1 s2 s3 s4 s10 s11 s12 s13 w := Nd_fold K_slices_pdqsortCmpFunc_tile_Tile (by kernel_rfl) h
theorem N_slices_pdqsortCmpFunc_tile_Tile.j14_eq (Q : Value → World → Prop) (s0 : Option Addr) (s0n : Nat) (s0c : Nat) (s1 : Int) (s2 : Int) (s3 : Int) (s4 : Value) (s10 : Bool) (s11 : Bool) (s12 : Int) (s13 : Int) (w : World) (h :
  N_slices_pdqsortCmpFunc_tile_Tile.j15 Q s0 s0n s0c s1 s2 s3 s4 s10 s11 s12 s13 1 w) :
N_slices_pdqsortCmpFunc_tile_Tile.j14 Q s0 s0n s0c s1 s2 s3 s4 s10 s11 s12 s13 w := Nd_fold K_slices_pdqsortCmpFunc_tile_Tile (by kernel_rfl) h
theorem N_slices_pdqsortCmpFunc_tile_Tile.j15_eq (Q : Value → World → Prop) (s0 : Option Addr) (s0n : Nat) (s0c : Nat) (s1 : Int) (s2 : Int) (s3 : Int) (s4 : Value) (s10 : Bool) (s11 : Bool) (s12 : Int) (s13 : Int) (s14 : Int) (w : World) (h :
  cond s10
  (cond s11
  (cond (s14 == 1)
  (N_slices_pdqsortCmpFunc_tile_Tile.j16 Q s0 s0n s0c s1 s2 s3 s4 true s11 s12 s13 w)
  (N_slices_pdqsortCmpFunc_tile_Tile.j17 Q s0 s0n s0c s1 s2 s3 s4 true s11 s12 s13 w))
  (N_slices_pdqsortCmpFunc_tile_Tile.j17 Q s0 s0n s0c s1 s2 s3 s4 true s11 s12 s13 w))
  (N_slices_pdqsortCmpFunc_tile_Tile.j17 Q s0 s0n s0c s1 s2 s3 s4 false s11 s12 s13 w)) :
N_slices_pdqsortCmpFunc_tile_Tile.j15 Q s0 s0n s0c s1 s2 s3 s4 s10 s11 s12 s13 s14 w := Nd_fold K_slices_pdqsortCmpFunc_tile_Tile (by kernel_rfl) h
theorem N_slices_pdqsortCmpFunc_tile_Tile.j16_eq (Q : Value → World → Prop) (s0 : Option Addr) (s0n : Nat) (s0c : Nat) (s1 : Int) (s2 : Int) (s3 : Int) (s4 : Value) (s10 : Bool) (s11 : Bool) (s12 : Int) (s13 : Int) (w : World) (h :
  C_slices_partialInsertionSortCmpFunc_tile_Tile #[.slice s0 s0n s0c, .int .i64 s1, .int .i64 s2, s4] w fun v1 w2 =>
  opnB (some v1) fun x3 =>
  cond x3
  (Q (.tuple #[]) w2)
  (N_slices_pdqsortCmpFunc_tile_Tile.j17 Q s0 s0n s0c s1 s2 s3 s4 s10 s11 s12 s13 w2)) :
N_slices_pdqsortCmpFunc_tile_Tile.j16 Q s0 s0n s0c s1 s2 s3 s4 s10 s11 s12 s13 w := Nd_fold K_slices_pdqsortCmpFunc_tile_Tile (by kernel_rfl) h
theorem N_slices_pdqsortCmpFunc_tile_Tile.j17_eq (Q : Value → World → Prop) (s0 : Option Addr) (s0n : Nat) (s0c : Nat) (s1 : Int) (s2 : Int) (s3 : Int) (s4 : Value) (s10 : Bool) (s11 : Bool) (s12 : Int) (s13 : Int) (w : World) (h :
  drw w fun w1 =>
  cond (decide (s1 > 0))
  ((0 : Int) ≤ IntKind.wrap .i64 (s1 - 1) ∧
  (IntKind.wrap .i64 (s1 - 1)) < ((s0n : Nat) : Int) ∧
  opnA s0 fun ad2 =>
  (0 : Int) ≤ s13 ∧
  s13 < ((s0n : Nat) : Int) ∧
  opnA s0 fun ad3 =>
  opnI .i64 (w1.cell? ((ad2.add (Int.toNat (IntKind.wrap .i64 (s1 - 1)) * 5)).add 0)) fun x4 =>
  opnI .i64 (w1.cell? ((ad2.add (Int.toNat (IntKind.wrap .i64 (s1 - 1)) * 5)).add 1)) fun x5 =>
  opnI .i64 (w1.cell? ((ad2.add (Int.toNat (IntKind.wrap .i64 (s1 - 1)) * 5)).add 2)) fun x6 =>
  opnI .i64 (w1.cell? ((ad2.add (Int.toNat (IntKind.wrap .i64 (s1 - 1)) * 5)).add 3)) fun x7 =>
  opnB (w1.cell? ((ad2.add (Int.toNat (IntKind.wrap .i64 (s1 - 1)) * 5)).add 4)) fun x8 =>
  opnI .i64 (w1.cell? ((ad3.add (Int.toNat s13 * 5)).add 0)) fun x9 =>
  opnI .i64 (w1.cell? ((ad3.add (Int.toNat s13 * 5)).add 1)) fun x10 =>
  opnI .i64 (w1.cell? ((ad3.add (Int.toNat s13 * 5)).add 2)) fun x11 =>
  opnI .i64 (w1.cell? ((ad3.add (Int.toNat s13 * 5)).add 3)) fun x12 =>
  opnB (w1.cell? ((ad3.add (Int.toNat s13 * 5)).add 4)) fun x13 =>
  invk PP s4 #[.agg #[.int .i64 x4, .int .i64 x5, .int .i64 x6, .int .i64 x7, .bool x8], .agg #[.int .i64 x9, .int .i64 x10, .int .i64 x11, .int .i64 x12, .bool x13]] w1 fun v14 w15 =>
  opnI .i64 (some v14) fun x16 =>
  cond (!(decide (x16 < 0)))
  (N_slices_pdqsortCmpFunc_tile_Tile.j18 Q s0 s0n s0c s1 s2 s3 s4 s10 s11 s13 w15)
  (N_slices_pdqsortCmpFunc_tile_Tile.j20 Q s0 s0n s0c s1 s2 s3 s4 s12 s13 w15))
  (N_slices_pdqsortCmpFunc_tile_Tile.j20 Q s0 s0n s0c s1 s2 s3 s4 s12 s13 w1)) :
N_slices_pdqsortCmpFunc_tile_Tile.j17 Q s0 s0n s0c s1 s2 s3 s4 s10 s11 s12 s13 w := Nd_fold K_slices_pdqsortCmpFunc_tile_Tile (by kernel_rfl) h
theorem N_slices_pdqsortCmpFunc_tile_Tile.j18_eq (Q : Value → World → Prop) (s0 : Option Addr) (s0n : Nat) (s0c : Nat) (s1 : Int) (s2 : Int) (s3 : Int) (s4 : Value) (s10 : Bool) (s11 : Bool) (s13 : Int) (w : World) (h :
  C_slices_partitionEqualCmpFunc_tile_Tile #[.slice s0 s0n s0c, .int .i64 s1, .int .i64 s2, .int .i64 s13, s4] w fun v1 w2 =>
  opnI .i64 (some v1) fun x3 =>
  N_slices_pdqsortCmpFunc_tile_Tile.j19 Q s0 s0n s0c s2 s3 s4 s10 s11 x3 w2) :
N_slices_pdqsortCmpFunc_tile_Tile.j18 Q s0 s0n s0c s1 s2 s3 s4 s10 s11 s13 w := Nd_fold K_slices_pdqsortCmpFunc_tile_Tile (by kernel_rfl) h
theorem N_slices_pdqsortCmpFunc_tile_Tile.j19_eq (Q : Value → World → Prop) (s0 : Option Addr) (s0n : Nat) (s0c : Nat) (s2 : Int) (s3 : Int) (s4 : Value) (s10 : Bool) (s11 : Bool) (s15 : Int) (w : World) (h :
  N_slices_pdqsortCmpFunc_tile_Tile.j2 Q s0 s0n s0c s15 s2 s3 s4 s10 s11 w) :
N_slices_pdqsortCmpFunc_tile_Tile.j19 Q s0 s0n s0c s2 s3 s4 s10 s11 s15 w := Nd_fold K_slices_pdqsortCmpFunc_tile_Tile (by kernel_rfl) h
theorem N_slices_pdqsortCmpFunc_tile_Tile.j20_eq (Q : Value → World → Prop) (s0 : Option Addr) (s0n : Nat) (s0c : Nat) (s1 : Int) (s2 : Int) (s3 : Int) (s4 : Value) (s12 : Int) (s13 : Int) (w : World) (h :
  C_slices_partitionCmpFunc_tile_Tile #[.slice s0 s0n s0c, .int .i64 s1, .int .i64 s2, .int .i64 s13, s4] w fun v1 w2 =>
  opnT (some v1) fun x3 =>
  x3.size = 2 ∧
  opnI .i64 (x3[0]?) fun x4 =>
  opnB (x3[1]?) fun x5 =>
  N_slices_pdqsortCmpFunc_tile_Tile.j21 Q s0 s0n s0c s1 s2 s3 s4 s12 x4 x5 w2) :
N_slices_pdqsortCmpFunc_tile_Tile.j20 Q s0 s0n s0c s1 s2 s3 s4 s12 s13 w := Nd_fold K_slices_pdqsortCmpFunc_tile_Tile (by kernel_rfl) h
theorem N_slices_pdqsortCmpFunc_tile_Tile.j21_eq (Q : Value → World → Prop) (s0 : Option Addr) (s0n : Nat) (s0c : Nat) (s1 : Int) (s2 : Int) (s3 : Int) (s4 : Value) (s12 : Int) (s16 : Int) (s17 : Bool) (w : World) (h :
  N_slices_pdqsortCmpFunc_tile_Tile.j22 Q s0 s0n s0c s1 s2 s3 s4 s17 s12 s16 w) :
N_slices_pdqsortCmpFunc_tile_Tile.j21 Q s0 s0n s0c s1 s2 s3 s4 s12 s16 s17 w := Nd_fold K_slices_pdqsortCmpFunc_tile_Tile (by kernel_rfl) h
theorem N_slices_pdqsortCmpFunc_tile_Tile.j22_eq (Q : Value → World → Prop) (s0 : Option Addr) (s0n : Nat) (s0c : Nat) (s1 : Int) (s2 : Int) (s3 : Int) (s4 : Value) (s11 : Bool) (s12 : Int) (s16 : Int) (w : World) (h :
  N_slices_pdqsortCmpFunc_tile_Tile.j23 Q s0 s0n s0c s1 s2 s3 s4 s11 s12 s16 (IntKind.wrap .i64 (s16 - s1)) (IntKind.wrap .i64 (s2 - s16)) w) :
N_slices_pdqsortCmpFunc_tile_Tile.j22 Q s0 s0n s0c s1 s2 s3 s4 s11 s12 s16 w := Nd_fold K_slices_pdqsortCmpFunc_tile_Tile (by kernel_rfl) h
theorem N_slices_pdqsortCmpFunc_tile_Tile.j23_eq (Q : Value → World → Prop) (s0 : Option Addr) (s0n : Nat) (s0c : Nat) (s1 : Int) (s2 : Int) (s3 : Int) (s4 : Value) (s11 : Bool) (s12 : Int) (s16 : Int) (s18 : Int) (s19 : Int) (w : World) (h :
  8 ≠ (0 : Int) ∧
  N_slices_pdqsortCmpFunc_tile_Tile.j24 Q s0 s0n s0c s1 s2 s3 s4 s11 s16 s18 s19 (IntKind.wrap .i64 (Int.tdiv s12 8)) w) :
N_slices_pdqsortCmpFunc_tile_Tile.j23 Q s0 s0n s0c s1 s2 s3 s4 s11 s12 s16 s18 s19 w := Nd_fold K_slices_pdqsortCmpFunc_tile_Tile (by kernel_rfl) h
theorem N_slices_pdqsortCmpFunc_tile_Tile.j24_eq (Q : Value → World → Prop) (s0 : Option Addr) (s0n : Nat) (s0c : Nat) (s1 : Int) (s2 : Int) (s3 : Int) (s4 : Value) (s11 : Bool) (s16 : Int) (s18 : Int) (s19 : Int) (s20 : Int) (w : World) (h :
  cond (decide (s18 < s19))
  (N_slices_pdqsortCmpFunc_tile_Tile.j25 Q s0 s0n s0c s1 s2 s3 s4 s11 s16 s18 s20 w)
  (N_slices_pdqsortCmpFunc_tile_Tile.j28 Q s0 s0n s0c s1 s2 s3 s4 s11 s16 s19 s20 w)) :
N_slices_pdqsortCmpFunc_tile_Tile.j24 Q s0 s0n s0c s1 s2 s3 s4 s11 s16 s18 s19 s20 w := Nd_fold K_slices_pdqsortCmpFunc_tile_Tile (by kernel_rfl) h
theorem N_slices_pdqsortCmpFunc_tile_Tile.j25_eq (Q : Value → World → Prop) (s0 : Option Addr) (s0n : Nat) (s0c : Nat) (s1 : Int) (s2 : Int) (s3 : Int) (s4 : Value) (s11 : Bool) (s16 : Int) (s18 : Int) (s20 : Int) (w : World) (h :
  N_slices_pdqsortCmpFunc_tile_Tile.j26 Q s0 s0n s0c s1 s2 s3 s4 (decide (s18 ≥ s20)) s11 s16 w) :
N_slices_pdqsortCmpFunc_tile_Tile.j25 Q s0 s0n s0c s1 s2 s3 s4 s11 s16 s18 s20 w := Nd_fold K_slices_pdqsortCmpFunc_tile_Tile (by kernel_rfl) h
theorem N_slices_pdqsortCmpFunc_tile_Tile.j26_eq (Q : Value → World → Prop) (s0 : Option Addr) (s0n : Nat) (s0c : Nat) (s1 : Int) (s2 : Int) (s3 : Int) (s4 : Value) (s10 : Bool) (s11 : Bool) (s16 : Int) (w : World) (h :
  C_slices_pdqsortCmpFunc_tile_Tile #[.slice s0 s0n s0c, .int .i64 s1, .int .i64 s16, .int .i64 s3, s4] w fun v1 w2 =>
  opnT (some v1) fun x3 =>
  x3.size = 0 ∧
  N_slices_pdqsortCmpFunc_tile_Tile.j27 Q s0 s0n s0c s2 s3 s4 s10 s11 s16 w2) :
N_slices_pdqsortCmpFunc_tile_Tile.j26 Q s0 s0n s0c s1 s2 s3 s4 s10 s11 s16 w := Nd_fold K_slices_pdqsortCmpFunc_tile_Tile (by kernel_rfl) h
theorem N_slices_pdqsortCmpFunc_tile_Tile.j27_eq (Q : Value → World → Prop) (s0 : Option Addr) (s0n : Nat) (s0c : Nat) (s2 : Int) (s3 : Int) (s4 : Value) (s10 : Bool) (s11 : Bool) (s16 : Int) (w : World) (h :
  N_slices_pdqsortCmpFunc_tile_Tile.j2 Q s0 s0n s0c (IntKind.wrap .i64 (s16 + 1)) s2 s3 s4 s10 s11 w) :
N_slices_pdqsortCmpFunc_tile_Tile.j27 Q s0 s0n s0c s2 s3 s4 s10 s11 s16 w := Nd_fold K_slices_pdqsortCmpFunc_tile_Tile (by kernel_rfl) h
theorem N_slices_pdqsortCmpFunc_tile_Tile.j28_eq (Q : Value → World → Prop) (s0 : Option Addr) (s0n : Nat) (s0c : Nat) (s1 : Int) (s2 : Int) (s3 : Int) (s4 : Value) (s11 : Bool) (s16 : Int) (s19 : Int) (s20 : Int) (w : World) (h :
  N_slices_pdqsortCmpFunc_tile_Tile.j29 Q s0 s0n s0c s1 s2 s3 s4 (decide (s19 ≥ s20)) s11 s16 w) :
N_slices_pdqsortCmpFunc_tile_Tile.j28 Q s0 s0n s0c s1 s2 s3 s4 s11 s16 s19 s20 w := Nd_fold K_slices_pdqsortCmpFunc_tile_Tile (by kernel_rfl) h
theorem N_slices_pdqsortCmpFunc_tile_Tile.j29_eq (Q : Value → World → Prop) (s0 : Option Addr) (s0n : Nat) (s0c : Nat) (s1 : Int) (s2 : Int) (s3 : Int) (s4 : Value) (s10 : Bool) (s11 : Bool) (s16 : Int) (w : World) (h :
  C_slices_pdqsortCmpFunc_tile_Tile #[.slice s0 s0n s0c, .int .i64 (IntKind.wrap .i64 (s16 + 1)), .int .i64 s2, .int .i64 s3, s4] w fun v1 w2 =>
  opnT (some v1) fun x3 =>
  x3.size = 0 ∧
  N_slices_pdqsortCmpFunc_tile_Tile.j30 Q s0 s0n s0c s1 s3 s4 s10 s11 s16 w2) :
N_slices_pdqsortCmpFunc_tile_Tile.j29 Q s0 s0n s0c s1 s2 s3 s4 s10 s11 s16 w := Nd_fold K_slices_pdqsortCmpFunc_tile_Tile (by kernel_rfl) h
theorem N_slices_pdqsortCmpFunc_tile_Tile.j30_eq (Q : Value → World → Prop) (s0 : Option Addr) (s0n : Nat) (s0c : Nat) (s1 : Int) (s3 : Int) (s4 : Value) (s10 : Bool) (s11 : Bool) (s16 : Int) (w : World) (h :
  N_slices_pdqsortCmpFunc_tile_Tile.j2 Q s0 s0n s0c s1 s16 s3 s4 s10 s11 w) :
N_slices_pdqsortCmpFunc_tile_Tile.j30 Q s0 s0n s0c s1 s3 s4 s10 s11 s16 w := Nd_fold K_slices_pdqsortCmpFunc_tile_Tile (by kernel_rfl) h
theorem C_slices_pdqsortCmpFunc_tile_Tile_eq (Q : Value → World → Prop) (a0 : Option Addr) (a0n : Nat) (a0c : Nat) (a1 : Int) (a2 : Int) (a3 : Int) (a4 : Value) (w : World) (h :
  N_slices_pdqsortCmpFunc_tile_Tile.j2 Q a0 a0n a0c a1 a2 a3 a4 true true w) :
C_slices_pdqsortCmpFunc_tile_Tile #[.slice a0 a0n a0c, .int .i64 a1, .int .i64 a2, .int .i64 a3, a4] w Q := C_fold K_slices_pdqsortCmpFunc_tile_Tile (by kernel_rfl) h
/-! ### slices.insertionSortCmpFunc[ledger/tile.Tile] -/
noncomputable def B_slices_insertionSortCmpFunc_tile_Tile : Code := match Tryd.f134.body with | some c => c | _ => .skip
noncomputable def X_slices_insertionSortCmpFunc_tile_Tile : Cx := { P := PP, fn := 134, N := 53, tab := tab, results := [], iter := fun _ => (.none, .none), dyn := fun r => cond (Nat.beq r 22) true (false), live := fun r => cond (Nat.beq r 1) (some [0, 1, 2, 3, 8]) (cond (Nat.beq r 2) (some [0, 1, 2, 3, 8]) (cond (Nat.beq r 4) (some [0, 1, 2, 3, 8, 9]) (none))) }
theorem K_slices_insertionSortCmpFunc_tile_Tile : OkF X_slices_insertionSortCmpFunc_tile_Tile B_slices_insertionSortCmpFunc_tile_Tile Tryd.f134 := ⟨⟨tab_ok, mix_ok⟩, Tryd.func134, by kernel_rfl, by kernel_rfl, by kernel_rfl, by kernel_rfl⟩
noncomputable def N_slices_insertionSortCmpFunc_tile_Tile.j1 (Q : Value → World → Prop) (s0 : Option Addr) (s0n : Nat) (s0c : Nat) (s1 : Int) (s2 : Int) (s3 : Value) (s8 : Int) (w : World) : Prop := Nd X_slices_insertionSortCmpFunc_tile_Tile Q [(0, 0, .slice s0 s0n s0c), (1, 1, .int .i64 s1), (2, 2, .int .i64 s2), (3, 3, s3), (8, 8, .int .i64 s8)] [.code (B_slices_insertionSortCmpFunc_tile_Tile.r.l.l.l.l), .code (B_slices_insertionSortCmpFunc_tile_Tile.r.l.l.l.r), .code (B_slices_insertionSortCmpFunc_tile_Tile.r.l.l.r), .inLoop (B_slices_insertionSortCmpFunc_tile_Tile.r.l.l), .inBlock 0] w
noncomputable def N_slices_insertionSortCmpFunc_tile_Tile.j2 (Q : Value → World → Prop) (s0 : Option Addr) (s0n : Nat) (s0c : Nat) (s1 : Int) (s2 : Int) (s3 : Value) (s8 : Int) (w : World) : Prop := Nd X_slices_insertionSortCmpFunc_tile_Tile Q [(0, 0, .slice s0 s0n s0c), (1, 1, .int .i64 s1), (2, 2, .int .i64 s2), (3, 3, s3), (8, 8, .int .i64 s8)] [.code (B_slices_insertionSortCmpFunc_tile_Tile.r.l.l.r.r), .inLoop (B_slices_insertionSortCmpFunc_tile_Tile.r.l.l), .inBlock 0] w
noncomputable def N_slices_insertionSortCmpFunc_tile_Tile.j4 (Q : Value → World → Prop) (s0 : Option Addr) (s0n : Nat) (s0c : Nat) (s1 : Int) (s2 : Int) (s3 : Value) (s8 : Int) (s9 : Int) (w : World) : Prop := Nd X_slices_insertionSortCmpFunc_tile_Tile Q [(0, 0, .slice s0 s0n s0c), (1, 1, .int .i64 s1), (2, 2, .int .i64 s2), (3, 3, s3), (8, 8, .int .i64 s8), (9, 9, .int .i64 s9)] [.code (B_slices_insertionSortCmpFunc_tile_Tile.r.l.l.r.l.l.r.l.l.l.l), .code (B_slices_insertionSortCmpFunc_tile_Tile.r.l.l.r.l.l.r.l.l.l.r), .code (B_slices_insertionSortCmpFunc_tile_Tile.r.l.l.r.l.l.r.l.l.r), .inLoop (B_slices_insertionSortCmpFunc_tile_Tile.r.l.l.r.l.l.r.l.l), .inBlock 2, .inBlock 1, .code (B_slices_insertionSortCmpFunc_tile_Tile.r.l.l.r.r), .inLoop (B_slices_insertionSortCmpFunc_tile_Tile.r.l.l), .inBlock 0] w
theorem N_slices_insertionSortCmpFunc_tile_Tile.j1_eq (Q : Value → World → Prop) (s0 : Option Addr) (s0n : Nat) (s0c : Nat) (s1 : Int) (s2 : Int) (s3 : Value) (s8 : Int) (w : World) (h :
  cond (decide (s8 < s2))
  (N_slices_insertionSortCmpFunc_tile_Tile.j4 Q s0 s0n s0c s1 s2 s3 s8 s8 w)
  (Q (.tuple #[]) w)) :
N_slices_insertionSortCmpFunc_tile_Tile.j1 Q s0 s0n s0c s1 s2 s3 s8 w := Nd_fold K_slices_insertionSortCmpFunc_tile_Tile (by kernel_rfl) h
theorem N_slices_insertionSortCmpFunc_tile_Tile.j2_eq (Q : Value → World → Prop) (s0 : Option Addr) (s0n : Nat) (s0c : Nat) (s1 : Int) (s2 : Int) (s3 : Value) (s8 : Int) (w : World) (h :
  N_slices_insertionSortCmpFunc_tile_Tile.j1 Q s0 s0n s0c s1 s2 s3 (IntKind.wrap .i64 (s8 + 1)) w) :
N_slices_insertionSortCmpFunc_tile_Tile.j2 Q s0 s0n s0c s1 s2 s3 s8 w := Nd_fold K_slices_insertionSortCmpFunc_tile_Tile (by kernel_rfl) h
theorem N_slices_insertionSortCmpFunc_tile_Tile.j4_eq (Q : Value → World → Prop) (s0 : Option Addr) (s0n : Nat) (s0c : Nat) (s1 : Int) (s2 : Int) (s3 : Value) (s8 : Int) (s9 : Int) (w : World) (h :
  drw w fun w1 =>
  cond (decide (s9 > s1))
  ((0 : Int) ≤ s9 ∧
  s9 < ((s0n : Nat) : Int) ∧
  opnA s0 fun ad2 =>
  (0 : Int) ≤ IntKind.wrap .i64 (s9 - 1) ∧
  (IntKind.wrap .i64 (s9 - 1)) < ((s0n : Nat) : Int) ∧
  opnA s0 fun ad3 =>
  opnI .i64 (w1.cell? ((ad2.add (Int.toNat s9 * 5)).add 0)) fun x4 =>
  opnI .i64 (w1.cell? ((ad2.add (Int.toNat s9 * 5)).add 1)) fun x5 =>
  opnI .i64 (w1.cell? ((ad2.add (Int.toNat s9 * 5)).add 2)) fun x6 =>
  opnI .i64 (w1.cell? ((ad2.add (Int.toNat s9 * 5)).add 3)) fun x7 =>
  opnB (w1.cell? ((ad2.add (Int.toNat s9 * 5)).add 4)) fun x8 =>
  opnI .i64 (w1.cell? ((ad3.add (Int.toNat (IntKind.wrap .i64 (s9 - 1)) * 5)).add 0)) fun x9 =>
  opnI .i64 (w1.cell? ((ad3.add (Int.toNat (IntKind.wrap .i64 (s9 - 1)) * 5)).add 1)) fun x10 =>
  opnI .i64 (w1.cell? ((ad3.add (Int.toNat (IntKind.wrap .i64 (s9 - 1)) * 5)).add 2)) fun x11 =>
  opnI .i64 (w1.cell? ((ad3.add (Int.toNat (IntKind.wrap .i64 (s9 - 1)) * 5)).add 3)) fun x12 =>
  opnB (w1.cell? ((ad3.add (Int.toNat (IntKind.wrap .i64 (s9 - 1)) * 5)).add 4)) fun x13 =>
  invk PP s3 #[.agg #[.int .i64 x4, .int .i64 x5, .int .i64 x6, .int .i64 x7, .bool x8], .agg #[.int .i64 x9, .int .i64 x10, .int .i64 x11, .int .i64 x12, .bool x13]] w1 fun v14 w15 =>
  opnI .i64 (some v14) fun x16 =>
  cond (decide (x16 < 0))
  (drw w15 fun w17 =>
  (0 : Int) ≤ IntKind.wrap .i64 (s9 - 1) ∧
  (IntKind.wrap .i64 (s9 - 1)) < ((s0n : Nat) : Int) ∧
  opnA s0 fun ad18 =>
  (0 : Int) ≤ s9 ∧
  s9 < ((s0n : Nat) : Int) ∧
  opnA s0 fun ad19 =>
  opnI .i64 (w17.cell? ((ad18.add (Int.toNat (IntKind.wrap .i64 (s9 - 1)) * 5)).add 0)) fun x20 =>
  opnI .i64 (w17.cell? ((ad18.add (Int.toNat (IntKind.wrap .i64 (s9 - 1)) * 5)).add 1)) fun x21 =>
  opnI .i64 (w17.cell? ((ad18.add (Int.toNat (IntKind.wrap .i64 (s9 - 1)) * 5)).add 2)) fun x22 =>
  opnI .i64 (w17.cell? ((ad18.add (Int.toNat (IntKind.wrap .i64 (s9 - 1)) * 5)).add 3)) fun x23 =>
  opnB (w17.cell? ((ad18.add (Int.toNat (IntKind.wrap .i64 (s9 - 1)) * 5)).add 4)) fun x24 =>
  opnI .i64 (w17.cell? ((ad19.add (Int.toNat s9 * 5)).add 0)) fun x25 =>
  opnI .i64 (w17.cell? ((ad19.add (Int.toNat s9 * 5)).add 1)) fun x26 =>
  opnI .i64 (w17.cell? ((ad19.add (Int.toNat s9 * 5)).add 2)) fun x27 =>
  opnI .i64 (w17.cell? ((ad19.add (Int.toNat s9 * 5)).add 3)) fun x28 =>
  opnB (w17.cell? ((ad19.add (Int.toNat s9 * 5)).add 4)) fun x29 =>
  (0 : Int) ≤ s9 ∧
  s9 < ((s0n : Nat) : Int) ∧
  opnA s0 fun ad30 =>
  Array.size (#[.int .i64 x20, .int .i64 x21, .int .i64 x22, .int .i64 x23, .bool x24] : Array Value) = 5 ∧
  stC ((ad30.add (Int.toNat s9 * 5)).add 0) (.int .i64 x20) w17 fun w31 =>
  stC ((ad30.add (Int.toNat s9 * 5)).add 1) (.int .i64 x21) w31 fun w32 =>
  stC ((ad30.add (Int.toNat s9 * 5)).add 2) (.int .i64 x22) w32 fun w33 =>
  stC ((ad30.add (Int.toNat s9 * 5)).add 3) (.int .i64 x23) w33 fun w34 =>
  stC ((ad30.add (Int.toNat s9 * 5)).add 4) (.bool x24) w34 fun w35 =>
  (0 : Int) ≤ IntKind.wrap .i64 (s9 - 1) ∧
  (IntKind.wrap .i64 (s9 - 1)) < ((s0n : Nat) : Int) ∧
  opnA s0 fun ad36 =>
  Array.size (#[.int .i64 x25, .int .i64 x26, .int .i64 x27, .int .i64 x28, .bool x29] : Array Value) = 5 ∧
  stC ((ad36.add (Int.toNat (IntKind.wrap .i64 (s9 - 1)) * 5)).add 0) (.int .i64 x25) w35 fun w37 =>
  stC ((ad36.add (Int.toNat (IntKind.wrap .i64 (s9 - 1)) * 5)).add 1) (.int .i64 x26) w37 fun w38 =>
  stC ((ad36.add (Int.toNat (IntKind.wrap .i64 (s9 - 1)) * 5)).add 2) (.int .i64 x27) w38 fun w39 =>
  stC ((ad36.add (Int.toNat (IntKind.wrap .i64 (s9 - 1)) * 5)).add 3) (.int .i64 x28) w39 fun w40 =>
  stC ((ad36.add (Int.toNat (IntKind.wrap .i64 (s9 - 1)) * 5)).add 4) (.bool x29) w40 fun w41 =>
  N_slices_insertionSortCmpFunc_tile_Tile.j4 Q s0 s0n s0c s1 s2 s3 s8 (IntKind.wrap .i64 (s9 - 1)) w41)
  (N_slices_insertionSortCmpFunc_tile_Tile.j2 Q s0 s0n s0c s1 s2 s3 s8 w15))
  (N_slices_insertionSortCmpFunc_tile_Tile.j2 Q s0 s0n s0c s1 s2 s3 s8 w1)) :
N_slices_insertionSortCmpFunc_tile_Tile.j4 Q s0 s0n s0c s1 s2 s3 s8 s9 w := Nd_fold K_slices_insertionSortCmpFunc_tile_Tile (by kernel_rfl) h
theorem C_slices_insertionSortCmpFunc_tile_Tile_eq (Q : Value → World → Prop) (a0 : Option Addr) (a0n : Nat) (a0c : Nat) (a1 : Int) (a2 : Int) (a3 : Value) (w : World) (h :
  N_slices_insertionSortCmpFunc_tile_Tile.j1 Q a0 a0n a0c a1 a2 a3 (IntKind.wrap .i64 (a1 + 1)) w) :
C_slices_insertionSortCmpFunc_tile_Tile #[.slice a0 a0n a0c, .int .i64 a1, .int .i64 a2, a3] w Q := C_fold K_slices_insertionSortCmpFunc_tile_Tile (by kernel_rfl) h
/-! ### slices.heapSortCmpFunc[ledger/tile.Tile] -/
noncomputable def B_slices_heapSortCmpFunc_tile_Tile : Code := match Tryd.f135.body with | some c => c | _ => .skip
noncomputable def X_slices_heapSortCmpFunc_tile_Tile : Cx := { P := PP, fn := 135, N := 60, tab := tab, results := [], iter := fun _ => (.none, .none), dyn := fun _ => false, live := fun r => cond (Nat.beq r 4) (some [0, 3, 8, 9, 10, 11]) (cond (Nat.beq r 8) (some [0, 3, 8, 9, 12]) (none)) }
theorem K_slices_heapSortCmpFunc_tile_Tile : OkF X_slices_heapSortCmpFunc_tile_Tile B_slices_heapSortCmpFunc_tile_Tile Tryd.f135 := ⟨⟨tab_ok, mix_ok⟩, Tryd.func135, by kernel_rfl, by kernel_rfl, by kernel_rfl, by kernel_rfl⟩
noncomputable def N_slices_heapSortCmpFunc_tile_Tile.j4 (Q : Value → World → Prop) (s0 : Option Addr) (s0n : Nat) (s0c : Nat) (s3 : Value) (s8 : Int) (s9 : Int) (s10 : Int) (s11 : Int) (w : World) : Prop := Nd X_slices_heapSortCmpFunc_tile_Tile Q [(0, 0, .slice s0 s0n s0c), (3, 3, s3), (8, 8, .int .i64 s8), (9, 9, .int .i64 s9), (10, 10, .int .i64 s10), (11, 11, .int .i64 s11)] [.code (B_slices_heapSortCmpFunc_tile_Tile.r.r.r.l.r.l.l.l.l), .code (B_slices_heapSortCmpFunc_tile_Tile.r.r.r.l.r.l.l.l.r), .code (B_slices_heapSortCmpFunc_tile_Tile.r.r.r.l.r.l.l.r), .inLoop (B_slices_heapSortCmpFunc_tile_Tile.r.r.r.l.r.l.l), .inBlock 0, .code (B_slices_heapSortCmpFunc_tile_Tile.r.r.r.r)] w
noncomputable def N_slices_heapSortCmpFunc_tile_Tile.j8 (Q : Value → World → Prop) (s0 : Option Addr) (s0n : Nat) (s0c : Nat) (s3 : Value) (s8 : Int) (s9 : Int) (s12 : Int) (w : World) : Prop := Nd X_slices_heapSortCmpFunc_tile_Tile Q [(0, 0, .slice s0 s0n s0c), (3, 3, s3), (8, 8, .int .i64 s8), (9, 9, .int .i64 s9), (12, 12, .int .i64 s12)] [.code (B_slices_heapSortCmpFunc_tile_Tile.r.r.r.r.r.l.l.l.l), .code (B_slices_heapSortCmpFunc_tile_Tile.r.r.r.r.r.l.l.l.r), .code (B_slices_heapSortCmpFunc_tile_Tile.r.r.r.r.r.l.l.r), .inLoop (B_slices_heapSortCmpFunc_tile_Tile.r.r.r.r.r.l.l), .inBlock 2] w
theorem N_slices_heapSortCmpFunc_tile_Tile.j4_eq (Q : Value → World → Prop) (s0 : Option Addr) (s0n : Nat) (s0c : Nat) (s3 : Value) (s8 : Int) (s9 : Int) (s10 : Int) (s11 : Int) (w : World) (h :
  cond (decide (s11 ≥ 0))
  (C_slices_siftDownCmpFunc_tile_Tile #[.slice s0 s0n s0c, .int .i64 s11, .int .i64 s10, .int .i64 s8, s3] w fun v1 w2 =>
  opnT (some v1) fun x3 =>
  x3.size = 0 ∧
  N_slices_heapSortCmpFunc_tile_Tile.j4 Q s0 s0n s0c s3 s8 s9 s10 (IntKind.wrap .i64 (s11 - 1)) w2)
  (N_slices_heapSortCmpFunc_tile_Tile.j8 Q s0 s0n s0c s3 s8 s9 (IntKind.wrap .i64 (s10 - 1)) w)) :
N_slices_heapSortCmpFunc_tile_Tile.j4 Q s0 s0n s0c s3 s8 s9 s10 s11 w := Nd_fold K_slices_heapSortCmpFunc_tile_Tile (by kernel_rfl) h
theorem N_slices_heapSortCmpFunc_tile_Tile.j8_eq (Q : Value → World → Prop) (s0 : Option Addr) (s0n : Nat) (s0c : Nat) (s3 : Value) (s8 : Int) (s9 : Int) (s12 : Int) (w : World) (h :
  cond (decide (s12 ≥ 0))
  (drw w fun w1 =>
  (0 : Int) ≤ IntKind.wrap .i64 (s8 + s12) ∧
  (IntKind.wrap .i64 (s8 + s12)) < ((s0n : Nat) : Int) ∧
  opnA s0 fun ad2 =>
  (0 : Int) ≤ s8 ∧
  s8 < ((s0n : Nat) : Int) ∧
  opnA s0 fun ad3 =>
  opnI .i64 (w1.cell? ((ad2.add (Int.toNat (IntKind.wrap .i64 (s8 + s12)) * 5)).add 0)) fun x4 =>
  opnI .i64 (w1.cell? ((ad2.add (Int.toNat (IntKind.wrap .i64 (s8 + s12)) * 5)).add 1)) fun x5 =>
  opnI .i64 (w1.cell? ((ad2.add (Int.toNat (IntKind.wrap .i64 (s8 + s12)) * 5)).add 2)) fun x6 =>
  opnI .i64 (w1.cell? ((ad2.add (Int.toNat (IntKind.wrap .i64 (s8 + s12)) * 5)).add 3)) fun x7 =>
  opnB (w1.cell? ((ad2.add (Int.toNat (IntKind.wrap .i64 (s8 + s12)) * 5)).add 4)) fun x8 =>
  opnI .i64 (w1.cell? ((ad3.add (Int.toNat s8 * 5)).add 0)) fun x9 =>
  opnI .i64 (w1.cell? ((ad3.add (Int.toNat s8 * 5)).add 1)) fun x10 =>
  opnI .i64 (w1.cell? ((ad3.add (Int.toNat s8 * 5)).add 2)) fun x11 =>
  opnI .i64 (w1.cell? ((ad3.add (Int.toNat s8 * 5)).add 3)) fun x12 =>
  opnB (w1.cell? ((ad3.add (Int.toNat s8 * 5)).add 4)) fun x13 =>
  (0 : Int) ≤ s8 ∧
  s8 < ((s0n : Nat) : Int) ∧
  opnA s0 fun ad14 =>
  Array.size (#[.int .i64 x4, .int .i64 x5, .int .i64 x6, .int .i64 x7, .bool x8] : Array Value) = 5 ∧
  stC ((ad14.add (Int.toNat s8 * 5)).add 0) (.int .i64 x4) w1 fun w15 =>
  stC ((ad14.add (Int.toNat s8 * 5)).add 1) (.int .i64 x5) w15 fun w16 =>
  stC ((ad14.add (Int.toNat s8 * 5)).add 2) (.int .i64 x6) w16 fun w17 =>
  stC ((ad14.add (Int.toNat s8 * 5)).add 3) (.int .i64 x7) w17 fun w18 =>
  stC ((ad14.add (Int.toNat s8 * 5)).add 4) (.bool x8) w18 fun w19 =>
  (0 : Int) ≤ IntKind.wrap .i64 (s8 + s12) ∧
  (IntKind.wrap .i64 (s8 + s12)) < ((s0n : Nat) : Int) ∧
  opnA s0 fun ad20 =>
  Array.size (#[.int .i64 x9, .int .i64 x10, .int .i64 x11, .int .i64 x12, .bool x13] : Array Value) = 5 ∧
  stC ((ad20.add (Int.toNat (IntKind.wrap .i64 (s8 + s12)) * 5)).add 0) (.int .i64 x9) w19 fun w21 =>
  stC ((ad20.add (Int.toNat (IntKind.wrap .i64 (s8 + s12)) * 5)).add 1) (.int .i64 x10) w21 fun w22 =>
  stC ((ad20.add (Int.toNat (IntKind.wrap .i64 (s8 + s12)) * 5)).add 2) (.int .i64 x11) w22 fun w23 =>
  stC ((ad20.add (Int.toNat (IntKind.wrap .i64 (s8 + s12)) * 5)).add 3) (.int .i64 x12) w23 fun w24 =>
  stC ((ad20.add (Int.toNat (IntKind.wrap .i64 (s8 + s12)) * 5)).add 4) (.bool x13) w24 fun w25 =>
  C_slices_siftDownCmpFunc_tile_Tile #[.slice s0 s0n s0c, .int .i64 s9, .int .i64 s12, .int .i64 s8, s3] w25 fun v26 w27 =>
  opnT (some v26) fun x28 =>
  x28.size = 0 ∧
  N_slices_heapSortCmpFunc_tile_Tile.j8 Q s0 s0n s0c s3 s8 s9 (IntKind.wrap .i64 (s12 - 1)) w27)
  (Q (.tuple #[]) w)) :
N_slices_heapSortCmpFunc_tile_Tile.j8 Q s0 s0n s0c s3 s8 s9 s12 w := Nd_fold K_slices_heapSortCmpFunc_tile_Tile (by kernel_rfl) h
theorem C_slices_heapSortCmpFunc_tile_Tile_eq (Q : Value → World → Prop) (a0 : Option Addr) (a0n : Nat) (a0c : Nat) (a1 : Int) (a2 : Int) (a3 : Value) (w : World) (h :
  2 ≠ (0 : Int) ∧
  N_slices_heapSortCmpFunc_tile_Tile.j4 Q a0 a0n a0c a3 a1 0 (IntKind.wrap .i64 (a2 - a1)) (IntKind.wrap .i64 (Int.tdiv (IntKind.wrap .i64 ((IntKind.wrap .i64 (a2 - a1)) - 1)) 2)) w) :
C_slices_heapSortCmpFunc_tile_Tile #[.slice a0 a0n a0c, .int .i64 a1, .int .i64 a2, a3] w Q := C_fold K_slices_heapSortCmpFunc_tile_Tile (by kernel_rfl) h
/-! ### slices.breakPatternsCmpFunc[ledger/tile.Tile] -/
noncomputable def B_slices_breakPatternsCmpFunc_tile_Tile : Code := match Tryd.f136.body with | some c => c | _ => .skip
noncomputable def X_slices_breakPatternsCmpFunc_tile_Tile : Cx := { P := PP, fn := 136, N := 67, tab := tab, results := [], iter := fun _ => (.none, .none), dyn := fun _ => false, live := fun r => cond (Nat.beq r 5) (some [0, 1, 8, 9, 10, 11]) (cond (Nat.beq r 6) (some [0, 1, 8, 9, 10, 11]) (cond (Nat.beq r 10) (some [0, 1, 8, 9, 10, 11, 12]) (none))) }
theorem K_slices_breakPatternsCmpFunc_tile_Tile : OkF X_slices_breakPatternsCmpFunc_tile_Tile B_slices_breakPatternsCmpFunc_tile_Tile Tryd.f136 := ⟨⟨tab_ok, mix_ok⟩, Tryd.func136, by kernel_rfl, by kernel_rfl, by kernel_rfl, by kernel_rfl⟩
noncomputable def N_slices_breakPatternsCmpFunc_tile_Tile.j5 (Q : Value → World → Prop) (s0 : Option Addr) (s0n : Nat) (s0c : Nat) (s1 : Int) (s8 : Int) (s9 : Addr) (s10 : Int) (s11 : Int) (w : World) : Prop := Nd X_slices_breakPatternsCmpFunc_tile_Tile Q [(0, 0, .slice s0 s0n s0c), (1, 1, .int .i64 s1), (8, 8, .int .i64 s8), (9, 9, .pointer (some s9)), (10, 10, .int .u64 s10), (11, 11, .int .i64 s11)] [.code (B_slices_breakPatternsCmpFunc_tile_Tile.r.r.l.r.r.r.l.l.l.l), .code (B_slices_breakPatternsCmpFunc_tile_Tile.r.r.l.r.r.r.l.l.l.r), .code (B_slices_breakPatternsCmpFunc_tile_Tile.r.r.l.r.r.r.l.l.r), .inLoop (B_slices_breakPatternsCmpFunc_tile_Tile.r.r.l.r.r.r.l.l), .inBlock 0] w
noncomputable def N_slices_breakPatternsCmpFunc_tile_Tile.j6 (Q : Value → World → Prop) (s0 : Option Addr) (s0n : Nat) (s0c : Nat) (s1 : Int) (s8 : Int) (s9 : Addr) (s10 : Int) (s11 : Int) (w : World) : Prop := Nd X_slices_breakPatternsCmpFunc_tile_Tile Q [(0, 0, .slice s0 s0n s0c), (1, 1, .int .i64 s1), (8, 8, .int .i64 s8), (9, 9, .pointer (some s9)), (10, 10, .int .u64 s10), (11, 11, .int .i64 s11)] [.code (B_slices_breakPatternsCmpFunc_tile_Tile.r.r.l.r.r.r.l.l.r.r), .inLoop (B_slices_breakPatternsCmpFunc_tile_Tile.r.r.l.r.r.r.l.l), .inBlock 0] w
noncomputable def N_slices_breakPatternsCmpFunc_tile_Tile.j10 (Q : Value → World → Prop) (s0 : Option Addr) (s0n : Nat) (s0c : Nat) (s1 : Int) (s8 : Int) (s9 : Addr) (s10 : Int) (s11 : Int) (s12 : Int) (w : World) : Prop := Nd X_slices_breakPatternsCmpFunc_tile_Tile Q [(0, 0, .slice s0 s0n s0c), (1, 1, .int .i64 s1), (8, 8, .int .i64 s8), (9, 9, .pointer (some s9)), (10, 10, .int .u64 s10), (11, 11, .int .i64 s11), (12, 12, .int .i64 s12)] [.code (B_slices_breakPatternsCmpFunc_tile_Tile.r.r.l.r.r.r.l.l.r.l.l.r.r), .inBlock 1, .code (B_slices_breakPatternsCmpFunc_tile_Tile.r.r.l.r.r.r.l.l.r.r), .inLoop (B_slices_breakPatternsCmpFunc_tile_Tile.r.r.l.r.r.r.l.l), .inBlock 0] w
theorem N_slices_breakPatternsCmpFunc_tile_Tile.j5_eq (Q : Value → World → Prop) (s0 : Option Addr) (s0n : Nat) (s0c : Nat) (s1 : Int) (s8 : Int) (s9 : Addr) (s10 : Int) (s11 : Int) (w : World) (h :
  4 ≠ (0 : Int) ∧
  cond (decide (s11 ≤ (IntKind.wrap .i64 ((IntKind.wrap .i64 (s1 + (IntKind.wrap .i64 ((IntKind.wrap .i64 (Int.tdiv s8 4)) * 2)))) + 1))))
  (C_p_slices_xorshift_Next #[.pointer (some s9)] w fun v1 w2 =>
  opnI .u64 (some v1) fun x3 =>
  cond (decide ((IntKind.wrap .i64 (bits .and .u64 x3 (IntKind.wrap .u64 (s10 - 1)))) ≥ s8))
  (N_slices_breakPatternsCmpFunc_tile_Tile.j10 Q s0 s0n s0c s1 s8 s9 s10 s11 (IntKind.wrap .i64 ((IntKind.wrap .i64 (bits .and .u64 x3 (IntKind.wrap .u64 (s10 - 1)))) - s8)) w2)
  (N_slices_breakPatternsCmpFunc_tile_Tile.j10 Q s0 s0n s0c s1 s8 s9 s10 s11 (IntKind.wrap .i64 (bits .and .u64 x3 (IntKind.wrap .u64 (s10 - 1)))) w2))
  (Q (.tuple #[]) w)) :
N_slices_breakPatternsCmpFunc_tile_Tile.j5 Q s0 s0n s0c s1 s8 s9 s10 s11 w := Nd_fold K_slices_breakPatternsCmpFunc_tile_Tile (by kernel_rfl) h
theorem N_slices_breakPatternsCmpFunc_tile_Tile.j6_eq (Q : Value → World → Prop) (s0 : Option Addr) (s0n : Nat) (s0c : Nat) (s1 : Int) (s8 : Int) (s9 : Addr) (s10 : Int) (s11 : Int) (w : World) (h :
  N_slices_breakPatternsCmpFunc_tile_Tile.j5 Q s0 s0n s0c s1 s8 s9 s10 (IntKind.wrap .i64 (s11 + 1)) w) :
N_slices_breakPatternsCmpFunc_tile_Tile.j6 Q s0 s0n s0c s1 s8 s9 s10 s11 w := Nd_fold K_slices_breakPatternsCmpFunc_tile_Tile (by kernel_rfl) h
theorem N_slices_breakPatternsCmpFunc_tile_Tile.j10_eq (Q : Value → World → Prop) (s0 : Option Addr) (s0n : Nat) (s0c : Nat) (s1 : Int) (s8 : Int) (s9 : Addr) (s10 : Int) (s11 : Int) (s12 : Int) (w : World) (h :
  drw w fun w1 =>
  (0 : Int) ≤ IntKind.wrap .i64 (s1 + s12) ∧
  (IntKind.wrap .i64 (s1 + s12)) < ((s0n : Nat) : Int) ∧
  opnA s0 fun ad2 =>
  (0 : Int) ≤ s11 ∧
  s11 < ((s0n : Nat) : Int) ∧
  opnA s0 fun ad3 =>
  opnI .i64 (w1.cell? ((ad2.add (Int.toNat (IntKind.wrap .i64 (s1 + s12)) * 5)).add 0)) fun x4 =>
  opnI .i64 (w1.cell? ((ad2.add (Int.toNat (IntKind.wrap .i64 (s1 + s12)) * 5)).add 1)) fun x5 =>
  opnI .i64 (w1.cell? ((ad2.add (Int.toNat (IntKind.wrap .i64 (s1 + s12)) * 5)).add 2)) fun x6 =>
  opnI .i64 (w1.cell? ((ad2.add (Int.toNat (IntKind.wrap .i64 (s1 + s12)) * 5)).add 3)) fun x7 =>
  opnB (w1.cell? ((ad2.add (Int.toNat (IntKind.wrap .i64 (s1 + s12)) * 5)).add 4)) fun x8 =>
  opnI .i64 (w1.cell? ((ad3.add (Int.toNat s11 * 5)).add 0)) fun x9 =>
  opnI .i64 (w1.cell? ((ad3.add (Int.toNat s11 * 5)).add 1)) fun x10 =>
  opnI .i64 (w1.cell? ((ad3.add (Int.toNat s11 * 5)).add 2)) fun x11 =>
  opnI .i64 (w1.cell? ((ad3.add (Int.toNat s11 * 5)).add 3)) fun x12 =>
  opnB (w1.cell? ((ad3.add (Int.toNat s11 * 5)).add 4)) fun x13 =>
  (0 : Int) ≤ s11 ∧
  s11 < ((s0n : Nat) : Int) ∧
  opnA s0 fun ad14 =>
  Array.size (#[.int .i64 x4, .int .i64 x5, .int .i64 x6, .int .i64 x7, .bool x8] : Array Value) = 5 ∧
  stC ((ad14.add (Int.toNat s11 * 5)).add 0) (.int .i64 x4) w1 fun w15 =>
  stC ((ad14.add (Int.toNat s11 * 5)).add 1) (.int .i64 x5) w15 fun w16 =>
  stC ((ad14.add (Int.toNat s11 * 5)).add 2) (.int .i64 x6) w16 fun w17 =>
  stC ((ad14.add (Int.toNat s11 * 5)).add 3) (.int .i64 x7) w17 fun w18 =>
  stC ((ad14.add (Int.toNat s11 * 5)).add 4) (.bool x8) w18 fun w19 =>
  (0 : Int) ≤ IntKind.wrap .i64 (s1 + s12) ∧
  (IntKind.wrap .i64 (s1 + s12)) < ((s0n : Nat) : Int) ∧
  opnA s0 fun ad20 =>
  Array.size (#[.int .i64 x9, .int .i64 x10, .int .i64 x11, .int .i64 x12, .bool x13] : Array Value) = 5 ∧
  stC ((ad20.add (Int.toNat (IntKind.wrap .i64 (s1 + s12)) * 5)).add 0) (.int .i64 x9) w19 fun w21 =>
  stC ((ad20.add (Int.toNat (IntKind.wrap .i64 (s1 + s12)) * 5)).add 1) (.int .i64 x10) w21 fun w22 =>
  stC ((ad20.add (Int.toNat (IntKind.wrap .i64 (s1 + s12)) * 5)).add 2) (.int .i64 x11) w22 fun w23 =>
  stC ((ad20.add (Int.toNat (IntKind.wrap .i64 (s1 + s12)) * 5)).add 3) (.int .i64 x12) w23 fun w24 =>
  stC ((ad20.add (Int.toNat (IntKind.wrap .i64 (s1 + s12)) * 5)).add 4) (.bool x13) w24 fun w25 =>
  N_slices_breakPatternsCmpFunc_tile_Tile.j6 Q s0 s0n s0c s1 s8 s9 s10 s11 w25) :
N_slices_breakPatternsCmpFunc_tile_Tile.j10 Q s0 s0n s0c s1 s8 s9 s10 s11 s12 w := Nd_fold K_slices_breakPatternsCmpFunc_tile_Tile (by kernel_rfl) h
theorem C_slices_breakPatternsCmpFunc_tile_Tile_eq (Q : Value → World → Prop) (a0 : Option Addr) (a0n : Nat) (a0c : Nat) (a1 : Int) (a2 : Int) (a3 : Value) (w : World) (h :
  cond (decide ((IntKind.wrap .i64 (a2 - a1)) ≥ 8))
  (alC #[.int .u64 0] 230 w fun p1 w2 =>
  stC p1 (.int .u64 (IntKind.wrap .u64 (IntKind.wrap .i64 (a2 - a1)))) w2 fun w3 =>
  C_slices_nextPowerOfTwo #[.int .i64 (IntKind.wrap .i64 (a2 - a1))] w3 fun v4 w5 =>
  opnI .u64 (some v4) fun x6 =>
  4 ≠ (0 : Int) ∧
  N_slices_breakPatternsCmpFunc_tile_Tile.j5 Q a0 a0n a0c a1 (IntKind.wrap .i64 (a2 - a1)) p1 x6 (IntKind.wrap .i64 ((IntKind.wrap .i64 (a1 + (IntKind.wrap .i64 ((IntKind.wrap .i64 (Int.tdiv (IntKind.wrap .i64 (a2 - a1)) 4)) * 2)))) - 1)) w5)
  (Q (.tuple #[]) w)) :
C_slices_breakPatternsCmpFunc_tile_Tile #[.slice a0 a0n a0c, .int .i64 a1, .int .i64 a2, a3] w Q := C_fold K_slices_breakPatternsCmpFunc_tile_Tile (by kernel_rfl) h
/-! ### slices.choosePivotCmpFunc[ledger/tile.Tile] -/
noncomputable def B_slices_choosePivotCmpFunc_tile_Tile : Code := match Tryd.f137.body with | some c => c | _ => .skip
noncomputable def X_slices_choosePivotCmpFunc_tile_Tile : Cx := { P := PP, fn := 137, N := 63, tab := tab, results := [.tmp 8, .tmp 9], iter := fun _ => (.none, .none), dyn := fun _ => false, live := fun r => cond (Nat.beq r 11) (some [0, 3, 11, 12, 13, 14]) (cond (Nat.beq r 12) (some [11, 13]) (cond (Nat.beq r 13) (some [13]) (cond (Nat.beq r 14) (some [13, 55]) (cond (Nat.beq r 15) (some [13]) (cond (Nat.beq r 16) (some [13, 55]) (cond (Nat.beq r 17) (some [13]) (none))))))) }
theorem K_slices_choosePivotCmpFunc_tile_Tile : OkF X_slices_choosePivotCmpFunc_tile_Tile B_slices_choosePivotCmpFunc_tile_Tile Tryd.f137 := ⟨⟨tab_ok, mix_ok⟩, Tryd.func137, by kernel_rfl, by kernel_rfl, by kernel_rfl, by kernel_rfl⟩
noncomputable def N_slices_choosePivotCmpFunc_tile_Tile.j11 (Q : Value → World → Prop) (s0 : Option Addr) (s0n : Nat) (s0c : Nat) (s3 : Value) (s11 : Addr) (s12 : Int) (s13 : Int) (s14 : Int) (w : World) : Prop := Nd X_slices_choosePivotCmpFunc_tile_Tile Q [(0, 0, .slice s0 s0n s0c), (3, 3, s3), (11, 11, .pointer (some s11)), (12, 12, .int .i64 s12), (13, 13, .int .i64 s13), (14, 14, .int .i64 s14)] [.code (B_slices_choosePivotCmpFunc_tile_Tile.r.r.r.r.r.r.l.r.l.r), .code (B_slices_choosePivotCmpFunc_tile_Tile.r.r.r.r.r.r.r)] w
noncomputable def N_slices_choosePivotCmpFunc_tile_Tile.j12 (Q : Value → World → Prop) (s11 : Addr) (s13 : Int) (w : World) : Prop := Nd X_slices_choosePivotCmpFunc_tile_Tile Q [(11, 11, .pointer (some s11)), (13, 13, .int .i64 s13)] [.code (B_slices_choosePivotCmpFunc_tile_Tile.r.r.r.r.r.r.r.l), .code (B_slices_choosePivotCmpFunc_tile_Tile.r.r.r.r.r.r.r.r)] w
noncomputable def N_slices_choosePivotCmpFunc_tile_Tile.j13 (Q : Value → World → Prop) (s13 : Int) (w : World) : Prop := Nd X_slices_choosePivotCmpFunc_tile_Tile Q [(13, 13, .int .i64 s13)] [.code (B_slices_choosePivotCmpFunc_tile_Tile.r.r.r.r.r.r.r.r.l.r.r.r.r.l), .code (B_slices_choosePivotCmpFunc_tile_Tile.r.r.r.r.r.r.r.r.l.r.r.r.r.r), .inBlock 0] w
noncomputable def N_slices_choosePivotCmpFunc_tile_Tile.j14 (Q : Value → World → Prop) (s13 : Int) (s55 : Int) (w : World) : Prop := Nd X_slices_choosePivotCmpFunc_tile_Tile Q [(13, 13, .int .i64 s13), (55, 55, .int .i64 s55)] [.code (B_slices_choosePivotCmpFunc_tile_Tile.r.r.r.r.r.r.r.r.l.l), .code (B_slices_choosePivotCmpFunc_tile_Tile.r.r.r.r.r.r.r.r.l.r), .inBlock 0] w
noncomputable def N_slices_choosePivotCmpFunc_tile_Tile.j15 (Q : Value → World → Prop) (s13 : Int) (w : World) : Prop := Nd X_slices_choosePivotCmpFunc_tile_Tile Q [(13, 13, .int .i64 s13)] [.code (B_slices_choosePivotCmpFunc_tile_Tile.r.r.r.r.r.r.r.r.l.r.l.l), .code (B_slices_choosePivotCmpFunc_tile_Tile.r.r.r.r.r.r.r.r.l.r.l.r), .inBlock 0] w
noncomputable def N_slices_choosePivotCmpFunc_tile_Tile.j16 (Q : Value → World → Prop) (s13 : Int) (s55 : Int) (w : World) : Prop := Nd X_slices_choosePivotCmpFunc_tile_Tile Q [(13, 13, .int .i64 s13), (55, 55, .int .i64 s55)] [.code (B_slices_choosePivotCmpFunc_tile_Tile.r.r.r.r.r.r.r.r.l.r.r.l), .code (B_slices_choosePivotCmpFunc_tile_Tile.r.r.r.r.r.r.r.r.l.r.r.r), .inBlock 0] w
noncomputable def N_slices_choosePivotCmpFunc_tile_Tile.j17 (Q : Value → World → Prop) (s13 : Int) (w : World) : Prop := Nd X_slices_choosePivotCmpFunc_tile_Tile Q [(13, 13, .int .i64 s13)] [.code (B_slices_choosePivotCmpFunc_tile_Tile.r.r.r.r.r.r.r.r.l.r.r.r.l.l), .code (B_slices_choosePivotCmpFunc_tile_Tile.r.r.r.r.r.r.r.r.l.r.r.r.l.r), .inBlock 0] w
theorem N_slices_choosePivotCmpFunc_tile_Tile.j11_eq (Q : Value → World → Prop) (s0 : Option Addr) (s0n : Nat) (s0c : Nat) (s3 : Value) (s11 : Addr) (s12 : Int) (s13 : Int) (s14 : Int) (w : World) (h :
  C_slices_medianCmpFunc_tile_Tile #[.slice s0 s0n s0c, .int .i64 s12, .int .i64 s13, .int .i64 s14, .pointer (some s11), s3] w fun v1 w2 =>
  opnI .i64 (some v1) fun x3 =>
  N_slices_choosePivotCmpFunc_tile_Tile.j12 Q s11 x3 w2) :
N_slices_choosePivotCmpFunc_tile_Tile.j11 Q s0 s0n s0c s3 s11 s12 s13 s14 w := Nd_fold K_slices_choosePivotCmpFunc_tile_Tile (by kernel_rfl) h
theorem N_slices_choosePivotCmpFunc_tile_Tile.j12_eq (Q : Value → World → Prop) (s11 : Addr) (s13 : Int) (w : World) (h :
  opnI .i64 (w.cell? s11) fun x1 =>
  N_slices_choosePivotCmpFunc_tile_Tile.j14 Q s13 x1 w) :
N_slices_choosePivotCmpFunc_tile_Tile.j12 Q s11 s13 w := Nd_fold K_slices_choosePivotCmpFunc_tile_Tile (by kernel_rfl) h
theorem N_slices_choosePivotCmpFunc_tile_Tile.j13_eq (Q : Value → World → Prop) (s13 : Int) (w : World) (h :
  Q (.tuple #[.int .i64 s13, .int .i64 0]) w) :
N_slices_choosePivotCmpFunc_tile_Tile.j13 Q s13 w := Nd_fold K_slices_choosePivotCmpFunc_tile_Tile (by kernel_rfl) h
theorem N_slices_choosePivotCmpFunc_tile_Tile.j14_eq (Q : Value → World → Prop) (s13 : Int) (s55 : Int) (w : World) (h :
  cond (s55 == 0)
  (N_slices_choosePivotCmpFunc_tile_Tile.j15 Q s13 w)
  (N_slices_choosePivotCmpFunc_tile_Tile.j16 Q s13 s55 w)) :
N_slices_choosePivotCmpFunc_tile_Tile.j14 Q s13 s55 w := Nd_fold K_slices_choosePivotCmpFunc_tile_Tile (by kernel_rfl) h
theorem N_slices_choosePivotCmpFunc_tile_Tile.j15_eq (Q : Value → World → Prop) (s13 : Int) (w : World) (h :
  Q (.tuple #[.int .i64 s13, .int .i64 1]) w) :
N_slices_choosePivotCmpFunc_tile_Tile.j15 Q s13 w := Nd_fold K_slices_choosePivotCmpFunc_tile_Tile (by kernel_rfl) h
theorem N_slices_choosePivotCmpFunc_tile_Tile.j16_eq (Q : Value → World → Prop) (s13 : Int) (s55 : Int) (w : World) (h :
  cond (s55 == 12)
  (N_slices_choosePivotCmpFunc_tile_Tile.j17 Q s13 w)
  (N_slices_choosePivotCmpFunc_tile_Tile.j13 Q s13 w)) :
N_slices_choosePivotCmpFunc_tile_Tile.j16 Q s13 s55 w := Nd_fold K_slices_choosePivotCmpFunc_tile_Tile (by kernel_rfl) h
theorem N_slices_choosePivotCmpFunc_tile_Tile.j17_eq (Q : Value → World → Prop) (s13 : Int) (w : World) (h :
  Q (.tuple #[.int .i64 s13, .int .i64 2]) w) :
N_slices_choosePivotCmpFunc_tile_Tile.j17 Q s13 w := Nd_fold K_slices_choosePivotCmpFunc_tile_Tile (by kernel_rfl) h
theorem C_slices_choosePivotCmpFunc_tile_Tile_eq (Q : Value → World → Prop) (a0 : Option Addr) (a0n : Nat) (a0c : Nat) (a1 : Int) (a2 : Int) (a3 : Value) (w : World) (h :
  alC #[.int .i64 0] 3 w fun p1 w2 =>
  4 ≠ (0 : Int) ∧
  4 ≠ (0 : Int) ∧
  4 ≠ (0 : Int) ∧
  cond (decide ((IntKind.wrap .i64 (a2 - a1)) ≥ 8))
  (cond (decide ((IntKind.wrap .i64 (a2 - a1)) ≥ 50))
  (C_slices_medianAdjacentCmpFunc_tile_Tile #[.slice a0 a0n a0c, .int .i64 (IntKind.wrap .i64 (a1 + (IntKind.wrap .i64 ((IntKind.wrap .i64 (Int.tdiv (IntKind.wrap .i64 (a2 - a1)) 4)) * 1)))), .pointer (some p1), a3] w2 fun v3 w4 =>
  opnI .i64 (some v3) fun x5 =>
  C_slices_medianAdjacentCmpFunc_tile_Tile #[.slice a0 a0n a0c, .int .i64 (IntKind.wrap .i64 (a1 + (IntKind.wrap .i64 ((IntKind.wrap .i64 (Int.tdiv (IntKind.wrap .i64 (a2 - a1)) 4)) * 2)))), .pointer (some p1), a3] w4 fun v6 w7 =>
  opnI .i64 (some v6) fun x8 =>
  C_slices_medianAdjacentCmpFunc_tile_Tile #[.slice a0 a0n a0c, .int .i64 (IntKind.wrap .i64 (a1 + (IntKind.wrap .i64 ((IntKind.wrap .i64 (Int.tdiv (IntKind.wrap .i64 (a2 - a1)) 4)) * 3)))), .pointer (some p1), a3] w7 fun v9 w10 =>
  opnI .i64 (some v9) fun x11 =>
  N_slices_choosePivotCmpFunc_tile_Tile.j11 Q a0 a0n a0c a3 p1 x5 x8 x11 w10)
  (N_slices_choosePivotCmpFunc_tile_Tile.j11 Q a0 a0n a0c a3 p1 (IntKind.wrap .i64 (a1 + (IntKind.wrap .i64 ((IntKind.wrap .i64 (Int.tdiv (IntKind.wrap .i64 (a2 - a1)) 4)) * 1)))) (IntKind.wrap .i64 (a1 + (IntKind.wrap .i64 ((IntKind.wrap .i64 (Int.tdiv (IntKind.wrap .i64 (a2 - a1)) 4)) * 2)))) (IntKind.wrap .i64 (a1 + (IntKind.wrap .i64 ((IntKind.wrap .i64 (Int.tdiv (IntKind.wrap .i64 (a2 - a1)) 4)) * 3)))) w2))
  (N_slices_choosePivotCmpFunc_tile_Tile.j12 Q p1 (IntKind.wrap .i64 (a1 + (IntKind.wrap .i64 ((IntKind.wrap .i64 (Int.tdiv (IntKind.wrap .i64 (a2 - a1)) 4)) * 2)))) w2)) :
C_slices_choosePivotCmpFunc_tile_Tile #[.slice a0 a0n a0c, .int .i64 a1, .int .i64 a2, a3] w Q := C_fold K_slices_choosePivotCmpFunc_tile_Tile (by kernel_rfl) h
/-! ### slices.reverseRangeCmpFunc[ledger/tile.Tile] -/
noncomputable def B_slices_reverseRangeCmpFunc_tile_Tile : Code := match Tryd.f138.body with | some c => c | _ => .skip
noncomputable def X_slices_reverseRangeCmpFunc_tile_Tile : Cx := { P := PP, fn := 138, N := 34, tab := tab, results := [], iter := fun _ => (.none, .none), dyn := fun _ => false, live := fun r => cond (Nat.beq r 2) (some [0, 8, 9]) (none) }
theorem K_slices_reverseRangeCmpFunc_tile_Tile : OkF X_slices_reverseRangeCmpFunc_tile_Tile B_slices_reverseRangeCmpFunc_tile_Tile Tryd.f138 := ⟨⟨tab_ok, mix_ok⟩, Tryd.func138, by kernel_rfl, by kernel_rfl, by kernel_rfl, by kernel_rfl⟩
noncomputable def N_slices_reverseRangeCmpFunc_tile_Tile.j2 (Q : Value → World → Prop) (s0 : Option Addr) (s0n : Nat) (s0c : Nat) (s8 : Int) (s9 : Int) (w : World) : Prop := Nd X_slices_reverseRangeCmpFunc_tile_Tile Q [(0, 0, .slice s0 s0n s0c), (8, 8, .int .i64 s8), (9, 9, .int .i64 s9)] [.code (B_slices_reverseRangeCmpFunc_tile_Tile.r.r.l.l.l.l), .code (B_slices_reverseRangeCmpFunc_tile_Tile.r.r.l.l.l.r), .code (B_slices_reverseRangeCmpFunc_tile_Tile.r.r.l.l.r), .inLoop (B_slices_reverseRangeCmpFunc_tile_Tile.r.r.l.l), .inBlock 0] w
theorem N_slices_reverseRangeCmpFunc_tile_Tile.j2_eq (Q : Value → World → Prop) (s0 : Option Addr) (s0n : Nat) (s0c : Nat) (s8 : Int) (s9 : Int) (w : World) (h :
  cond (decide (s8 < s9))
  (drw w fun w1 =>
  (0 : Int) ≤ s9 ∧
  s9 < ((s0n : Nat) : Int) ∧
  opnA s0 fun ad2 =>
  (0 : Int) ≤ s8 ∧
  s8 < ((s0n : Nat) : Int) ∧
  opnA s0 fun ad3 =>
  opnI .i64 (w1.cell? ((ad2.add (Int.toNat s9 * 5)).add 0)) fun x4 =>
  opnI .i64 (w1.cell? ((ad2.add (Int.toNat s9 * 5)).add 1)) fun x5 =>
  opnI .i64 (w1.cell? ((ad2.add (Int.toNat s9 * 5)).add 2)) fun x6 =>
  opnI .i64 (w1.cell? ((ad2.add (Int.toNat s9 * 5)).add 3)) fun x7 =>
  opnB (w1.cell? ((ad2.add (Int.toNat s9 * 5)).add 4)) fun x8 =>
  opnI .i64 (w1.cell? ((ad3.add (Int.toNat s8 * 5)).add 0)) fun x9 =>
  opnI .i64 (w1.cell? ((ad3.add (Int.toNat s8 * 5)).add 1)) fun x10 =>
  opnI .i64 (w1.cell? ((ad3.add (Int.toNat s8 * 5)).add 2)) fun x11 =>
  opnI .i64 (w1.cell? ((ad3.add (Int.toNat s8 * 5)).add 3)) fun x12 =>
  opnB (w1.cell? ((ad3.add (Int.toNat s8 * 5)).add 4)) fun x13 =>
  (0 : Int) ≤ s8 ∧
  s8 < ((s0n : Nat) : Int) ∧
  opnA s0 fun ad14 =>
  Array.size (#[.int .i64 x4, .int .i64 x5, .int .i64 x6, .int .i64 x7, .bool x8] : Array Value) = 5 ∧
  stC ((ad14.add (Int.toNat s8 * 5)).add 0) (.int .i64 x4) w1 fun w15 =>
  stC ((ad14.add (Int.toNat s8 * 5)).add 1) (.int .i64 x5) w15 fun w16 =>
  stC ((ad14.add (Int.toNat s8 * 5)).add 2) (.int .i64 x6) w16 fun w17 =>
  stC ((ad14.add (Int.toNat s8 * 5)).add 3) (.int .i64 x7) w17 fun w18 =>
  stC ((ad14.add (Int.toNat s8 * 5)).add 4) (.bool x8) w18 fun w19 =>
  (0 : Int) ≤ s9 ∧
  s9 < ((s0n : Nat) : Int) ∧
  opnA s0 fun ad20 =>
  Array.size (#[.int .i64 x9, .int .i64 x10, .int .i64 x11, .int .i64 x12, .bool x13] : Array Value) = 5 ∧
  stC ((ad20.add (Int.toNat s9 * 5)).add 0) (.int .i64 x9) w19 fun w21 =>
  stC ((ad20.add (Int.toNat s9 * 5)).add 1) (.int .i64 x10) w21 fun w22 =>
  stC ((ad20.add (Int.toNat s9 * 5)).add 2) (.int .i64 x11) w22 fun w23 =>
  stC ((ad20.add (Int.toNat s9 * 5)).add 3) (.int .i64 x12) w23 fun w24 =>
  stC ((ad20.add (Int.toNat s9 * 5)).add 4) (.bool x13) w24 fun w25 =>
  N_slices_reverseRangeCmpFunc_tile_Tile.j2 Q s0 s0n s0c (IntKind.wrap .i64 (s8 + 1)) (IntKind.wrap .i64 (s9 - 1)) w25)
  (Q (.tuple #[]) w)) :
N_slices_reverseRangeCmpFunc_tile_Tile.j2 Q s0 s0n s0c s8 s9 w := Nd_fold K_slices_reverseRangeCmpFunc_tile_Tile (by kernel_rfl) h
theorem C_slices_reverseRangeCmpFunc_tile_Tile_eq (Q : Value → World → Prop) (a0 : Option Addr) (a0n : Nat) (a0c : Nat) (a1 : Int) (a2 : Int) (a3 : Value) (w : World) (h :
  N_slices_reverseRangeCmpFunc_tile_Tile.j2 Q a0 a0n a0c a1 (IntKind.wrap .i64 (a2 - 1)) w) :
C_slices_reverseRangeCmpFunc_tile_Tile #[.slice a0 a0n a0c, .int .i64 a1, .int .i64 a2, a3] w Q := C_fold K_slices_reverseRangeCmpFunc_tile_Tile (by kernel_rfl) h
end Go.Proofs.YtccjncflbbhldaaDoor
/-! ## PlPlace -/
set_option maxRecDepth 10000
namespace Go.Proofs.YtccjncflbbhldaaDoor.Pl
open Go.Sh

theorem u64_and (a b : Nat) (ha : a < 18446744073709551616) (hb : b < 18446744073709551616) : bits .and .u64 (a : Int) (b : Int) = ((a &&& b : Nat) : Int) := by
  have hx : a &&& b < 2 ^ 64 := Nat.and_lt_two_pow _ (by omega)
  have e : ∀ n : Nat, n < 18446744073709551616 → (BitVec.ofInt 64 (n : Int)).toNat = n := fun n hn => by
    rw [BitVec.ofInt_natCast, BitVec.toNat_ofNat]; exact Nat.mod_eq_of_lt (by omega)
  show IntKind.u64.wrap ((BitVec.ofInt 64 (a : Int) &&& BitVec.ofInt 64 (b : Int)).toNat : Int) = _
  rw [BitVec.toNat_and, e a ha, e b hb, IntKind.wrap_u64]
  omega
theorem i64_and (a b : Nat) (ha : a < 9223372036854775808) (hb : b < 9223372036854775808) : bits .and .i64 (a : Int) (b : Int) = ((a &&& b : Nat) : Int) := by
  have hx : a &&& b < 2 ^ 63 := Nat.and_lt_two_pow _ (by omega)
  have e : ∀ n : Nat, n < 9223372036854775808 → (BitVec.ofInt 64 (n : Int)).toNat = n := fun n hn => by
    rw [BitVec.ofInt_natCast, BitVec.toNat_ofNat]; exact Nat.mod_eq_of_lt (by omega)
  show IntKind.i64.wrap ((BitVec.ofInt 64 (a : Int) &&& BitVec.ofInt 64 (b : Int)).toNat : Int) = _
  rw [BitVec.toNat_and, e a ha, e b hb, IntKind.wrap_i64]
  omega
theorem shr_u64 (x k : Nat) (hk : k ≤ 64) : shrI .u64 (x : Int) (k : Int) = ((x / 2 ^ k : Nat) : Int) := by
  simp only [shrI, IntKind.bits, Int.toNat_natCast]
  rw [Nat.min_eq_left hk, Int.fdiv_eq_ediv_of_nonneg _ (by exact_mod_cast Nat.zero_le _)]
  norm_cast
theorem wrap_u (n : Nat) (h : n < 18446744073709551616) : IntKind.wrap .u64 (n : Int) = (n : Int) := by rw [IntKind.wrap_u64]; omega
theorem tdiv_nat (a b : Nat) : Int.tdiv (a : Int) (b : Int) = ((a / b : Nat) : Int) := by rw [Int.tdiv_eq_ediv_of_nonneg (by omega)]; rfl
theorem tmod_nat (a b : Nat) : Int.tmod (a : Int) (b : Int) = ((a % b : Nat) : Int) := by rw [Int.tmod_eq_emod_of_nonneg (by omega)]; rfl
theorem wrap_n (n : Nat) (h : n < 9223372036854775808) : IntKind.wrap .i64 (n : Int) = (n : Int) := wrap_id (by omega) (by omega)

theorem ones_word {Q : Value → World → Prop} {x : Nat} {w : World} (hx : x < 18446744073709551616) (hQ : Q (.int .i64 ((pc x : Nat) : Int)) w) : C_math_bits_OnesCount64 #[.int .u64 (x : Int)] w Q := by
  refine C_math_bits_OnesCount64_eq _ _ _ ?_
  obtain ⟨b1, b2, b3, b4⟩ := swar hx
  have e1 : IntKind.wrap .u64 ((bits .and .u64 (shrI .u64 (x : Int) 1) 6148914691236517205) + (bits .and .u64 (x : Int) 6148914691236517205)) = ((swar1 x : Nat) : Int) := by
    have h1 := shr_u64 x 1 (by decide)
    have h2 := u64_and (x / 2 ^ 1) 6148914691236517205 (by omega) (by decide)
    have h3 := u64_and x 6148914691236517205 hx (by decide)
    rw [show (1 : Int) = ((1 : Nat) : Int) from rfl, h1, show (6148914691236517205 : Int) = ((6148914691236517205 : Nat) : Int) from rfl, h2, h3, ← Int.natCast_add]
    exact wrap_u _ b1
  rw [e1]
  generalize swar1 x = y at *
  have e2 : IntKind.wrap .u64 ((bits .and .u64 (shrI .u64 (y : Int) 2) 3689348814741910323) + (bits .and .u64 (y : Int) 3689348814741910323)) = ((swar2 y : Nat) : Int) := by
    have h1 := shr_u64 y 2 (by decide)
    have h2 := u64_and (y / 2 ^ 2) 3689348814741910323 (by omega) (by decide)
    have h3 := u64_and y 3689348814741910323 b1 (by decide)
    rw [show (2 : Int) = ((2 : Nat) : Int) from rfl, h1, show (3689348814741910323 : Int) = ((3689348814741910323 : Nat) : Int) from rfl, h2, h3, ← Int.natCast_add]
    exact wrap_u _ (by show swar2 y < _; omega)
  rw [e2]
  generalize swar2 y = z at *
  have e3 : bits .and .u64 (IntKind.wrap .u64 ((shrI .u64 (z : Int) 4) + (z : Int))) 1085102592571150095 = ((swar3 z : Nat) : Int) := by
    have h1 := shr_u64 z 4 (by decide)
    have h2 := u64_and (z / 2 ^ 4 + z) 1085102592571150095 (by omega) (by decide)
    rw [show (4 : Int) = ((4 : Nat) : Int) from rfl, h1, ← Int.natCast_add, wrap_u _ (by omega), show (1085102592571150095 : Int) = ((1085102592571150095 : Nat) : Int) from rfl, h2]
    rfl
  rw [e3]
  generalize swar3 z = v at *
  have e4 : IntKind.wrap .u64 ((v : Int) + (shrI .u64 (v : Int) 8)) = ((v + v / 256 : Nat) : Int) := by
    have h1 := shr_u64 v 8 (by decide)
    rw [show (8 : Int) = ((8 : Nat) : Int) from rfl, h1, ← Int.natCast_add]
    exact wrap_u _ (by omega)
  rw [e4]
  have hA : v + v / 256 < 700000000000000000 := by omega
  generalize hAe : v + v / 256 = A at *
  have e5 : IntKind.wrap .u64 ((A : Int) + (shrI .u64 (A : Int) 16)) = ((A + A / 65536 : Nat) : Int) := by
    have h1 := shr_u64 A 16 (by decide)
    rw [show (16 : Int) = ((16 : Nat) : Int) from rfl, h1, ← Int.natCast_add]
    exact wrap_u _ (by omega)
  rw [e5]
  have hB : A + A / 65536 < 800000000000000000 := by omega
  generalize hBe : A + A / 65536 = B at *
  have e6 : IntKind.wrap .u64 ((B : Int) + (shrI .u64 (B : Int) 32)) = ((B + B / 4294967296 : Nat) : Int) := by
    have h1 := shr_u64 B 32 (by decide)
    rw [show (32 : Int) = ((32 : Nat) : Int) from rfl, h1, ← Int.natCast_add]
    exact wrap_u _ (by omega)
  rw [e6, wrap_n _ (by omega)]
  have h7 := i64_and (B + B / 4294967296) 127 (by omega) (by decide)
  rw [show (127 : Int) = ((127 : Nat) : Int) from rfl, h7]
  have e8 : (B + B / 4294967296) &&& 127 = pc x := by rw [← b4]; simp only [swar4, hAe, hBe]
  rw [e8]
  exact hQ

theorem count_word {Q : Value → World → Prop} {n : Nat} {w : World} (hn : n ≤ 562949953421312) (hQ : Q (.int .i64 ((laid n : Nat) : Int)) w) : C_tlog_count #[.int .i64 (n : Int)] w Q := by
  refine C_tlog_count_eq _ _ _ ?_
  have h1 := laid_pc (n := n) (by omega)
  rw [wrap_u n (by omega)]
  refine ones_word (by omega) (opnI_s ?_)
  rw [wrap_id (n := 2 * (n : Int)) (by omega) (by omega), wrap_id (by omega) (by omega), show 2 * (n : Int) - ((pc n : Nat) : Int) = ((laid n : Nat) : Int) by omega]
  exact hQ
theorem filled_word {Q : Value → World → Prop} {c : Nat} {w : World} (hc : c ≤ 562949953421311) (hQ : Q (.int .i64 ((recOf c : Nat) : Int)) w) : C_tlog_filled #[.int .i64 (c : Int)] w Q := by
  refine C_tlog_filled_eq _ _ _ ⟨by decide, ?_⟩
  have go : ∀ (k n : Nat), n + k = 281474976710656 → laid n ≤ c → N_tlog_filled.j2 Q (c : Int) (n : Int) w := by
    intro k
    induction k with
    | zero =>
      intro n hn hl
      have hge : (281474976710656 : Int) ≤ (n : Int) := by omega
      apply N_tlog_filled.j2_eq
      rw [decide_eq_false (by omega), cond_false]
      refine N_tlog_filled.j4_eq (h := ?_)
      rw [recOf_eq (c := c) (n := n) (IsRec.mk (by omega) hl fun _ => by omega)] at hQ
      exact hQ
    | succ k ih =>
      intro n hn hl
      have hge : (n : Int) < 281474976710656 := by omega
      apply N_tlog_filled.j2_eq
      rw [decide_eq_true hge, cond_true]
      rw [wrap_nat (by omega)]
      refine count_word (by omega) (opnI_s ?_)
      by_cases hle : laid (n + 1) ≤ c
      · exact c_le (by omega) (ih (n + 1) (by omega) hle)
      · refine c_nle (by omega) (N_tlog_filled.j4_eq (h := ?_))
        rw [recOf_eq (c := c) (n := n) (IsRec.mk (by omega) hl fun _ => by omega)] at hQ
        exact hQ
  have h2 := tdiv_nat c 2
  rw [show (2 : Int) = ((2 : Nat) : Int) from rfl, h2, wrap_n _ (by omega)]
  have := laid_le (c / 2)
  exact go (281474976710656 - c / 2) (c / 2) (by omega) (by omega)
theorem place_word {Q : Value → World → Prop} {level n : Nat} {w : World} (h48 : level ≤ 48) (h : (n + 1) * 2 ^ level ≤ 281474976710656) (hQ : Q (.int .i64 ((placeOf level n : Nat) : Int)) w) : C_tlog_place #[.int .i64 (level : Int), .int .i64 (n : Int)] w Q := by
  refine C_tlog_place_eq _ _ _ _ (nn_nat ?_)
  have hp : 0 < (n + 1) * 2 ^ level := Nat.mul_pos (by omega) (pow_pos2 _)
  have hn : n + 1 ≤ (n + 1) * 2 ^ level := Nat.le_mul_of_pos_right _ (pow_pos2 _)
  have hl := place_lt h
  rw [wrap_nat (by omega), shl_nat _ _ (by omega) (by omega), wrap_id (by omega) (by omega), show (((n + 1) * 2 ^ level : Nat) : Int) - 1 = (((n + 1) * 2 ^ level - 1 : Nat) : Int) by omega]
  refine count_word (by omega) (opnI_s ?_)
  rw [← Int.natCast_add, wrap_n _ (by unfold placeOf at hl; omega)]
  exact hQ
/-- Index -/
def idxOk (level n : Int) : Prop := 0 ≤ level ∧ level ≤ 48 ∧ 0 ≤ n ∧ (n.toNat + 1) * 2 ^ level.toNat ≤ 281474976710656
theorem idx_shift {level n : Nat} (h48 : level ≤ 48) : 281474976710656 / 2 ^ level ≤ n ↔ ¬ (n + 1) * 2 ^ level ≤ 281474976710656 := by
  have hp := pow_pos2 level
  rw [← Nat.le_div_iff_mul_le hp]; omega
theorem index_word {Q : Value → World → Prop} {level n : Int} {w : World} (hok : idxOk level n → Q (.tuple #[.int .i64 ((placeOf level.toNat n.toNat : Nat) : Int), .int .i64 0]) w) (hno : ¬ idxOk level n → Q (.tuple #[.int .i64 0, .int .i64 1]) w) : C_tlog_Index #[.int .i64 level, .int .i64 n] w Q := by
  refine C_tlog_Index_eq _ _ _ _ ?_
  by_cases h1 : level < 0
  · exact c_lt h1 (N_tlog_Index.j2_eq (h := hno (by unfold idxOk; omega)))
  refine c_nlt (by omega) ?_
  by_cases h2 : level > 48
  · exact c_gt h2 (N_tlog_Index.j2_eq (h := hno (by unfold idxOk; omega)))
  refine c_ngt (by omega) ?_
  by_cases h3 : n < 0
  · exact c_lt h3 (N_tlog_Index.j2_eq (h := hno (by unfold idxOk; omega)))
  refine c_nlt (by omega) ?_
  obtain ⟨l, rfl⟩ := Int.eq_ofNat_of_zero_le (by omega : 0 ≤ level)
  obtain ⟨n, rfl⟩ := Int.eq_ofNat_of_zero_le (by omega : 0 ≤ n)
  refine nn_nat ?_
  have hs := shr_nat 281474976710656 l (by omega)
  rw [show (281474976710656 : Int) = ((281474976710656 : Nat) : Int) from rfl, hs]
  by_cases h4 : (n + 1) * 2 ^ l ≤ 281474976710656
  · have h5 := mt (idx_shift (n := n) (show l ≤ 48 by omega)).1 (by simpa using h4)
    refine c_nge (by omega) (place_word (by omega) h4 (opnI_s ?_))
    have := hok ⟨by omega, by omega, by omega, by simpa using h4⟩
    simp only [Int.toNat_natCast] at this
    exact this
  · have h5 := (idx_shift (n := n) (show l ≤ 48 by omega)).2 h4
    exact c_ge (by omega) (N_tlog_Index.j2_eq (h := hno (fun g => h4 (by simpa only [Int.toNat_natCast] using g.2.2.2))))
/-- SplitIndex -/
theorem split_word {Q : Value → World → Prop} {c : Int} {w : World} (hok : ∀ c' : Nat, c = c' → c' < 562949953421311 → ∀ w', Chg None w w' → Q (.tuple #[.int .i64 ((levOf c' : Nat) : Int), .int .i64 ((nodOf c' : Nat) : Int), .int .i64 0]) w') (hno : ¬ (0 ≤ c ∧ c < 562949953421311) → Q (.tuple #[.int .i64 0, .int .i64 0, .int .i64 1]) w) : C_tlog_SplitIndex #[.int .i64 c] w Q := by
  refine C_tlog_SplitIndex_eq _ _ _ ?_
  by_cases h1 : c < 0
  · exact c_lt h1 (N_tlog_SplitIndex.j2_eq (h := hno (by omega)))
  refine c_nlt (by omega) ?_
  have h281 : (281474976710656 : Int) = ((281474976710656 : Nat) : Int) := rfl
  rw [h281]
  refine count_word (by omega) (opnI_s ?_)
  rw [laid_max]
  obtain ⟨c, rfl⟩ := Int.eq_ofNat_of_zero_le (by omega : 0 ≤ c)
  by_cases h2 : 562949953421311 ≤ c
  · exact c_ge (by omega) (N_tlog_SplitIndex.j2_eq (h := hno (by omega)))
  refine c_nge (by omega) (filled_word (by omega) (opnI_s ?_))
  have hr := rec_lt (c := c) (by omega)
  refine count_word (by omega) (opnI_s ?_)
  rw [drw_s]
  have h3 := (recOf_is c).2.1
  have hl := lev_le (c := c) (by omega)
  obtain ⟨h4, h5⟩ := split_pos (c := c) (by omega)
  have e1 : IntKind.wrap .i64 ((c : Int) - ((laid (recOf c) : Nat) : Int)) = ((levOf c : Nat) : Int) := by
    rw [wrap_id (by omega) (by omega)]; unfold levOf; omega
  rw [e1, wrap_nat (by omega)]
  refine nn_nat ?_
  rw [shr_nat _ _ (by omega)]
  have hle : (recOf c + 1) / 2 ^ levOf c ≤ recOf c + 1 := Nat.div_le_self _ _
  rw [wrap_id (by omega) (by omega), show (((recOf c + 1) / 2 ^ levOf c : Nat) : Int) - 1 = ((nodOf c : Nat) : Int) by unfold nodOf; omega]
  exact hok c rfl (by omega) _ (Chg.drew0 w)
theorem tcount_word {Q : Value → World → Prop} {n : Int} {w : World} (hok : 0 ≤ n → n ≤ 281474976710656 → Q (.tuple #[.int .i64 ((laid n.toNat : Nat) : Int), .int .i64 0]) w) (hno : ¬ (0 ≤ n ∧ n ≤ 281474976710656) → Q (.tuple #[.int .i64 0, .int .i64 1]) w) : C_tlog_Count #[.int .i64 n] w Q := by
  refine C_tlog_Count_eq _ _ _ ?_
  by_cases h1 : n < 0
  · exact c_lt h1 (N_tlog_Count.j2_eq (h := hno (by omega)))
  refine c_nlt (by omega) ?_
  by_cases h2 : n > 281474976710656
  · exact c_gt h2 (N_tlog_Count.j2_eq (h := hno (by omega)))
  refine c_ngt (by omega) ?_
  obtain ⟨n, rfl⟩ := Int.eq_ofNat_of_zero_le (by omega : 0 ≤ n)
  exact count_word (by omega) (opnI_s (hok (by omega) (by omega)))

/-! ### the document's -/
theorem rlaid_word {Q : Value → World → Prop} {n : Nat} {w : World} (hn : n ≤ 562949953421312) (hQ : Q (.int .i64 ((laid n : Nat) : Int)) w) : C_r08_laid #[.int .i64 (n : Int)] w Q := by
  refine C_r08_laid_eq _ _ _ ?_
  have go : ∀ (n s : Nat), s + laid n ≤ 1125899906842624 → s + laid n = s + laid n → (Q (.int .i64 ((s + laid n : Nat) : Int)) w) → N_r08_laid.j2 Q (n : Int) (s : Int) w := by
    intro n
    induction n using Nat.strongRecOn with
    | _ n ih =>
      intro s hs _ hq
      by_cases h0 : n = 0
      · subst h0
        rw [laid_zero] at hq
        exact N_r08_laid.j2_eq (h := c_ngt (by omega) hq)
      · have e := laid_eq n
        refine N_r08_laid.j2_eq (h := c_gt (by omega) ⟨by decide, ?_⟩)
        have h2 := tdiv_nat n 2
        have hg := laid_ge n
        rw [show (2 : Int) = ((2 : Nat) : Int) from rfl, h2, wrap_n _ (by omega), ← Int.natCast_add, wrap_n _ (by omega)]
        refine ih (n / 2) (by omega) (s + n) (by omega) rfl ?_
        rw [show s + n + laid (n / 2) = s + laid n by omega]
        exact hq
  have := laid_le n
  exact go n 0 (by omega) rfl (by rw [Nat.zero_add]; exact hQ)
theorem rpower_word {Q : Value → World → Prop} {n : Nat} {w : World} (hn : n ≤ 62) (hQ : Q (.int .i64 ((2 ^ n : Nat) : Int)) w) : C_r08_power #[.int .i64 (n : Int)] w Q := by
  refine C_r08_power_eq _ _ _ ?_
  have go : ∀ (k i : Nat), i + k = n → N_r08_power.j3 Q (n : Int) ((2 ^ i : Nat) : Int) (i : Int) w := by
    intro k
    induction k with
    | zero => intro i hi; refine N_r08_power.j3_eq (h := c_nlt (by omega) ?_); rw [show i = n by omega]; exact hQ
    | succ k ih =>
      intro i hi
      refine N_r08_power.j3_eq (h := c_lt (by omega) ?_)
      have hle : 2 ^ i ≤ 2 ^ 61 := Nat.pow_le_pow_right (by decide) (by omega)
      have := ih (i + 1) (by omega)
      rw [Nat.pow_succ] at this
      generalize 2 ^ i = P at *
      rw [wrap_nat (by omega), wrap_id (by omega) (by omega), show 2 * (P : Int) = ((P * 2 : Nat) : Int) by omega]
      exact this
  exact go n 0 (by omega)
theorem rrecord_word {Q : Value → World → Prop} {c : Nat} {w : World} (hQ : Q (.int .i64 ((recOf c : Nat) : Int)) w) : C_r08_record #[.int .i64 (c : Int)] w Q := by
  refine C_r08_record_eq _ _ _ ?_
  have go : ∀ (k lo hi : Nat), hi - lo ≤ k → lo ≤ hi → hi ≤ 281474976710656 → laid lo ≤ c → (hi < 281474976710656 → c < laid (hi + 1)) → N_r08_record.j3 Q (c : Int) (lo : Int) (hi : Int) w := by
    intro k
    induction k with
    | zero =>
      intro lo hi hk h1 h2 h3 h4
      obtain rfl : lo = hi := by omega
      refine N_r08_record.j3_eq (h := c_nlt (by omega) ?_)
      rw [recOf_eq (c := c) (n := lo) (IsRec.mk h2 h3 h4)] at hQ
      exact hQ
    | succ k ih =>
      intro lo hi hk h1 h2 h3 h4
      by_cases he : lo = hi
      · subst he
        refine N_r08_record.j3_eq (h := c_nlt (by omega) ?_)
        rw [recOf_eq (c := c) (n := lo) (IsRec.mk h2 h3 h4)] at hQ
        exact hQ
      refine N_r08_record.j3_eq (h := c_lt (by omega) ⟨by decide, ?_⟩)
      have hd := tdiv_nat (lo + hi + 1) 2
      rw [← Int.natCast_add, wrap_n _ (by omega), wrap_nat (by omega), show (2 : Int) = ((2 : Nat) : Int) from rfl, hd, wrap_n _ (by omega)]
      generalize hm : (lo + hi + 1) / 2 = m
      refine rlaid_word (by omega) (opnI_s ?_)
      by_cases hle : laid m ≤ c
      · exact c_le (by omega) (ih m hi (by omega) (by omega) h2 hle h4)
      · refine c_nle (by omega) ?_
        rw [wrap_id (by omega) (by omega), show (m : Int) - 1 = ((m - 1 : Nat) : Int) by omega]
        exact ih lo (m - 1) (by omega) (by omega) (by omega) h3 fun _ => by rw [show m - 1 + 1 = m by omega]; omega
  exact go 281474976710656 0 281474976710656 (by omega) (by omega) (by omega) (by rw [laid_zero]; exact Nat.zero_le _) (by omega)
theorem rindex_word {Q : Value → World → Prop} {level n : Int} {w : World} (hok : idxOk level n → Q (.tuple #[.int .i64 ((placeOf level.toNat n.toNat : Nat) : Int), .int .i64 0]) w) (hno : ¬ idxOk level n → Q (.tuple #[.int .i64 0, .int .i64 1]) w) : C_r08_Index #[.int .i64 level, .int .i64 n] w Q := by
  refine C_r08_Index_eq _ _ _ _ ?_
  by_cases h1 : level < 0
  · exact c_lt h1 (N_r08_Index.j2_eq (h := hno (by unfold idxOk; omega)))
  refine c_nlt (by omega) ?_
  by_cases h2 : level > 48
  · exact c_gt h2 (N_r08_Index.j2_eq (h := hno (by unfold idxOk; omega)))
  refine c_ngt (by omega) ?_
  by_cases h3 : n < 0
  · exact c_lt h3 (N_r08_Index.j2_eq (h := hno (by unfold idxOk; omega)))
  refine c_nlt (by omega) ?_
  obtain ⟨l, rfl⟩ := Int.eq_ofNat_of_zero_le (by omega : 0 ≤ level)
  obtain ⟨n, rfl⟩ := Int.eq_ofNat_of_zero_le (by omega : 0 ≤ n)
  have hp := pow_pos2 l
  have hn1 : n + 1 ≤ (n + 1) * 2 ^ l := Nat.le_mul_of_pos_right _ hp
  by_cases h5 : 281474976710656 ≤ n
  · exact c_ge (by omega) (N_r08_Index.j2_eq (h := hno (fun g => by have := g.2.2.2; simp only [Int.toNat_natCast] at this; omega)))
  refine c_nge (by omega) (rpower_word (by omega) (opnI_s ⟨by omega, ?_⟩))
  have hd := tdiv_nat 281474976710656 (2 ^ l)
  have hle : 281474976710656 / 2 ^ l ≤ 281474976710656 := Nat.div_le_self _ _
  rw [show (281474976710656 : Int) = ((281474976710656 : Nat) : Int) from rfl, hd, wrap_n _ (by omega), wrap_nat (by omega)]
  by_cases h4 : (n + 1) * 2 ^ l ≤ 281474976710656
  · have h6 := (Nat.le_div_iff_mul_le hp).2 h4
    refine c_ngt (by omega) ?_
    rw [show (((n + 1 : Nat) : Int) * ((2 ^ l : Nat) : Int)) = (((n + 1) * 2 ^ l : Nat) : Int) by norm_cast, wrap_n _ (by omega), wrap_id (by omega) (by omega), show (((n + 1) * 2 ^ l : Nat) : Int) - 1 = (((n + 1) * 2 ^ l - 1 : Nat) : Int) by omega]
    refine rlaid_word (by omega) (opnI_s ?_)
    have hl := place_lt h4
    rw [← Int.natCast_add, wrap_n _ (by unfold placeOf at hl; omega)]
    have := hok ⟨by omega, by omega, by omega, by simpa using h4⟩
    simp only [Int.toNat_natCast] at this
    exact this
  · have h6 := mt (Nat.le_div_iff_mul_le hp).1 h4
    exact c_gt (by omega) (hno (fun g => h4 (by simpa only [Int.toNat_natCast] using g.2.2.2)))
theorem rsplit_word {Q : Value → World → Prop} {c : Int} {w : World} (hok : ∀ c' : Nat, c = c' → c' < 562949953421311 → ∀ w', Chg None w w' → Q (.tuple #[.int .i64 ((levOf c' : Nat) : Int), .int .i64 ((nodOf c' : Nat) : Int), .int .i64 0]) w') (hno : ¬ (0 ≤ c ∧ c < 562949953421311) → Q (.tuple #[.int .i64 0, .int .i64 0, .int .i64 1]) w) : C_r08_SplitIndex #[.int .i64 c] w Q := by
  refine C_r08_SplitIndex_eq _ _ _ ?_
  by_cases h1 : c < 0
  · exact c_lt h1 (N_r08_SplitIndex.j2_eq (h := hno (by omega)))
  refine c_nlt (by omega) ?_
  by_cases h2 : 562949953421311 ≤ c
  · exact c_ge (by omega) (N_r08_SplitIndex.j2_eq (h := hno (by omega)))
  refine c_nge (by omega) ?_
  obtain ⟨c, rfl⟩ := Int.eq_ofNat_of_zero_le (by omega : 0 ≤ c)
  refine rrecord_word (opnI_s ?_)
  have hr := rec_lt (c := c) (by omega)
  refine rlaid_word (by omega) (opnI_s ?_)
  rw [drw_s]
  have h3 := (recOf_is c).2.1
  have hl := lev_le (c := c) (by omega)
  obtain ⟨h4, h5⟩ := split_pos (c := c) (by omega)
  have e1 : IntKind.wrap .i64 ((c : Int) - ((laid (recOf c) : Nat) : Int)) = ((levOf c : Nat) : Int) := by
    rw [wrap_id (by omega) (by omega)]; unfold levOf; omega
  rw [e1, wrap_nat (by omega)]
  have hp := pow_pos2 (levOf c)
  refine rpower_word (by omega) (opnI_s ⟨by omega, ?_⟩)
  have hle : (recOf c + 1) / 2 ^ levOf c ≤ recOf c + 1 := Nat.div_le_self _ _
  rw [tdiv_nat, wrap_n _ (by omega), wrap_id (by omega) (by omega), show (((recOf c + 1) / 2 ^ levOf c : Nat) : Int) - 1 = ((nodOf c : Nat) : Int) by unfold nodOf; omega]
  exact hok c rfl (by omega) _ (Chg.drew0 w)
end Go.Proofs.YtccjncflbbhldaaDoor.Pl
/-! ## ShGr0 -/
set_option maxRecDepth 100000
namespace Go.Proofs.YtccjncflbbhldaaDoor
open Go.Sh
/-! ### ledger/ledgerlaw10.TileReads -/
noncomputable def B_l10_TileReads : Code := match Tryd.f5.body with | some c => c | _ => .skip
noncomputable def X_l10_TileReads : Cx := { P := PP, fn := 5, N := 134, tab := tab, results := [.tmp 2], iter := fun _ => (.none, .none), dyn := fun _ => false, live := fun r => cond (Nat.beq r 8) (some []) (cond (Nat.beq r 13) (some [1, 3, 4, 5, 6, 7, 9, 10, 11, 13, 14, 15, 16]) (cond (Nat.beq r 22) (some []) (cond (Nat.beq r 24) (some [6, 9, 19, 21]) (none)))) }
theorem K_l10_TileReads : OkF X_l10_TileReads B_l10_TileReads Tryd.f5 := ⟨⟨tab_ok, mix_ok⟩, Tryd.func5, by kernel_rfl, by kernel_rfl, by kernel_rfl, by kernel_rfl⟩
noncomputable def N_l10_TileReads.j8 (Q : Value → World → Prop) (w : World) : Prop := Nd X_l10_TileReads Q [] [.code (B_l10_TileReads.r.r.r.r.r.r.r.l.r.l.l), .code (B_l10_TileReads.r.r.r.r.r.r.r.l.r.l.r), .code (B_l10_TileReads.r.r.r.r.r.r.r.r)] w
noncomputable def N_l10_TileReads.j13 (Q : Value → World → Prop) (s1 : Addr) (s3 : Int) (s4 : Int) (s5 : Int) (s6 : Option Addr) (s6n : Nat) (s6c : Nat) (s7 : Addr) (s9 : Option Addr) (s9n : Nat) (s9c : Nat) (s10 : Option Addr) (s10n : Nat) (s10c : Nat) (s11 : Option Addr) (s11n : Nat) (s11c : Nat) (s13 : Int) (s14 : Option Addr) (s14n : Nat) (s14c : Nat) (s15 : Option Addr) (s15n : Nat) (s15c : Nat) (s16 : Int) (w : World) : Prop := Nd X_l10_TileReads Q [(1, 1, .pointer (some s1)), (3, 3, .int .i64 s3), (4, 4, .int .i64 s4), (5, 5, .int .i64 s5), (6, 6, .slice s6 s6n s6c), (7, 7, .pointer (some s7)), (9, 9, .slice s9 s9n s9c), (10, 10, .slice s10 s10n s10c), (11, 11, .slice s11 s11n s11c), (13, 13, .int .i64 s13), (14, 14, .slice s14 s14n s14c), (15, 15, .slice s15 s15n s15c), (16, 16, .int .i64 s16)] [.code (B_l10_TileReads.r.r.r.r.r.r.r.r.r.r.r.l.r.l.l.l.l), .code (B_l10_TileReads.r.r.r.r.r.r.r.r.r.r.r.l.r.l.l.l.r), .code (B_l10_TileReads.r.r.r.r.r.r.r.r.r.r.r.l.r.l.l.r), .inLoop (B_l10_TileReads.r.r.r.r.r.r.r.r.r.r.r.l.r.l.l), .inBlock 0, .code (B_l10_TileReads.r.r.r.r.r.r.r.r.r.r.r.r)] w
noncomputable def N_l10_TileReads.j22 (Q : Value → World → Prop) (w : World) : Prop := Nd X_l10_TileReads Q [] [.code (B_l10_TileReads.r.r.r.r.r.r.r.r.r.r.r.r.r.r.r.l.r.l.l), .code (B_l10_TileReads.r.r.r.r.r.r.r.r.r.r.r.r.r.r.r.l.r.l.r), .code (B_l10_TileReads.r.r.r.r.r.r.r.r.r.r.r.r.r.r.r.r)] w
noncomputable def N_l10_TileReads.j24 (Q : Value → World → Prop) (s6 : Option Addr) (s6n : Nat) (s6c : Nat) (s9 : Option Addr) (s9n : Nat) (s9c : Nat) (s19 : Option Addr) (s19n : Nat) (s19c : Nat) (s21 : Int) (w : World) : Prop := Nd X_l10_TileReads Q [(6, 6, .slice s6 s6n s6c), (9, 9, .slice s9 s9n s9c), (19, 19, .slice s19 s19n s19c), (21, 21, .int .i64 s21)] [.code (B_l10_TileReads.r.r.r.r.r.r.r.r.r.r.r.r.r.r.r.r.l.r.l.l.l.l), .code (B_l10_TileReads.r.r.r.r.r.r.r.r.r.r.r.r.r.r.r.r.l.r.l.l.l.r), .code (B_l10_TileReads.r.r.r.r.r.r.r.r.r.r.r.r.r.r.r.r.l.r.l.l.r), .inLoop (B_l10_TileReads.r.r.r.r.r.r.r.r.r.r.r.r.r.r.r.r.l.r.l.l), .inBlock 2, .code (B_l10_TileReads.r.r.r.r.r.r.r.r.r.r.r.r.r.r.r.r.r)] w
theorem N_l10_TileReads.j8_eq (Q : Value → World → Prop) (w : World) (h :
  Q (.bool false) w) :
N_l10_TileReads.j8 Q w := Nd_fold K_l10_TileReads (by kernel_rfl) h
theorem N_l10_TileReads.j13_eq (Q : Value → World → Prop) (s1 : Addr) (s3 : Int) (s4 : Int) (s5 : Int) (s6 : Option Addr) (s6n : Nat) (s6c : Nat) (s7 : Addr) (s9 : Option Addr) (s9n : Nat) (s9c : Nat) (s10 : Option Addr) (s10n : Nat) (s10c : Nat) (s11 : Option Addr) (s11n : Nat) (s11c : Nat) (s13 : Int) (s14 : Option Addr) (s14n : Nat) (s14c : Nat) (s15 : Option Addr) (s15n : Nat) (s15c : Nat) (s16 : Int) (w : World) (h :
  cond (decide (s16 < s13))
  (opnI .i64 (w.cell? (s1.add 3)) fun x1 =>
  C_l10_within #[.int .i64 x1, .int .i64 s13] w fun v2 w3 =>
  opnI .i64 (some v2) fun x4 =>
  C_l10_within #[.int .i64 (IntKind.wrap .i64 (s16 + x4)), .int .i64 s13] w3 fun v5 w6 =>
  opnI .i64 (some v5) fun x7 =>
  (0 : Int) ≤ x7 ∧
  x7 < ((s10n : Nat) : Int) ∧
  opnA s10 fun ad8 =>
  opnI .i64 (w6.cell? ((ad8.add (Int.toNat x7 * 5)).add 0)) fun x9 =>
  opnI .i64 (w6.cell? ((ad8.add (Int.toNat x7 * 5)).add 1)) fun x10 =>
  opnI .i64 (w6.cell? ((ad8.add (Int.toNat x7 * 5)).add 2)) fun x11 =>
  opnI .i64 (w6.cell? ((ad8.add (Int.toNat x7 * 5)).add 3)) fun x12 =>
  opnB (w6.cell? ((ad8.add (Int.toNat x7 * 5)).add 4)) fun x13 =>
  alC #[.int .i64 x9, .int .i64 x10, .int .i64 x11, .int .i64 x12, .bool x13, .int .i64 s4, .int .i64 s16, .int .i64 (-1), .int .i64 1, .bool false] 24 w6 fun p14 w15 =>
  sem PP (Builtin.append_ #[64, 64] 64 #[.slice s14 s14n s14c, .slice (some p14) 2 2]) w15 fun v16 w17 =>
  opnL (some v16) fun x18 x18n x18c =>
  (0 : Int) ≤ x7 ∧
  x7 < ((s11n : Nat) : Int) ∧
  opnA s11 fun ad19 =>
  opnL (w17.cell? (ad19.add (Int.toNat x7 * 1))) fun x20 x20n x20c =>
  alC #[.int .u8 111, .int .u8 116, .int .u8 104, .int .u8 101, .int .u8 114] 5 w17 fun p21 w22 =>
  sem PP (convert 25 25 (.slice (some p21) 5 5)) w22 fun v23 w24 =>
  opnL (some v23) fun x25 x25n x25c =>
  alC #[.slice x20 x20n x20c, .slice x25 x25n x25c] 25 w24 fun p26 w27 =>
  sem PP (Builtin.append_ #[41, 41] 41 #[.slice s15 s15n s15c, .slice (some p26) 2 2]) w27 fun v28 w29 =>
  opnL (some v28) fun x30 x30n x30c =>
  N_l10_TileReads.j13 Q s1 s3 s4 s5 s6 s6n s6c s7 s9 s9n s9c s10 s10n s10c s11 s11n s11c s13 x18 x18n x18c x30 x30n x30c (IntKind.wrap .i64 (s16 + 1)) w29)
  (sem PP (Builtin.append_ #[51, 51] 51 #[.slice none 0 0, .slice s9 s9n s9c]) w fun v31 w32 =>
  opnL (some v31) fun x33 x33n x33c =>
  opnRow w32 s7 (32 * 1) fun x34 =>
  C_tile_Read #[.int .i64 s5, .int .i64 s4, .int .i64 s3, .agg x34, .slice s14 s14n s14c, .slice s15 s15n s15c, .slice x33 x33n x33c] w32 fun v35 w36 =>
  opnT (some v35) fun x37 =>
  x37.size = 2 ∧
  opnL (x37[0]?) fun x38 x38n x38c =>
  opnI .i64 (x37[1]?) fun x39 =>
  C_l10_num #[.int .i64 x39] w36 fun v40 w41 =>
  opnI .i64 (some v40) fun x42 =>
  cond (x42 != 0)
  (N_l10_TileReads.j22 Q w41)
  (cond (((x38n : Nat) : Int) != ((s9n : Nat) : Int))
  (N_l10_TileReads.j22 Q w41)
  (N_l10_TileReads.j24 Q s6 s6n s6c s9 s9n s9c x38 x38n x38c 0 w41)))) :
N_l10_TileReads.j13 Q s1 s3 s4 s5 s6 s6n s6c s7 s9 s9n s9c s10 s10n s10c s11 s11n s11c s13 s14 s14n s14c s15 s15n s15c s16 w := Nd_fold K_l10_TileReads (by kernel_rfl) h
theorem N_l10_TileReads.j22_eq (Q : Value → World → Prop) (w : World) (h :
  Q (.bool false) w) :
N_l10_TileReads.j22 Q w := Nd_fold K_l10_TileReads (by kernel_rfl) h
theorem N_l10_TileReads.j24_eq (Q : Value → World → Prop) (s6 : Option Addr) (s6n : Nat) (s6c : Nat) (s9 : Option Addr) (s9n : Nat) (s9c : Nat) (s19 : Option Addr) (s19n : Nat) (s19c : Nat) (s21 : Int) (w : World) (h :
  cond (decide (s21 < ((s9n : Nat) : Int)))
  (drw w fun w1 =>
  (0 : Int) ≤ s21 ∧
  s21 < ((s19n : Nat) : Int) ∧
  opnA s19 fun ad2 =>
  (0 : Int) ≤ s21 ∧
  s21 < ((s9n : Nat) : Int) ∧
  opnA s9 fun ad3 =>
  opnRow w1 (ad2.add (Int.toNat s21 * 32)) (32 * 1) fun x4 =>
  opnI .i64 (w1.cell? (ad3.add (Int.toNat s21 * 1))) fun x5 =>
  (0 : Int) ≤ x5 ∧
  x5 < ((s6n : Nat) : Int) ∧
  opnA s6 fun ad6 =>
  opnRow w1 (ad6.add (Int.toNat x5 * 32)) (32 * 1) fun x7 =>
  semR PP (do eqGuard .neq 29 (.tmp 125) (.tmp 132) (.agg x4) (.agg x7); binOp .neq 29 (.agg x4) (.agg x7)) w1 fun x8 =>
  opnB (some x8) fun x9 =>
  cond x9
  (Q (.bool false) w1)
  (N_l10_TileReads.j24 Q s6 s6n s6c s9 s9n s9c s19 s19n s19c (IntKind.wrap .i64 (s21 + 1)) w1))
  (Q (.bool true) w)) :
N_l10_TileReads.j24 Q s6 s6n s6c s9 s9n s9c s19 s19n s19c s21 w := Nd_fold K_l10_TileReads (by kernel_rfl) h
theorem C_l10_TileReads_eq (Q : Value → World → Prop) (a0_0 : Int) (a0_1 : Int) (a0_2 : Int) (a0_3 : Int) (a0_4 : Option Addr) (a0_4n : Nat) (a0_4c : Nat) (w : World) (h :
  alC #[.int .i64 a0_0, .int .i64 a0_1, .int .i64 a0_2, .int .i64 a0_3, .slice a0_4 a0_4n a0_4c] 53 w fun p1 w2 =>
  opnI .i64 (w2.cell? (p1.add 1)) fun x3 =>
  C_l10_within #[.int .i64 x3, .int .i64 300] w2 fun v4 w5 =>
  opnI .i64 (some v4) fun x6 =>
  opnI .i64 (w5.cell? (p1.add 2)) fun x7 =>
  C_l10_within #[.int .i64 x7, .int .i64 8] w5 fun v8 w9 =>
  opnI .i64 (some v8) fun x10 =>
  opnI .i64 (w9.cell? (p1.add 0)) fun x11 =>
  C_l10_tree #[.int .i64 x11, .int .i64 x6, .int .u8 1] w9 fun v12 w13 =>
  opnT (some v12) fun x14 =>
  x14.size = 3 ∧
  opnL (x14[0]?) fun x15 x15n x15c =>
  opnG (x14[1]?) fun x16 =>
  opnB (x14[2]?) fun x17 =>
  alZ PP 29 w13 fun p18 w19 =>
  stRow p18 x16 (32 * 1) w19 fun w20 =>
  opnL (w20.cell? (p1.add 4)) fun x21 x21n x21c =>
  C_l10_asked #[.slice x21 x21n x21c, .int .i64 ((x15n : Nat) : Int)] w20 fun v22 w23 =>
  opnL (some v22) fun x24 x24n x24c =>
  C_l10_fetched #[.int .i64 (IntKind.wrap .i64 (x10 + 1)), .int .i64 x6, .slice x15 x15n x15c, .slice x24 x24n x24c] w23 fun v25 w26 =>
  opnT (some v25) fun x27 =>
  x27.size = 3 ∧
  opnL (x27[0]?) fun x28 x28n x28c =>
  opnL (x27[1]?) fun x29 x29n x29c =>
  opnB (x27[2]?) fun x30 =>
  cond (!x17)
  (N_l10_TileReads.j8 Q w26)
  (cond (!x30)
  (N_l10_TileReads.j8 Q w26)
  (N_l10_TileReads.j13 Q p1 x6 (IntKind.wrap .i64 (x10 + 1)) x11 x15 x15n x15c p18 x24 x24n x24c x28 x28n x28c x29 x29n x29c ((x28n : Nat) : Int) none 0 0 none 0 0 0 w26))) :
C_l10_TileReads #[.agg #[.int .i64 a0_0, .int .i64 a0_1, .int .i64 a0_2, .int .i64 a0_3, .slice a0_4 a0_4n a0_4c]] w Q := C_fold K_l10_TileReads (by kernel_rfl) h
/-! ### ledger/ledgerlaw10.TileSpoilt -/
noncomputable def B_l10_TileSpoilt : Code := match Tryd.f6.body with | some c => c | _ => .skip
noncomputable def X_l10_TileSpoilt : Cx := { P := PP, fn := 6, N := 226, tab := tab, results := [.tmp 2], iter := fun _ => (.none, .none), dyn := fun _ => false, live := fun r => cond (Nat.beq r 7) (some []) (cond (Nat.beq r 16) (some []) (cond (Nat.beq r 17) (some [1, 3, 4, 6, 8, 9, 10, 12, 13]) (cond (Nat.beq r 18) (some [1, 3, 4, 6, 8, 9, 10, 12, 13]) (cond (Nat.beq r 19) (some [1, 3, 4, 6, 8, 9, 10, 12, 13, 17]) (cond (Nat.beq r 20) (some []) (cond (Nat.beq r 21) (some [1, 3, 4, 6, 8, 9, 10, 12, 13]) (cond (Nat.beq r 22) (some [1, 3, 4, 6, 8, 9, 10, 12]) (cond (Nat.beq r 23) (some [1, 3, 4, 6, 8, 9, 10, 12, 18]) (cond (Nat.beq r 24) (some [1, 3, 4, 6, 8, 9, 10, 12, 18]) (cond (Nat.beq r 25) (some [1, 3, 4, 6, 8, 9, 10, 12, 17]) (cond (Nat.beq r 26) (some []) (cond (Nat.beq r 27) (some [1, 3, 4, 6, 8, 9, 10, 12]) (cond (Nat.beq r 28) (some [1, 3, 4, 6, 8, 9, 10, 12, 19]) (cond (Nat.beq r 29) (some [1, 3, 4, 6, 8, 9, 10, 12, 19]) (cond (Nat.beq r 30) (some [1, 3, 4, 6, 8, 9, 10, 12, 17, 19]) (cond (Nat.beq r 31) (some [1, 3, 4, 6, 8, 9, 10, 17]) (cond (Nat.beq r 32) (some [17, 21]) (none)))))))))))))))))) }
theorem K_l10_TileSpoilt : OkF X_l10_TileSpoilt B_l10_TileSpoilt Tryd.f6 := ⟨⟨tab_ok, mix_ok⟩, Tryd.func6, by kernel_rfl, by kernel_rfl, by kernel_rfl, by kernel_rfl⟩
noncomputable def N_l10_TileSpoilt.j7 (Q : Value → World → Prop) (w : World) : Prop := Nd X_l10_TileSpoilt Q [] [.code (B_l10_TileSpoilt.r.r.r.r.r.r.l.r.l.l), .code (B_l10_TileSpoilt.r.r.r.r.r.r.l.r.l.r), .code (B_l10_TileSpoilt.r.r.r.r.r.r.r)] w
noncomputable def N_l10_TileSpoilt.j16 (Q : Value → World → Prop) (w : World) : Prop := Nd X_l10_TileSpoilt Q [] [.code (B_l10_TileSpoilt.r.r.r.r.r.r.r.r.r.r.r.r.r.r.l.r.l.l), .code (B_l10_TileSpoilt.r.r.r.r.r.r.r.r.r.r.r.r.r.r.l.r.l.r), .code (B_l10_TileSpoilt.r.r.r.r.r.r.r.r.r.r.r.r.r.r.r)] w
noncomputable def N_l10_TileSpoilt.j17 (Q : Value → World → Prop) (s1 : Addr) (s3 : Int) (s4 : Int) (s6 : Addr) (s8 : Option Addr) (s8n : Nat) (s8c : Nat) (s9 : Option Addr) (s9n : Nat) (s9c : Nat) (s10 : Option Addr) (s10n : Nat) (s10c : Nat) (s12 : Int) (s13 : Option Addr) (s13n : Nat) (s13c : Nat) (w : World) : Prop := Nd X_l10_TileSpoilt Q [(1, 1, .pointer (some s1)), (3, 3, .int .i64 s3), (4, 4, .int .i64 s4), (6, 6, .pointer (some s6)), (8, 8, .slice s8 s8n s8c), (9, 9, .slice s9 s9n s9c), (10, 10, .slice s10 s10n s10c), (12, 12, .int .i64 s12), (13, 13, .slice s13 s13n s13c)] [.code (B_l10_TileSpoilt.r.r.r.r.r.r.r.r.r.r.r.r.r.r.r.l), .code (B_l10_TileSpoilt.r.r.r.r.r.r.r.r.r.r.r.r.r.r.r.r)] w
noncomputable def N_l10_TileSpoilt.j18 (Q : Value → World → Prop) (s1 : Addr) (s3 : Int) (s4 : Int) (s6 : Addr) (s8 : Option Addr) (s8n : Nat) (s8c : Nat) (s9 : Option Addr) (s9n : Nat) (s9c : Nat) (s10 : Option Addr) (s10n : Nat) (s10c : Nat) (s12 : Int) (s13 : Option Addr) (s13n : Nat) (s13c : Nat) (w : World) : Prop := Nd X_l10_TileSpoilt Q [(1, 1, .pointer (some s1)), (3, 3, .int .i64 s3), (4, 4, .int .i64 s4), (6, 6, .pointer (some s6)), (8, 8, .slice s8 s8n s8c), (9, 9, .slice s9 s9n s9c), (10, 10, .slice s10 s10n s10c), (12, 12, .int .i64 s12), (13, 13, .slice s13 s13n s13c)] [.code (B_l10_TileSpoilt.r.r.r.r.r.r.r.r.r.r.r.r.r.r.r.r.l), .code (B_l10_TileSpoilt.r.r.r.r.r.r.r.r.r.r.r.r.r.r.r.r.r)] w
noncomputable def N_l10_TileSpoilt.j19 (Q : Value → World → Prop) (s1 : Addr) (s3 : Int) (s4 : Int) (s6 : Addr) (s8 : Option Addr) (s8n : Nat) (s8c : Nat) (s9 : Option Addr) (s9n : Nat) (s9c : Nat) (s10 : Option Addr) (s10n : Nat) (s10c : Nat) (s12 : Int) (s13 : Option Addr) (s13n : Nat) (s13c : Nat) (s17 : Int) (w : World) : Prop := Nd X_l10_TileSpoilt Q [(1, 1, .pointer (some s1)), (3, 3, .int .i64 s3), (4, 4, .int .i64 s4), (6, 6, .pointer (some s6)), (8, 8, .slice s8 s8n s8c), (9, 9, .slice s9 s9n s9c), (10, 10, .slice s10 s10n s10c), (12, 12, .int .i64 s12), (13, 13, .slice s13 s13n s13c), (17, 17, .int .i64 s17)] [.code (B_l10_TileSpoilt.r.r.r.r.r.r.r.r.r.r.r.r.r.r.r.r.r.l.l), .code (B_l10_TileSpoilt.r.r.r.r.r.r.r.r.r.r.r.r.r.r.r.r.r.l.r), .code (B_l10_TileSpoilt.r.r.r.r.r.r.r.r.r.r.r.r.r.r.r.r.r.r)] w
noncomputable def N_l10_TileSpoilt.j20 (Q : Value → World → Prop) (w : World) : Prop := Nd X_l10_TileSpoilt Q [] [.code (B_l10_TileSpoilt.r.r.r.r.r.r.r.r.r.r.r.r.r.r.r.r.r.l.r.l.l), .code (B_l10_TileSpoilt.r.r.r.r.r.r.r.r.r.r.r.r.r.r.r.r.r.l.r.l.r), .code (B_l10_TileSpoilt.r.r.r.r.r.r.r.r.r.r.r.r.r.r.r.r.r.r)] w
noncomputable def N_l10_TileSpoilt.j21 (Q : Value → World → Prop) (s1 : Addr) (s3 : Int) (s4 : Int) (s6 : Addr) (s8 : Option Addr) (s8n : Nat) (s8c : Nat) (s9 : Option Addr) (s9n : Nat) (s9c : Nat) (s10 : Option Addr) (s10n : Nat) (s10c : Nat) (s12 : Int) (s13 : Option Addr) (s13n : Nat) (s13c : Nat) (w : World) : Prop := Nd X_l10_TileSpoilt Q [(1, 1, .pointer (some s1)), (3, 3, .int .i64 s3), (4, 4, .int .i64 s4), (6, 6, .pointer (some s6)), (8, 8, .slice s8 s8n s8c), (9, 9, .slice s9 s9n s9c), (10, 10, .slice s10 s10n s10c), (12, 12, .int .i64 s12), (13, 13, .slice s13 s13n s13c)] [.code (B_l10_TileSpoilt.r.r.r.r.r.r.r.r.r.r.r.r.r.r.r.r.r.r.l), .code (B_l10_TileSpoilt.r.r.r.r.r.r.r.r.r.r.r.r.r.r.r.r.r.r.r)] w
noncomputable def N_l10_TileSpoilt.j22 (Q : Value → World → Prop) (s1 : Addr) (s3 : Int) (s4 : Int) (s6 : Addr) (s8 : Option Addr) (s8n : Nat) (s8c : Nat) (s9 : Option Addr) (s9n : Nat) (s9c : Nat) (s10 : Option Addr) (s10n : Nat) (s10c : Nat) (s12 : Int) (w : World) : Prop := Nd X_l10_TileSpoilt Q [(1, 1, .pointer (some s1)), (3, 3, .int .i64 s3), (4, 4, .int .i64 s4), (6, 6, .pointer (some s6)), (8, 8, .slice s8 s8n s8c), (9, 9, .slice s9 s9n s9c), (10, 10, .slice s10 s10n s10c), (12, 12, .int .i64 s12)] [.code (B_l10_TileSpoilt.r.r.r.r.r.r.r.r.r.r.r.r.r.r.r.r.r.r.r.l), .code (B_l10_TileSpoilt.r.r.r.r.r.r.r.r.r.r.r.r.r.r.r.r.r.r.r.r)] w
noncomputable def N_l10_TileSpoilt.j23 (Q : Value → World → Prop) (s1 : Addr) (s3 : Int) (s4 : Int) (s6 : Addr) (s8 : Option Addr) (s8n : Nat) (s8c : Nat) (s9 : Option Addr) (s9n : Nat) (s9c : Nat) (s10 : Option Addr) (s10n : Nat) (s10c : Nat) (s12 : Int) (s18 : Addr) (w : World) : Prop := Nd X_l10_TileSpoilt Q [(1, 1, .pointer (some s1)), (3, 3, .int .i64 s3), (4, 4, .int .i64 s4), (6, 6, .pointer (some s6)), (8, 8, .slice s8 s8n s8c), (9, 9, .slice s9 s9n s9c), (10, 10, .slice s10 s10n s10c), (12, 12, .int .i64 s12), (18, 18, .pointer (some s18))] [.code (B_l10_TileSpoilt.r.r.r.r.r.r.r.r.r.r.r.r.r.r.r.r.r.r.r.r.l), .code (B_l10_TileSpoilt.r.r.r.r.r.r.r.r.r.r.r.r.r.r.r.r.r.r.r.r.r)] w
noncomputable def N_l10_TileSpoilt.j24 (Q : Value → World → Prop) (s1 : Addr) (s3 : Int) (s4 : Int) (s6 : Addr) (s8 : Option Addr) (s8n : Nat) (s8c : Nat) (s9 : Option Addr) (s9n : Nat) (s9c : Nat) (s10 : Option Addr) (s10n : Nat) (s10c : Nat) (s12 : Int) (s18 : Addr) (w : World) : Prop := Nd X_l10_TileSpoilt Q [(1, 1, .pointer (some s1)), (3, 3, .int .i64 s3), (4, 4, .int .i64 s4), (6, 6, .pointer (some s6)), (8, 8, .slice s8 s8n s8c), (9, 9, .slice s9 s9n s9c), (10, 10, .slice s10 s10n s10c), (12, 12, .int .i64 s12), (18, 18, .pointer (some s18))] [.code (B_l10_TileSpoilt.r.r.r.r.r.r.r.r.r.r.r.r.r.r.r.r.r.r.r.r.r.l), .code (B_l10_TileSpoilt.r.r.r.r.r.r.r.r.r.r.r.r.r.r.r.r.r.r.r.r.r.r)] w
noncomputable def N_l10_TileSpoilt.j25 (Q : Value → World → Prop) (s1 : Addr) (s3 : Int) (s4 : Int) (s6 : Addr) (s8 : Option Addr) (s8n : Nat) (s8c : Nat) (s9 : Option Addr) (s9n : Nat) (s9c : Nat) (s10 : Option Addr) (s10n : Nat) (s10c : Nat) (s12 : Int) (s17 : Int) (w : World) : Prop := Nd X_l10_TileSpoilt Q [(1, 1, .pointer (some s1)), (3, 3, .int .i64 s3), (4, 4, .int .i64 s4), (6, 6, .pointer (some s6)), (8, 8, .slice s8 s8n s8c), (9, 9, .slice s9 s9n s9c), (10, 10, .slice s10 s10n s10c), (12, 12, .int .i64 s12), (17, 17, .int .i64 s17)] [.code (B_l10_TileSpoilt.r.r.r.r.r.r.r.r.r.r.r.r.r.r.r.r.r.r.r.r.r.r.l.l), .code (B_l10_TileSpoilt.r.r.r.r.r.r.r.r.r.r.r.r.r.r.r.r.r.r.r.r.r.r.l.r), .code (B_l10_TileSpoilt.r.r.r.r.r.r.r.r.r.r.r.r.r.r.r.r.r.r.r.r.r.r.r)] w
noncomputable def N_l10_TileSpoilt.j26 (Q : Value → World → Prop) (w : World) : Prop := Nd X_l10_TileSpoilt Q [] [.code (B_l10_TileSpoilt.r.r.r.r.r.r.r.r.r.r.r.r.r.r.r.r.r.r.r.r.r.r.l.r.l.l), .code (B_l10_TileSpoilt.r.r.r.r.r.r.r.r.r.r.r.r.r.r.r.r.r.r.r.r.r.r.l.r.l.r), .code (B_l10_TileSpoilt.r.r.r.r.r.r.r.r.r.r.r.r.r.r.r.r.r.r.r.r.r.r.r)] w
noncomputable def N_l10_TileSpoilt.j27 (Q : Value → World → Prop) (s1 : Addr) (s3 : Int) (s4 : Int) (s6 : Addr) (s8 : Option Addr) (s8n : Nat) (s8c : Nat) (s9 : Option Addr) (s9n : Nat) (s9c : Nat) (s10 : Option Addr) (s10n : Nat) (s10c : Nat) (s12 : Int) (w : World) : Prop := Nd X_l10_TileSpoilt Q [(1, 1, .pointer (some s1)), (3, 3, .int .i64 s3), (4, 4, .int .i64 s4), (6, 6, .pointer (some s6)), (8, 8, .slice s8 s8n s8c), (9, 9, .slice s9 s9n s9c), (10, 10, .slice s10 s10n s10c), (12, 12, .int .i64 s12)] [.code (B_l10_TileSpoilt.r.r.r.r.r.r.r.r.r.r.r.r.r.r.r.r.r.r.r.r.r.r.r.l), .code (B_l10_TileSpoilt.r.r.r.r.r.r.r.r.r.r.r.r.r.r.r.r.r.r.r.r.r.r.r.r)] w
noncomputable def N_l10_TileSpoilt.j28 (Q : Value → World → Prop) (s1 : Addr) (s3 : Int) (s4 : Int) (s6 : Addr) (s8 : Option Addr) (s8n : Nat) (s8c : Nat) (s9 : Option Addr) (s9n : Nat) (s9c : Nat) (s10 : Option Addr) (s10n : Nat) (s10c : Nat) (s12 : Int) (s19 : Addr) (w : World) : Prop := Nd X_l10_TileSpoilt Q [(1, 1, .pointer (some s1)), (3, 3, .int .i64 s3), (4, 4, .int .i64 s4), (6, 6, .pointer (some s6)), (8, 8, .slice s8 s8n s8c), (9, 9, .slice s9 s9n s9c), (10, 10, .slice s10 s10n s10c), (12, 12, .int .i64 s12), (19, 19, .pointer (some s19))] [.code (B_l10_TileSpoilt.r.r.r.r.r.r.r.r.r.r.r.r.r.r.r.r.r.r.r.r.r.r.r.r.l), .code (B_l10_TileSpoilt.r.r.r.r.r.r.r.r.r.r.r.r.r.r.r.r.r.r.r.r.r.r.r.r.r)] w
noncomputable def N_l10_TileSpoilt.j29 (Q : Value → World → Prop) (s1 : Addr) (s3 : Int) (s4 : Int) (s6 : Addr) (s8 : Option Addr) (s8n : Nat) (s8c : Nat) (s9 : Option Addr) (s9n : Nat) (s9c : Nat) (s10 : Option Addr) (s10n : Nat) (s10c : Nat) (s12 : Int) (s19 : Addr) (w : World) : Prop := Nd X_l10_TileSpoilt Q [(1, 1, .pointer (some s1)), (3, 3, .int .i64 s3), (4, 4, .int .i64 s4), (6, 6, .pointer (some s6)), (8, 8, .slice s8 s8n s8c), (9, 9, .slice s9 s9n s9c), (10, 10, .slice s10 s10n s10c), (12, 12, .int .i64 s12), (19, 19, .pointer (some s19))] [.code (B_l10_TileSpoilt.r.r.r.r.r.r.r.r.r.r.r.r.r.r.r.r.r.r.r.r.r.r.r.r.r.l), .code (B_l10_TileSpoilt.r.r.r.r.r.r.r.r.r.r.r.r.r.r.r.r.r.r.r.r.r.r.r.r.r.r)] w
noncomputable def N_l10_TileSpoilt.j30 (Q : Value → World → Prop) (s1 : Addr) (s3 : Int) (s4 : Int) (s6 : Addr) (s8 : Option Addr) (s8n : Nat) (s8c : Nat) (s9 : Option Addr) (s9n : Nat) (s9c : Nat) (s10 : Option Addr) (s10n : Nat) (s10c : Nat) (s12 : Int) (s17 : Int) (s19 : Addr) (w : World) : Prop := Nd X_l10_TileSpoilt Q [(1, 1, .pointer (some s1)), (3, 3, .int .i64 s3), (4, 4, .int .i64 s4), (6, 6, .pointer (some s6)), (8, 8, .slice s8 s8n s8c), (9, 9, .slice s9 s9n s9c), (10, 10, .slice s10 s10n s10c), (12, 12, .int .i64 s12), (17, 17, .int .i64 s17), (19, 19, .pointer (some s19))] [.code (B_l10_TileSpoilt.r.r.r.r.r.r.r.r.r.r.r.r.r.r.r.r.r.r.r.r.r.r.r.r.r.r.l), .code (B_l10_TileSpoilt.r.r.r.r.r.r.r.r.r.r.r.r.r.r.r.r.r.r.r.r.r.r.r.r.r.r.r)] w
noncomputable def N_l10_TileSpoilt.j31 (Q : Value → World → Prop) (s1 : Addr) (s3 : Int) (s4 : Int) (s6 : Addr) (s8 : Option Addr) (s8n : Nat) (s8c : Nat) (s9 : Option Addr) (s9n : Nat) (s9c : Nat) (s10 : Option Addr) (s10n : Nat) (s10c : Nat) (s17 : Int) (w : World) : Prop := Nd X_l10_TileSpoilt Q [(1, 1, .pointer (some s1)), (3, 3, .int .i64 s3), (4, 4, .int .i64 s4), (6, 6, .pointer (some s6)), (8, 8, .slice s8 s8n s8c), (9, 9, .slice s9 s9n s9c), (10, 10, .slice s10 s10n s10c), (17, 17, .int .i64 s17)] [.code (B_l10_TileSpoilt.r.r.r.r.r.r.r.r.r.r.r.r.r.r.r.r.r.r.r.r.r.r.r.r.r.r.r.l), .code (B_l10_TileSpoilt.r.r.r.r.r.r.r.r.r.r.r.r.r.r.r.r.r.r.r.r.r.r.r.r.r.r.r.r)] w
noncomputable def N_l10_TileSpoilt.j32 (Q : Value → World → Prop) (s17 : Int) (s21 : Int) (w : World) : Prop := Nd X_l10_TileSpoilt Q [(17, 17, .int .i64 s17), (21, 21, .int .i64 s21)] [.code (B_l10_TileSpoilt.r.r.r.r.r.r.r.r.r.r.r.r.r.r.r.r.r.r.r.r.r.r.r.r.r.r.r.r.l), .code (B_l10_TileSpoilt.r.r.r.r.r.r.r.r.r.r.r.r.r.r.r.r.r.r.r.r.r.r.r.r.r.r.r.r.r)] w
theorem N_l10_TileSpoilt.j7_eq (Q : Value → World → Prop) (w : World) (h :
  Q (.bool false) w) :
N_l10_TileSpoilt.j7 Q w := Nd_fold K_l10_TileSpoilt (by kernel_rfl) h
theorem N_l10_TileSpoilt.j16_eq (Q : Value → World → Prop) (w : World) (h :
  Q (.bool false) w) :
N_l10_TileSpoilt.j16 Q w := Nd_fold K_l10_TileSpoilt (by kernel_rfl) h
theorem N_l10_TileSpoilt.j17_eq (Q : Value → World → Prop) (s1 : Addr) (s3 : Int) (s4 : Int) (s6 : Addr) (s8 : Option Addr) (s8n : Nat) (s8c : Nat) (s9 : Option Addr) (s9n : Nat) (s9c : Nat) (s10 : Option Addr) (s10n : Nat) (s10c : Nat) (s12 : Int) (s13 : Option Addr) (s13n : Nat) (s13c : Nat) (w : World) (h :
  (0 : Int) ≤ (IntKind.wrap .i64 (((s13n : Nat) : Int) - 1)) ∧
  (IntKind.wrap .i64 (((s13n : Nat) : Int) - 1)) ≤ ((s13c : Nat) : Int) ∧
  (0 : Int) ≤ s12 ∧
  s12 < ((s10n : Nat) : Int) ∧
  opnA s10 fun ad1 =>
  stC (ad1.add (Int.toNat s12 * 1)) (.slice (slA s13 0 s13c 1) ((Int.toNat (IntKind.wrap .i64 (((s13n : Nat) : Int) - 1))) - 0) (s13c - 0)) w fun w2 =>
  N_l10_TileSpoilt.j18 Q s1 s3 s4 s6 s8 s8n s8c s9 s9n s9c s10 s10n s10c s12 s13 s13n s13c w2) :
N_l10_TileSpoilt.j17 Q s1 s3 s4 s6 s8 s8n s8c s9 s9n s9c s10 s10n s10c s12 s13 s13n s13c w := Nd_fold K_l10_TileSpoilt (by kernel_rfl) h
theorem N_l10_TileSpoilt.j18_eq (Q : Value → World → Prop) (s1 : Addr) (s3 : Int) (s4 : Int) (s6 : Addr) (s8 : Option Addr) (s8n : Nat) (s8c : Nat) (s9 : Option Addr) (s9n : Nat) (s9c : Nat) (s10 : Option Addr) (s10n : Nat) (s10c : Nat) (s12 : Int) (s13 : Option Addr) (s13n : Nat) (s13c : Nat) (w : World) (h :
  opnI .i64 (w.cell? (s1.add 0)) fun x1 =>
  opnRow w s6 (32 * 1) fun x2 =>
  C_tile_Read #[.int .i64 x1, .int .i64 s4, .int .i64 s3, .agg x2, .slice s9 s9n s9c, .slice s10 s10n s10c, .slice s8 s8n s8c] w fun v3 w4 =>
  opnT (some v3) fun x5 =>
  x5.size = 2 ∧
  opnL (x5[0]?) fun x6 x6n x6c =>
  opnI .i64 (x5[1]?) fun x7 =>
  N_l10_TileSpoilt.j19 Q s1 s3 s4 s6 s8 s8n s8c s9 s9n s9c s10 s10n s10c s12 s13 s13n s13c x7 w4) :
N_l10_TileSpoilt.j18 Q s1 s3 s4 s6 s8 s8n s8c s9 s9n s9c s10 s10n s10c s12 s13 s13n s13c w := Nd_fold K_l10_TileSpoilt (by kernel_rfl) h
theorem N_l10_TileSpoilt.j19_eq (Q : Value → World → Prop) (s1 : Addr) (s3 : Int) (s4 : Int) (s6 : Addr) (s8 : Option Addr) (s8n : Nat) (s8c : Nat) (s9 : Option Addr) (s9n : Nat) (s9c : Nat) (s10 : Option Addr) (s10n : Nat) (s10c : Nat) (s12 : Int) (s13 : Option Addr) (s13n : Nat) (s13c : Nat) (s17 : Int) (w : World) (h :
  C_l10_num #[.int .i64 s17] w fun v1 w2 =>
  opnI .i64 (some v1) fun x3 =>
  cond (x3 != 102)
  (N_l10_TileSpoilt.j20 Q w2)
  (N_l10_TileSpoilt.j21 Q s1 s3 s4 s6 s8 s8n s8c s9 s9n s9c s10 s10n s10c s12 s13 s13n s13c w2)) :
N_l10_TileSpoilt.j19 Q s1 s3 s4 s6 s8 s8n s8c s9 s9n s9c s10 s10n s10c s12 s13 s13n s13c s17 w := Nd_fold K_l10_TileSpoilt (by kernel_rfl) h
theorem N_l10_TileSpoilt.j20_eq (Q : Value → World → Prop) (w : World) (h :
  Q (.bool false) w) :
N_l10_TileSpoilt.j20 Q w := Nd_fold K_l10_TileSpoilt (by kernel_rfl) h
theorem N_l10_TileSpoilt.j21_eq (Q : Value → World → Prop) (s1 : Addr) (s3 : Int) (s4 : Int) (s6 : Addr) (s8 : Option Addr) (s8n : Nat) (s8c : Nat) (s9 : Option Addr) (s9n : Nat) (s9c : Nat) (s10 : Option Addr) (s10n : Nat) (s10c : Nat) (s12 : Int) (s13 : Option Addr) (s13n : Nat) (s13c : Nat) (w : World) (h :
  (0 : Int) ≤ s12 ∧
  s12 < ((s10n : Nat) : Int) ∧
  opnA s10 fun ad1 =>
  stC (ad1.add (Int.toNat s12 * 1)) (.slice s13 s13n s13c) w fun w2 =>
  N_l10_TileSpoilt.j22 Q s1 s3 s4 s6 s8 s8n s8c s9 s9n s9c s10 s10n s10c s12 w2) :
N_l10_TileSpoilt.j21 Q s1 s3 s4 s6 s8 s8n s8c s9 s9n s9c s10 s10n s10c s12 s13 s13n s13c w := Nd_fold K_l10_TileSpoilt (by kernel_rfl) h
theorem N_l10_TileSpoilt.j22_eq (Q : Value → World → Prop) (s1 : Addr) (s3 : Int) (s4 : Int) (s6 : Addr) (s8 : Option Addr) (s8n : Nat) (s8c : Nat) (s9 : Option Addr) (s9n : Nat) (s9c : Nat) (s10 : Option Addr) (s10n : Nat) (s10c : Nat) (s12 : Int) (w : World) (h :
  opnRow w s6 (32 * 1) fun x1 =>
  alZ PP 29 w fun p2 w3 =>
  stRow p2 x1 (32 * 1) w3 fun w4 =>
  N_l10_TileSpoilt.j23 Q s1 s3 s4 s6 s8 s8n s8c s9 s9n s9c s10 s10n s10c s12 p2 w4) :
N_l10_TileSpoilt.j22 Q s1 s3 s4 s6 s8 s8n s8c s9 s9n s9c s10 s10n s10c s12 w := Nd_fold K_l10_TileSpoilt (by kernel_rfl) h
theorem N_l10_TileSpoilt.j23_eq (Q : Value → World → Prop) (s1 : Addr) (s3 : Int) (s4 : Int) (s6 : Addr) (s8 : Option Addr) (s8n : Nat) (s8c : Nat) (s9 : Option Addr) (s9n : Nat) (s9c : Nat) (s10 : Option Addr) (s10n : Nat) (s10c : Nat) (s12 : Int) (s18 : Addr) (w : World) (h :
  (0 : Int) ≤ 0 ∧
  0 < ((32 : Nat) : Int) ∧
  opnI .u8 (w.cell? (s18.add (Int.toNat 0 * 1))) fun x1 =>
  (0 : Int) ≤ 0 ∧
  0 < ((32 : Nat) : Int) ∧
  stC (s18.add (Int.toNat 0 * 1)) (.int .u8 (bits .xor .u8 x1 1)) w fun w2 =>
  N_l10_TileSpoilt.j24 Q s1 s3 s4 s6 s8 s8n s8c s9 s9n s9c s10 s10n s10c s12 s18 w2) :
N_l10_TileSpoilt.j23 Q s1 s3 s4 s6 s8 s8n s8c s9 s9n s9c s10 s10n s10c s12 s18 w := Nd_fold K_l10_TileSpoilt (by kernel_rfl) h
theorem N_l10_TileSpoilt.j24_eq (Q : Value → World → Prop) (s1 : Addr) (s3 : Int) (s4 : Int) (s6 : Addr) (s8 : Option Addr) (s8n : Nat) (s8c : Nat) (s9 : Option Addr) (s9n : Nat) (s9c : Nat) (s10 : Option Addr) (s10n : Nat) (s10c : Nat) (s12 : Int) (s18 : Addr) (w : World) (h :
  opnI .i64 (w.cell? (s1.add 0)) fun x1 =>
  opnRow w s18 (32 * 1) fun x2 =>
  C_tile_Read #[.int .i64 x1, .int .i64 s4, .int .i64 s3, .agg x2, .slice s9 s9n s9c, .slice s10 s10n s10c, .slice s8 s8n s8c] w fun v3 w4 =>
  opnT (some v3) fun x5 =>
  x5.size = 2 ∧
  opnL (x5[0]?) fun x6 x6n x6c =>
  opnI .i64 (x5[1]?) fun x7 =>
  N_l10_TileSpoilt.j25 Q s1 s3 s4 s6 s8 s8n s8c s9 s9n s9c s10 s10n s10c s12 x7 w4) :
N_l10_TileSpoilt.j24 Q s1 s3 s4 s6 s8 s8n s8c s9 s9n s9c s10 s10n s10c s12 s18 w := Nd_fold K_l10_TileSpoilt (by kernel_rfl) h
theorem N_l10_TileSpoilt.j25_eq (Q : Value → World → Prop) (s1 : Addr) (s3 : Int) (s4 : Int) (s6 : Addr) (s8 : Option Addr) (s8n : Nat) (s8c : Nat) (s9 : Option Addr) (s9n : Nat) (s9c : Nat) (s10 : Option Addr) (s10n : Nat) (s10c : Nat) (s12 : Int) (s17 : Int) (w : World) (h :
  C_l10_num #[.int .i64 s17] w fun v1 w2 =>
  opnI .i64 (some v1) fun x3 =>
  cond (x3 != 104)
  (N_l10_TileSpoilt.j26 Q w2)
  (N_l10_TileSpoilt.j27 Q s1 s3 s4 s6 s8 s8n s8c s9 s9n s9c s10 s10n s10c s12 w2)) :
N_l10_TileSpoilt.j25 Q s1 s3 s4 s6 s8 s8n s8c s9 s9n s9c s10 s10n s10c s12 s17 w := Nd_fold K_l10_TileSpoilt (by kernel_rfl) h
theorem N_l10_TileSpoilt.j26_eq (Q : Value → World → Prop) (w : World) (h :
  Q (.bool false) w) :
N_l10_TileSpoilt.j26 Q w := Nd_fold K_l10_TileSpoilt (by kernel_rfl) h
theorem N_l10_TileSpoilt.j27_eq (Q : Value → World → Prop) (s1 : Addr) (s3 : Int) (s4 : Int) (s6 : Addr) (s8 : Option Addr) (s8n : Nat) (s8c : Nat) (s9 : Option Addr) (s9n : Nat) (s9c : Nat) (s10 : Option Addr) (s10n : Nat) (s10c : Nat) (s12 : Int) (w : World) (h :
  (0 : Int) ≤ s12 ∧
  s12 < ((s9n : Nat) : Int) ∧
  opnA s9 fun ad1 =>
  opnI .i64 (w.cell? ((ad1.add (Int.toNat s12 * 5)).add 0)) fun x2 =>
  opnI .i64 (w.cell? ((ad1.add (Int.toNat s12 * 5)).add 1)) fun x3 =>
  opnI .i64 (w.cell? ((ad1.add (Int.toNat s12 * 5)).add 2)) fun x4 =>
  opnI .i64 (w.cell? ((ad1.add (Int.toNat s12 * 5)).add 3)) fun x5 =>
  opnB (w.cell? ((ad1.add (Int.toNat s12 * 5)).add 4)) fun x6 =>
  alC #[.int .i64 0, .int .i64 0, .int .i64 0, .int .i64 0, .bool false] 24 w fun p7 w8 =>
  Array.size (#[.int .i64 x2, .int .i64 x3, .int .i64 x4, .int .i64 x5, .bool x6] : Array Value) = 5 ∧
  stC (p7.add 0) (.int .i64 x2) w8 fun w9 =>
  stC (p7.add 1) (.int .i64 x3) w9 fun w10 =>
  stC (p7.add 2) (.int .i64 x4) w10 fun w11 =>
  stC (p7.add 3) (.int .i64 x5) w11 fun w12 =>
  stC (p7.add 4) (.bool x6) w12 fun w13 =>
  N_l10_TileSpoilt.j28 Q s1 s3 s4 s6 s8 s8n s8c s9 s9n s9c s10 s10n s10c s12 p7 w13) :
N_l10_TileSpoilt.j27 Q s1 s3 s4 s6 s8 s8n s8c s9 s9n s9c s10 s10n s10c s12 w := Nd_fold K_l10_TileSpoilt (by kernel_rfl) h
theorem N_l10_TileSpoilt.j28_eq (Q : Value → World → Prop) (s1 : Addr) (s3 : Int) (s4 : Int) (s6 : Addr) (s8 : Option Addr) (s8n : Nat) (s8c : Nat) (s9 : Option Addr) (s9n : Nat) (s9c : Nat) (s10 : Option Addr) (s10n : Nat) (s10c : Nat) (s12 : Int) (s19 : Addr) (w : World) (h :
  (0 : Int) ≤ s12 ∧
  s12 < ((s9n : Nat) : Int) ∧
  opnA s9 fun ad1 =>
  stC ((ad1.add (Int.toNat s12 * 5)).add 4) (.bool true) w fun w2 =>
  N_l10_TileSpoilt.j29 Q s1 s3 s4 s6 s8 s8n s8c s9 s9n s9c s10 s10n s10c s12 s19 w2) :
N_l10_TileSpoilt.j28 Q s1 s3 s4 s6 s8 s8n s8c s9 s9n s9c s10 s10n s10c s12 s19 w := Nd_fold K_l10_TileSpoilt (by kernel_rfl) h
theorem N_l10_TileSpoilt.j29_eq (Q : Value → World → Prop) (s1 : Addr) (s3 : Int) (s4 : Int) (s6 : Addr) (s8 : Option Addr) (s8n : Nat) (s8c : Nat) (s9 : Option Addr) (s9n : Nat) (s9c : Nat) (s10 : Option Addr) (s10n : Nat) (s10c : Nat) (s12 : Int) (s19 : Addr) (w : World) (h :
  opnI .i64 (w.cell? (s1.add 0)) fun x1 =>
  opnRow w s6 (32 * 1) fun x2 =>
  C_tile_Read #[.int .i64 x1, .int .i64 s4, .int .i64 s3, .agg x2, .slice s9 s9n s9c, .slice s10 s10n s10c, .slice s8 s8n s8c] w fun v3 w4 =>
  opnT (some v3) fun x5 =>
  x5.size = 2 ∧
  opnL (x5[0]?) fun x6 x6n x6c =>
  opnI .i64 (x5[1]?) fun x7 =>
  N_l10_TileSpoilt.j30 Q s1 s3 s4 s6 s8 s8n s8c s9 s9n s9c s10 s10n s10c s12 x7 s19 w4) :
N_l10_TileSpoilt.j29 Q s1 s3 s4 s6 s8 s8n s8c s9 s9n s9c s10 s10n s10c s12 s19 w := Nd_fold K_l10_TileSpoilt (by kernel_rfl) h
theorem N_l10_TileSpoilt.j30_eq (Q : Value → World → Prop) (s1 : Addr) (s3 : Int) (s4 : Int) (s6 : Addr) (s8 : Option Addr) (s8n : Nat) (s8c : Nat) (s9 : Option Addr) (s9n : Nat) (s9c : Nat) (s10 : Option Addr) (s10n : Nat) (s10c : Nat) (s12 : Int) (s17 : Int) (s19 : Addr) (w : World) (h :
  opnI .i64 (w.cell? (s19.add 0)) fun x1 =>
  opnI .i64 (w.cell? (s19.add 1)) fun x2 =>
  opnI .i64 (w.cell? (s19.add 2)) fun x3 =>
  opnI .i64 (w.cell? (s19.add 3)) fun x4 =>
  opnB (w.cell? (s19.add 4)) fun x5 =>
  (0 : Int) ≤ s12 ∧
  s12 < ((s9n : Nat) : Int) ∧
  opnA s9 fun ad6 =>
  Array.size (#[.int .i64 x1, .int .i64 x2, .int .i64 x3, .int .i64 x4, .bool x5] : Array Value) = 5 ∧
  stC ((ad6.add (Int.toNat s12 * 5)).add 0) (.int .i64 x1) w fun w7 =>
  stC ((ad6.add (Int.toNat s12 * 5)).add 1) (.int .i64 x2) w7 fun w8 =>
  stC ((ad6.add (Int.toNat s12 * 5)).add 2) (.int .i64 x3) w8 fun w9 =>
  stC ((ad6.add (Int.toNat s12 * 5)).add 3) (.int .i64 x4) w9 fun w10 =>
  stC ((ad6.add (Int.toNat s12 * 5)).add 4) (.bool x5) w10 fun w11 =>
  N_l10_TileSpoilt.j31 Q s1 s3 s4 s6 s8 s8n s8c s9 s9n s9c s10 s10n s10c s17 w11) :
N_l10_TileSpoilt.j30 Q s1 s3 s4 s6 s8 s8n s8c s9 s9n s9c s10 s10n s10c s12 s17 s19 w := Nd_fold K_l10_TileSpoilt (by kernel_rfl) h
theorem N_l10_TileSpoilt.j31_eq (Q : Value → World → Prop) (s1 : Addr) (s3 : Int) (s4 : Int) (s6 : Addr) (s8 : Option Addr) (s8n : Nat) (s8c : Nat) (s9 : Option Addr) (s9n : Nat) (s9c : Nat) (s10 : Option Addr) (s10n : Nat) (s10c : Nat) (s17 : Int) (w : World) (h :
  opnI .i64 (w.cell? (s1.add 0)) fun x1 =>
  opnRow w s6 (32 * 1) fun x2 =>
  C_tile_Read #[.int .i64 x1, .int .i64 s4, .int .i64 s3, .agg x2, .slice s9 s9n s9c, .slice s10 s10n s10c, .slice s8 s8n s8c] w fun v3 w4 =>
  opnT (some v3) fun x5 =>
  x5.size = 2 ∧
  opnL (x5[0]?) fun x6 x6n x6c =>
  opnI .i64 (x5[1]?) fun x7 =>
  N_l10_TileSpoilt.j32 Q s17 x7 w4) :
N_l10_TileSpoilt.j31 Q s1 s3 s4 s6 s8 s8n s8c s9 s9n s9c s10 s10n s10c s17 w := Nd_fold K_l10_TileSpoilt (by kernel_rfl) h
theorem N_l10_TileSpoilt.j32_eq (Q : Value → World → Prop) (s17 : Int) (s21 : Int) (w : World) (h :
  C_l10_num #[.int .i64 s17] w fun v1 w2 =>
  opnI .i64 (some v1) fun x3 =>
  cond (x3 == 103)
  (C_l10_num #[.int .i64 s21] w2 fun v4 w5 =>
  opnI .i64 (some v4) fun x6 =>
  cond (x6 == 0)
  (Q (.bool true) w5)
  (Q (.bool false) w5))
  (Q (.bool false) w2)) :
N_l10_TileSpoilt.j32 Q s17 s21 w := Nd_fold K_l10_TileSpoilt (by kernel_rfl) h
theorem C_l10_TileSpoilt_eq (Q : Value → World → Prop) (a0_0 : Int) (a0_1 : Int) (a0_2 : Int) (a0_3 : Int) (a0_4 : Option Addr) (a0_4n : Nat) (a0_4c : Nat) (w : World) (h :
  alC #[.int .i64 a0_0, .int .i64 a0_1, .int .i64 a0_2, .int .i64 a0_3, .slice a0_4 a0_4n a0_4c] 53 w fun p1 w2 =>
  opnI .i64 (w2.cell? (p1.add 1)) fun x3 =>
  C_l10_within #[.int .i64 x3, .int .i64 300] w2 fun v4 w5 =>
  opnI .i64 (some v4) fun x6 =>
  opnI .i64 (w5.cell? (p1.add 2)) fun x7 =>
  C_l10_within #[.int .i64 x7, .int .i64 8] w5 fun v8 w9 =>
  opnI .i64 (some v8) fun x10 =>
  opnI .i64 (w9.cell? (p1.add 0)) fun x11 =>
  C_l10_tree #[.int .i64 x11, .int .i64 (IntKind.wrap .i64 (x6 + 1)), .int .u8 2] w9 fun v12 w13 =>
  opnT (some v12) fun x14 =>
  x14.size = 3 ∧
  opnL (x14[0]?) fun x15 x15n x15c =>
  opnG (x14[1]?) fun x16 =>
  opnB (x14[2]?) fun x17 =>
  alZ PP 29 w13 fun p18 w19 =>
  stRow p18 x16 (32 * 1) w19 fun w20 =>
  opnL (w20.cell? (p1.add 4)) fun x21 x21n x21c =>
  C_l10_asked #[.slice x21 x21n x21c, .int .i64 ((x15n : Nat) : Int)] w20 fun v22 w23 =>
  opnL (some v22) fun x24 x24n x24c =>
  C_l10_fetched #[.int .i64 (IntKind.wrap .i64 (x10 + 1)), .int .i64 (IntKind.wrap .i64 (x6 + 1)), .slice x15 x15n x15c, .slice x24 x24n x24c] w23 fun v25 w26 =>
  opnT (some v25) fun x27 =>
  x27.size = 3 ∧
  opnL (x27[0]?) fun x28 x28n x28c =>
  opnL (x27[1]?) fun x29 x29n x29c =>
  opnB (x27[2]?) fun x30 =>
  cond (!x17)
  (N_l10_TileSpoilt.j7 Q w26)
  (cond (!x30)
  (N_l10_TileSpoilt.j7 Q w26)
  (opnI .i64 (w26.cell? (p1.add 3)) fun x31 =>
  C_l10_within #[.int .i64 x31, .int .i64 ((x28n : Nat) : Int)] w26 fun v32 w33 =>
  opnI .i64 (some v32) fun x34 =>
  (0 : Int) ≤ x34 ∧
  x34 < ((x29n : Nat) : Int) ∧
  opnA x29 fun ad35 =>
  opnL (w33.cell? (ad35.add (Int.toNat x34 * 1))) fun x36 x36n x36c =>
  opnI .i64 (w33.cell? (p1.add 3)) fun x37 =>
  64 ≠ (0 : Int) ∧
  C_l10_within #[.int .i64 (IntKind.wrap .i64 (Int.tdiv x37 64)), .int .i64 ((x36n : Nat) : Int)] w33 fun v38 w39 =>
  opnI .i64 (some v38) fun x40 =>
  semR PP (convert 25 9 (.slice x36 x36n x36c)) w39 fun x41 =>
  opnS (some x41) fun x42 =>
  sem PP (convert 9 25 (.string x42)) w39 fun v43 w44 =>
  opnL (some v43) fun x45 x45n x45c =>
  drw w44 fun w46 =>
  (0 : Int) ≤ x40 ∧
  x40 < ((x45n : Nat) : Int) ∧
  opnA x45 fun ad47 =>
  opnI .u8 (w46.cell? (ad47.add (Int.toNat x40 * 1))) fun x48 =>
  opnI .i64 (w46.cell? (p1.add 3)) fun x49 =>
  C_l10_within #[.int .i64 x49, .int .i64 255] w46 fun v50 w51 =>
  opnI .i64 (some v50) fun x52 =>
  (opnI .u8 (w51.cell? (ad47.add (Int.toNat x40 * 1))) fun x53 =>
  ((.int .u8 x53) : Value) = .int .u8 x48) ∧
  (0 : Int) ≤ x40 ∧
  x40 < ((x45n : Nat) : Int) ∧
  opnA x45 fun ad54 =>
  stC (ad54.add (Int.toNat x40 * 1)) (.int .u8 (bits .xor .u8 x48 (IntKind.wrap .u8 (IntKind.wrap .i64 (1 + x52))))) w51 fun w55 =>
  (0 : Int) ≤ x34 ∧
  x34 < ((x29n : Nat) : Int) ∧
  opnA x29 fun ad56 =>
  stC (ad56.add (Int.toNat x34 * 1)) (.slice x45 x45n x45c) w55 fun w57 =>
  opnI .i64 (w57.cell? (p1.add 0)) fun x58 =>
  opnRow w57 p18 (32 * 1) fun x59 =>
  C_tile_Read #[.int .i64 x58, .int .i64 (IntKind.wrap .i64 (x10 + 1)), .int .i64 (IntKind.wrap .i64 (x6 + 1)), .agg x59, .slice x28 x28n x28c, .slice x29 x29n x29c, .slice x24 x24n x24c] w57 fun v60 w61 =>
  opnT (some v60) fun x62 =>
  x62.size = 2 ∧
  opnL (x62[0]?) fun x63 x63n x63c =>
  opnI .i64 (x62[1]?) fun x64 =>
  drw w61 fun w65 =>
  C_l10_num #[.int .i64 x64] w65 fun v66 w67 =>
  opnI .i64 (some v66) fun x68 =>
  cond (x68 != 104)
  (C_l10_num #[.int .i64 x64] w67 fun v69 w70 =>
  opnI .i64 (some v69) fun x71 =>
  cond (x71 != 0)
  (N_l10_TileSpoilt.j16 Q w70)
  ((0 : Int) ≤ x34 ∧
  x34 < ((x28n : Nat) : Int) ∧
  opnA x28 fun ad72 =>
  32 ≠ (0 : Int) ∧
  opnI .i64 (w70.cell? (p1.add 0)) fun x73 =>
  opnRow w70 p18 (32 * 1) fun x74 =>
  opnI .i64 (w70.cell? ((ad72.add (Int.toNat x34 * 5)).add 0)) fun x75 =>
  opnI .i64 (w70.cell? ((ad72.add (Int.toNat x34 * 5)).add 1)) fun x76 =>
  opnI .i64 (w70.cell? ((ad72.add (Int.toNat x34 * 5)).add 2)) fun x77 =>
  opnI .i64 (w70.cell? ((ad72.add (Int.toNat x34 * 5)).add 3)) fun x78 =>
  opnB (w70.cell? ((ad72.add (Int.toNat x34 * 5)).add 4)) fun x79 =>
  C_l10_certain #[.int .i64 x73, .int .i64 (IntKind.wrap .i64 (x6 + 1)), .agg x74, .slice x15 x15n x15c, .agg #[.int .i64 x75, .int .i64 x76, .int .i64 x77, .int .i64 x78, .bool x79], .slice x36 x36n x36c, .slice x45 x45n x45c, .int .i64 (IntKind.wrap .i64 (Int.tdiv x40 32))] w70 fun v80 w81 =>
  opnB (some v80) fun x82 =>
  cond x82
  (N_l10_TileSpoilt.j16 Q w81)
  (N_l10_TileSpoilt.j17 Q p1 (IntKind.wrap .i64 (x6 + 1)) (IntKind.wrap .i64 (x10 + 1)) p18 x24 x24n x24c x28 x28n x28c x29 x29n x29c x34 x36 x36n x36c w81)))
  (N_l10_TileSpoilt.j17 Q p1 (IntKind.wrap .i64 (x6 + 1)) (IntKind.wrap .i64 (x10 + 1)) p18 x24 x24n x24c x28 x28n x28c x29 x29n x29c x34 x36 x36n x36c w67)))) :
C_l10_TileSpoilt #[.agg #[.int .i64 a0_0, .int .i64 a0_1, .int .i64 a0_2, .int .i64 a0_3, .slice a0_4 a0_4n a0_4c]] w Q := C_fold K_l10_TileSpoilt (by kernel_rfl) h
/-! ### ledger/ledgerlaw10.asked -/
noncomputable def B_l10_asked : Code := match Tryd.f26.body with | some c => c | _ => .skip
noncomputable def X_l10_asked : Cx := { P := PP, fn := 26, N := 35, tab := tab, results := [.tmp 4], iter := fun _ => (.none, .none), dyn := fun _ => false, live := fun r => cond (Nat.beq r 3) (some [0, 1, 5, 6]) (cond (Nat.beq r 6) (some [5]) (none)) }
theorem K_l10_asked : OkF X_l10_asked B_l10_asked Tryd.f26 := ⟨⟨tab_ok, mix_ok⟩, Tryd.func26, by kernel_rfl, by kernel_rfl, by kernel_rfl, by kernel_rfl⟩
noncomputable def N_l10_asked.j3 (Q : Value → World → Prop) (s0 : Option Addr) (s0n : Nat) (s0c : Nat) (s1 : Int) (s5 : Option Addr) (s5n : Nat) (s5c : Nat) (s6 : Int) (w : World) : Prop := Nd X_l10_asked Q [(0, 0, .slice s0 s0n s0c), (1, 1, .int .i64 s1), (5, 5, .slice s5 s5n s5c), (6, 6, .int .i64 s6)] [.code (B_l10_asked.r.r.l.r.l.l.l.l), .code (B_l10_asked.r.r.l.r.l.l.l.r), .code (B_l10_asked.r.r.l.r.l.l.r), .inLoop (B_l10_asked.r.r.l.r.l.l), .inBlock 0, .code (B_l10_asked.r.r.r)] w
noncomputable def N_l10_asked.j6 (Q : Value → World → Prop) (s5 : Option Addr) (s5n : Nat) (s5c : Nat) (w : World) : Prop := Nd X_l10_asked Q [(5, 5, .slice s5 s5n s5c)] [.code (B_l10_asked.r.r.r.l), .code (B_l10_asked.r.r.r.r)] w
theorem N_l10_asked.j3_eq (Q : Value → World → Prop) (s0 : Option Addr) (s0n : Nat) (s0c : Nat) (s1 : Int) (s5 : Option Addr) (s5n : Nat) (s5c : Nat) (s6 : Int) (w : World) (h :
  cond (decide (s6 < ((s0n : Nat) : Int)))
  (cond (decide (s6 < 200))
  (cond (decide (s1 > 0))
  ((0 : Int) ≤ s6 ∧
  s6 < ((s0n : Nat) : Int) ∧
  opnA s0 fun ad1 =>
  opnI .i64 (w.cell? (ad1.add (Int.toNat s6 * 1))) fun x2 =>
  s1 ≠ (0 : Int) ∧
  s1 ≠ (0 : Int) ∧
  alC #[.int .i64 (Int.tmod (IntKind.wrap .i64 ((Int.tmod x2 s1) + s1)) s1)] 2 w fun p3 w4 =>
  sem PP (Builtin.append_ #[51, 51] 51 #[.slice s5 s5n s5c, .slice (some p3) 1 1]) w4 fun v5 w6 =>
  opnL (some v5) fun x7 x7n x7c =>
  N_l10_asked.j3 Q s0 s0n s0c s1 x7 x7n x7c (IntKind.wrap .i64 (s6 + 1)) w6)
  (N_l10_asked.j6 Q s5 s5n s5c w))
  (N_l10_asked.j6 Q s5 s5n s5c w))
  (N_l10_asked.j6 Q s5 s5n s5c w)) :
N_l10_asked.j3 Q s0 s0n s0c s1 s5 s5n s5c s6 w := Nd_fold K_l10_asked (by kernel_rfl) h
theorem N_l10_asked.j6_eq (Q : Value → World → Prop) (s5 : Option Addr) (s5n : Nat) (s5c : Nat) (w : World) (h :
  Q (.slice s5 s5n s5c) w) :
N_l10_asked.j6 Q s5 s5n s5c w := Nd_fold K_l10_asked (by kernel_rfl) h
theorem C_l10_asked_eq (Q : Value → World → Prop) (a0 : Option Addr) (a0n : Nat) (a0c : Nat) (a1 : Int) (w : World) (h :
  N_l10_asked.j3 Q a0 a0n a0c a1 none 0 0 0 w) :
C_l10_asked #[.slice a0 a0n a0c, .int .i64 a1] w Q := C_fold K_l10_asked (by kernel_rfl) h
/-! ### ledger/ledgerlaw10.fetched -/
noncomputable def B_l10_fetched : Code := match Tryd.f27.body with | some c => c | _ => .skip
noncomputable def X_l10_fetched : Cx := { P := PP, fn := 27, N := 71, tab := tab, results := [.tmp 8, .tmp 9, .tmp 10], iter := fun _ => (.none, .none), dyn := fun _ => false, live := fun r => cond (Nat.beq r 4) (some [1, 2, 11, 12, 13, 14]) (cond (Nat.beq r 8) (some []) (none)) }
theorem K_l10_fetched : OkF X_l10_fetched B_l10_fetched Tryd.f27 := ⟨⟨tab_ok, mix_ok⟩, Tryd.func27, by kernel_rfl, by kernel_rfl, by kernel_rfl, by kernel_rfl⟩
noncomputable def N_l10_fetched.j4 (Q : Value → World → Prop) (s1 : Int) (s2 : Option Addr) (s2n : Nat) (s2c : Nat) (s11 : Option Addr) (s11n : Nat) (s11c : Nat) (s12 : Int) (s13 : Option Addr) (s13n : Nat) (s13c : Nat) (s14 : Int) (w : World) : Prop := Nd X_l10_fetched Q [(1, 1, .int .i64 s1), (2, 2, .slice s2 s2n s2c), (11, 11, .slice s11 s11n s11c), (12, 12, .int .i64 s12), (13, 13, .slice s13 s13n s13c), (14, 14, .int .i64 s14)] [.code (B_l10_fetched.r.r.r.l.r.l.l.l.l), .code (B_l10_fetched.r.r.r.l.r.l.l.l.r), .code (B_l10_fetched.r.r.r.l.r.l.l.r), .inLoop (B_l10_fetched.r.r.r.l.r.l.l), .inBlock 0, .code (B_l10_fetched.r.r.r.r)] w
noncomputable def N_l10_fetched.j8 (Q : Value → World → Prop) (w : World) : Prop := Nd X_l10_fetched Q [] [.code (B_l10_fetched.r.r.r.l.r.l.l.r.l.l.r.l.r.l.l), .code (B_l10_fetched.r.r.r.l.r.l.l.r.l.l.r.l.r.l.r), .code (B_l10_fetched.r.r.r.l.r.l.l.r.l.l.r.r), .inBlock 1, .code (B_l10_fetched.r.r.r.l.r.l.l.r.r), .inLoop (B_l10_fetched.r.r.r.l.r.l.l), .inBlock 0, .code (B_l10_fetched.r.r.r.r)] w
theorem N_l10_fetched.j4_eq (Q : Value → World → Prop) (s1 : Int) (s2 : Option Addr) (s2n : Nat) (s2c : Nat) (s11 : Option Addr) (s11n : Nat) (s11c : Nat) (s12 : Int) (s13 : Option Addr) (s13n : Nat) (s13c : Nat) (s14 : Int) (w : World) (h :
  cond (decide (s14 < ((s11n : Nat) : Int)))
  ((0 : Int) ≤ s14 ∧
  s14 < ((s11n : Nat) : Int) ∧
  opnA s11 fun ad1 =>
  opnI .i64 (w.cell? ((ad1.add (Int.toNat s14 * 5)).add 0)) fun x2 =>
  opnI .i64 (w.cell? ((ad1.add (Int.toNat s14 * 5)).add 1)) fun x3 =>
  opnI .i64 (w.cell? ((ad1.add (Int.toNat s14 * 5)).add 2)) fun x4 =>
  opnI .i64 (w.cell? ((ad1.add (Int.toNat s14 * 5)).add 3)) fun x5 =>
  opnB (w.cell? ((ad1.add (Int.toNat s14 * 5)).add 4)) fun x6 =>
  C_tile_FromTree #[.slice s2 s2n s2c, .agg #[.int .i64 x2, .int .i64 x3, .int .i64 x4, .int .i64 x5, .bool x6]] w fun v7 w8 =>
  opnT (some v7) fun x9 =>
  x9.size = 2 ∧
  opnL (x9[0]?) fun x10 x10n x10c =>
  opnI .i64 (x9[1]?) fun x11 =>
  C_l10_num #[.int .i64 x11] w8 fun v12 w13 =>
  opnI .i64 (some v12) fun x14 =>
  cond (x14 != 0)
  (N_l10_fetched.j8 Q w13)
  ((0 : Int) ≤ s14 ∧
  s14 < ((s11n : Nat) : Int) ∧
  opnA s11 fun ad15 =>
  opnI .i64 (w13.cell? ((ad15.add (Int.toNat s14 * 5)).add 3)) fun x16 =>
  cond (((x10n : Nat) : Int) != (IntKind.wrap .i64 (32 * x16)))
  (N_l10_fetched.j8 Q w13)
  (alC #[.slice x10 x10n x10c] 25 w13 fun p17 w18 =>
  sem PP (Builtin.append_ #[41, 41] 41 #[.slice s13 s13n s13c, .slice (some p17) 1 1]) w18 fun v19 w20 =>
  opnL (some v19) fun x21 x21n x21c =>
  N_l10_fetched.j4 Q s1 s2 s2n s2c s11 s11n s11c s12 x21 x21n x21c (IntKind.wrap .i64 (s14 + 1)) w20)))
  (C_l10_num #[.int .i64 s12] w fun v22 w23 =>
  opnI .i64 (some v22) fun x24 =>
  cond (x24 == 0)
  (cond (s1 == 0)
  (Q (.tuple #[.slice s11 s11n s11c, .slice s13 s13n s13c, .bool true]) w23)
  (Q (.tuple #[.slice s11 s11n s11c, .slice s13 s13n s13c, .bool (decide (((s11n : Nat) : Int) > 0))]) w23))
  (Q (.tuple #[.slice s11 s11n s11c, .slice s13 s13n s13c, .bool false]) w23))) :
N_l10_fetched.j4 Q s1 s2 s2n s2c s11 s11n s11c s12 s13 s13n s13c s14 w := Nd_fold K_l10_fetched (by kernel_rfl) h
theorem N_l10_fetched.j8_eq (Q : Value → World → Prop) (w : World) (h :
  Q (.tuple #[.slice none 0 0, .slice none 0 0, .bool false]) w) :
N_l10_fetched.j8 Q w := Nd_fold K_l10_fetched (by kernel_rfl) h
theorem C_l10_fetched_eq (Q : Value → World → Prop) (a0 : Int) (a1 : Int) (a2 : Option Addr) (a2n : Nat) (a2c : Nat) (a3 : Option Addr) (a3n : Nat) (a3c : Nat) (w : World) (h :
  C_tile_Plan #[.int .i64 a0, .int .i64 a1, .slice a3 a3n a3c] w fun v1 w2 =>
  opnT (some v1) fun x3 =>
  x3.size = 2 ∧
  opnL (x3[0]?) fun x4 x4n x4c =>
  opnI .i64 (x3[1]?) fun x5 =>
  N_l10_fetched.j4 Q a1 a2 a2n a2c x4 x4n x4c x5 none 0 0 0 w2) :
C_l10_fetched #[.int .i64 a0, .int .i64 a1, .slice a2 a2n a2c, .slice a3 a3n a3c] w Q := C_fold K_l10_fetched (by kernel_rfl) h
/-! ### ledger/tile.Read -/
noncomputable def B_tile_Read : Code := match Tryd.f28.body with | some c => c | _ => .skip
noncomputable def X_tile_Read : Cx := { P := PP, fn := 28, N := 148, tab := tab, results := [.tmp 14, .tmp 15], iter := fun _ => (.none, .none), dyn := fun _ => false, live := fun r => cond (Nat.beq r 10) (some [0, 1, 2, 5, 6, 10, 16, 18, 48, 49, 50]) (cond (Nat.beq r 14) (some [0, 1, 2, 5, 6, 10, 16, 18, 48, 49, 50]) (cond (Nat.beq r 17) (some [0, 1, 2, 5, 6, 10, 16, 18, 21, 69, 70, 71]) (cond (Nat.beq r 30) (some [0, 1, 6, 21, 111, 112, 113]) (cond (Nat.beq r 34) (some [0, 1, 6, 21, 111, 112, 113]) (none))))) }
theorem K_tile_Read : OkF X_tile_Read B_tile_Read Tryd.f28 := ⟨⟨tab_ok, mix_ok⟩, Tryd.func28, by kernel_rfl, by kernel_rfl, by kernel_rfl, by kernel_rfl⟩
noncomputable def N_tile_Read.j10 (Q : Value → World → Prop) (s0 : Int) (s1 : Int) (s2 : Int) (s5 : Option Addr) (s5n : Nat) (s5c : Nat) (s6 : Option Addr) (s6n : Nat) (s6c : Nat) (s10 : Addr) (s16 : Option Addr) (s16n : Nat) (s16c : Nat) (s18 : Option Nat) (s48 : Option Addr) (s48n : Nat) (s48c : Nat) (s49 : Int) (s50 : Int) (w : World) : Prop := Nd X_tile_Read Q [(0, 0, .int .i64 s0), (1, 1, .int .i64 s1), (2, 2, .int .i64 s2), (5, 5, .slice s5 s5n s5c), (6, 6, .slice s6 s6n s6c), (10, 10, .pointer (some s10)), (16, 16, .slice s16 s16n s16c), (18, 18, .map s18), (48, 48, .slice s48 s48n s48c), (49, 49, .int .i64 s49), (50, 50, .int .i64 s50)] [.code (B_tile_Read.r.r.r.r.r.r.l.r.l.l.l), .code (B_tile_Read.r.r.r.r.r.r.l.r.l.l.r), .inLoop (B_tile_Read.r.r.r.r.r.r.l.r.l.l), .inBlock 0, .code (B_tile_Read.r.r.r.r.r.r.r)] w
noncomputable def N_tile_Read.j14 (Q : Value → World → Prop) (s0 : Int) (s1 : Int) (s2 : Int) (s5 : Option Addr) (s5n : Nat) (s5c : Nat) (s6 : Option Addr) (s6n : Nat) (s6c : Nat) (s10 : Addr) (s16 : Option Addr) (s16n : Nat) (s16c : Nat) (s18 : Option Nat) (s48 : Option Addr) (s48n : Nat) (s48c : Nat) (s49 : Int) (s50 : Int) (w : World) : Prop := Nd X_tile_Read Q [(0, 0, .int .i64 s0), (1, 1, .int .i64 s1), (2, 2, .int .i64 s2), (5, 5, .slice s5 s5n s5c), (6, 6, .slice s6 s6n s6c), (10, 10, .pointer (some s10)), (16, 16, .slice s16 s16n s16c), (18, 18, .map s18), (48, 48, .slice s48 s48n s48c), (49, 49, .int .i64 s49), (50, 50, .int .i64 s50)] [.code (B_tile_Read.r.r.r.r.r.r.l.r.l.l.r.r.r), .inLoop (B_tile_Read.r.r.r.r.r.r.l.r.l.l), .inBlock 0, .code (B_tile_Read.r.r.r.r.r.r.r)] w
noncomputable def N_tile_Read.j17 (Q : Value → World → Prop) (s0 : Int) (s1 : Int) (s2 : Int) (s5 : Option Addr) (s5n : Nat) (s5c : Nat) (s6 : Option Addr) (s6n : Nat) (s6c : Nat) (s10 : Addr) (s16 : Option Addr) (s16n : Nat) (s16c : Nat) (s18 : Option Nat) (s21 : Addr) (s69 : Option Addr) (s69n : Nat) (s69c : Nat) (s70 : Int) (s71 : Int) (w : World) : Prop := Nd X_tile_Read Q [(0, 0, .int .i64 s0), (1, 1, .int .i64 s1), (2, 2, .int .i64 s2), (5, 5, .slice s5 s5n s5c), (6, 6, .slice s6 s6n s6c), (10, 10, .pointer (some s10)), (16, 16, .slice s16 s16n s16c), (18, 18, .map s18), (21, 21, .pointer (some s21)), (69, 69, .slice s69 s69n s69c), (70, 70, .int .i64 s70), (71, 71, .int .i64 s71)] [.code (B_tile_Read.r.r.r.r.r.r.r.r.l.r.l.l.l), .code (B_tile_Read.r.r.r.r.r.r.r.r.l.r.l.l.r), .inLoop (B_tile_Read.r.r.r.r.r.r.r.r.l.r.l.l), .inBlock 2, .code (B_tile_Read.r.r.r.r.r.r.r.r.r)] w
noncomputable def N_tile_Read.j30 (Q : Value → World → Prop) (s0 : Int) (s1 : Int) (s6 : Option Addr) (s6n : Nat) (s6c : Nat) (s21 : Addr) (s111 : Option Addr) (s111n : Nat) (s111c : Nat) (s112 : Int) (s113 : Int) (w : World) : Prop := Nd X_tile_Read Q [(0, 0, .int .i64 s0), (1, 1, .int .i64 s1), (6, 6, .slice s6 s6n s6c), (21, 21, .pointer (some s21)), (111, 111, .slice s111 s111n s111c), (112, 112, .int .i64 s112), (113, 113, .int .i64 s113)] [.code (B_tile_Read.r.r.r.r.r.r.r.r.r.r.r.l.r.l.l.l), .code (B_tile_Read.r.r.r.r.r.r.r.r.r.r.r.l.r.l.l.r), .inLoop (B_tile_Read.r.r.r.r.r.r.r.r.r.r.r.l.r.l.l), .inBlock 4, .code (B_tile_Read.r.r.r.r.r.r.r.r.r.r.r.r)] w
noncomputable def N_tile_Read.j34 (Q : Value → World → Prop) (s0 : Int) (s1 : Int) (s6 : Option Addr) (s6n : Nat) (s6c : Nat) (s21 : Addr) (s111 : Option Addr) (s111n : Nat) (s111c : Nat) (s112 : Int) (s113 : Int) (w : World) : Prop := Nd X_tile_Read Q [(0, 0, .int .i64 s0), (1, 1, .int .i64 s1), (6, 6, .slice s6 s6n s6c), (21, 21, .pointer (some s21)), (111, 111, .slice s111 s111n s111c), (112, 112, .int .i64 s112), (113, 113, .int .i64 s113)] [.code (B_tile_Read.r.r.r.r.r.r.r.r.r.r.r.l.r.l.l.r.r.r), .inLoop (B_tile_Read.r.r.r.r.r.r.r.r.r.r.r.l.r.l.l), .inBlock 4, .code (B_tile_Read.r.r.r.r.r.r.r.r.r.r.r.r)] w
theorem N_tile_Read.j10_eq (Q : Value → World → Prop) (s0 : Int) (s1 : Int) (s2 : Int) (s5 : Option Addr) (s5n : Nat) (s5c : Nat) (s6 : Option Addr) (s6n : Nat) (s6c : Nat) (s10 : Addr) (s16 : Option Addr) (s16n : Nat) (s16c : Nat) (s18 : Option Nat) (s48 : Option Addr) (s48n : Nat) (s48c : Nat) (s49 : Int) (s50 : Int) (w : World) (h :
  cond (decide (s50 < s49))
  ((0 : Int) ≤ s50 ∧
  s50 < ((s48n : Nat) : Int) ∧
  opnA s48 fun ad1 =>
  opnI .i64 (w.cell? ((ad1.add (Int.toNat s50 * 5)).add 0)) fun x2 =>
  opnI .i64 (w.cell? ((ad1.add (Int.toNat s50 * 5)).add 1)) fun x3 =>
  opnI .i64 (w.cell? ((ad1.add (Int.toNat s50 * 5)).add 2)) fun x4 =>
  opnI .i64 (w.cell? ((ad1.add (Int.toNat s50 * 5)).add 3)) fun x5 =>
  opnB (w.cell? ((ad1.add (Int.toNat s50 * 5)).add 4)) fun x6 =>
  alC #[.int .i64 0, .int .i64 0, .int .i64 0, .int .i64 0, .bool false] 24 w fun p7 w8 =>
  Array.size (#[.int .i64 x2, .int .i64 x3, .int .i64 x4, .int .i64 x5, .bool x6] : Array Value) = 5 ∧
  stC (p7.add 0) (.int .i64 x2) w8 fun w9 =>
  stC (p7.add 1) (.int .i64 x3) w9 fun w10 =>
  stC (p7.add 2) (.int .i64 x4) w10 fun w11 =>
  stC (p7.add 3) (.int .i64 x5) w11 fun w12 =>
  stC (p7.add 4) (.bool x6) w12 fun w13 =>
  opnI .i64 (w13.cell? (p7.add 0)) fun x14 =>
  opnI .i64 (w13.cell? (p7.add 1)) fun x15 =>
  opnI .i64 (w13.cell? (p7.add 2)) fun x16 =>
  opnI .i64 (w13.cell? (p7.add 3)) fun x17 =>
  opnB (w13.cell? (p7.add 4)) fun x18 =>
  semR PP (Instr.lookup 103 (.map s18) (.agg #[.int .i64 x14, .int .i64 x15, .int .i64 x16, .int .i64 x17, .bool x18]) false) w13 fun x19 =>
  opnI .i64 (some x19) fun x20 =>
  cond (x20 == 0)
  (opnI .i64 (w13.cell? (p7.add 0)) fun x21 =>
  opnI .i64 (w13.cell? (p7.add 1)) fun x22 =>
  opnI .i64 (w13.cell? (p7.add 2)) fun x23 =>
  opnI .i64 (w13.cell? (p7.add 3)) fun x24 =>
  opnB (w13.cell? (p7.add 4)) fun x25 =>
  semU PP (Instr.mapUpdate 103 (.map s18) (.agg #[.int .i64 x21, .int .i64 x22, .int .i64 x23, .int .i64 x24, .bool x25]) (.int .i64 (IntKind.wrap .i64 (s50 + 1)))) w13 fun w26 =>
  N_tile_Read.j14 Q s0 s1 s2 s5 s5n s5c s6 s6n s6c s10 s16 s16n s16c s18 s48 s48n s48c s49 s50 w26)
  (N_tile_Read.j14 Q s0 s1 s2 s5 s5n s5c s6 s6n s6c s10 s16 s16n s16c s18 s48 s48n s48c s49 s50 w13))
  (alM w fun r27 w28 =>
  alC #[.int .i64 0, .int .i64 0, .int .i64 0, .map none] 106 w28 fun p29 w30 =>
  Array.size (#[.int .i64 s0, .int .i64 s1, .int .i64 s2, .map (some r27)] : Array Value) = 4 ∧
  stC (p29.add 0) (.int .i64 s0) w30 fun w31 =>
  stC (p29.add 1) (.int .i64 s1) w31 fun w32 =>
  stC (p29.add 2) (.int .i64 s2) w32 fun w33 =>
  stC (p29.add 3) (.map (some r27)) w33 fun w34 =>
  N_tile_Read.j17 Q s0 s1 s2 s5 s5n s5c s6 s6n s6c s10 s16 s16n s16c s18 p29 s16 s16n s16c ((s16n : Nat) : Int) 0 w34)) :
N_tile_Read.j10 Q s0 s1 s2 s5 s5n s5c s6 s6n s6c s10 s16 s16n s16c s18 s48 s48n s48c s49 s50 w := Nd_fold K_tile_Read (by kernel_rfl) h
theorem N_tile_Read.j14_eq (Q : Value → World → Prop) (s0 : Int) (s1 : Int) (s2 : Int) (s5 : Option Addr) (s5n : Nat) (s5c : Nat) (s6 : Option Addr) (s6n : Nat) (s6c : Nat) (s10 : Addr) (s16 : Option Addr) (s16n : Nat) (s16c : Nat) (s18 : Option Nat) (s48 : Option Addr) (s48n : Nat) (s48c : Nat) (s49 : Int) (s50 : Int) (w : World) (h :
  N_tile_Read.j10 Q s0 s1 s2 s5 s5n s5c s6 s6n s6c s10 s16 s16n s16c s18 s48 s48n s48c s49 (IntKind.wrap .i64 (s50 + 1)) w) :
N_tile_Read.j14 Q s0 s1 s2 s5 s5n s5c s6 s6n s6c s10 s16 s16n s16c s18 s48 s48n s48c s49 s50 w := Nd_fold K_tile_Read (by kernel_rfl) h
theorem N_tile_Read.j17_eq (Q : Value → World → Prop) (s0 : Int) (s1 : Int) (s2 : Int) (s5 : Option Addr) (s5n : Nat) (s5c : Nat) (s6 : Option Addr) (s6n : Nat) (s6c : Nat) (s10 : Addr) (s16 : Option Addr) (s16n : Nat) (s16c : Nat) (s18 : Option Nat) (s21 : Addr) (s69 : Option Addr) (s69n : Nat) (s69c : Nat) (s70 : Int) (s71 : Int) (w : World) (h :
  cond (decide (s71 < s70))
  ((0 : Int) ≤ s71 ∧
  s71 < ((s69n : Nat) : Int) ∧
  opnA s69 fun ad1 =>
  opnI .i64 (w.cell? ((ad1.add (Int.toNat s71 * 5)).add 0)) fun x2 =>
  opnI .i64 (w.cell? ((ad1.add (Int.toNat s71 * 5)).add 1)) fun x3 =>
  opnI .i64 (w.cell? ((ad1.add (Int.toNat s71 * 5)).add 2)) fun x4 =>
  opnI .i64 (w.cell? ((ad1.add (Int.toNat s71 * 5)).add 3)) fun x5 =>
  opnB (w.cell? ((ad1.add (Int.toNat s71 * 5)).add 4)) fun x6 =>
  alC #[.int .i64 0, .int .i64 0, .int .i64 0, .int .i64 0, .bool false] 24 w fun p7 w8 =>
  Array.size (#[.int .i64 x2, .int .i64 x3, .int .i64 x4, .int .i64 x5, .bool x6] : Array Value) = 5 ∧
  stC (p7.add 0) (.int .i64 x2) w8 fun w9 =>
  stC (p7.add 1) (.int .i64 x3) w9 fun w10 =>
  stC (p7.add 2) (.int .i64 x4) w10 fun w11 =>
  stC (p7.add 3) (.int .i64 x5) w11 fun w12 =>
  stC (p7.add 4) (.bool x6) w12 fun w13 =>
  opnI .i64 (w13.cell? (p7.add 0)) fun x14 =>
  opnI .i64 (w13.cell? (p7.add 1)) fun x15 =>
  opnI .i64 (w13.cell? (p7.add 2)) fun x16 =>
  opnI .i64 (w13.cell? (p7.add 3)) fun x17 =>
  opnB (w13.cell? (p7.add 4)) fun x18 =>
  semR PP (Instr.lookup 103 (.map s18) (.agg #[.int .i64 x14, .int .i64 x15, .int .i64 x16, .int .i64 x17, .bool x18]) false) w13 fun x19 =>
  opnI .i64 (some x19) fun x20 =>
  cond (x20 == 0)
  (Q (.tuple #[.slice none 0 0, .int .i64 103]) w13)
  (drw w13 fun w21 =>
  (0 : Int) ≤ IntKind.wrap .i64 (x20 - 1) ∧
  (IntKind.wrap .i64 (x20 - 1)) < ((s5n : Nat) : Int) ∧
  opnA s5 fun ad22 =>
  opnL (w21.cell? (ad22.add (Int.toNat (IntKind.wrap .i64 (x20 - 1)) * 1))) fun x23 x23n x23c =>
  opnI .i64 (w21.cell? (p7.add 3)) fun x24 =>
  cond (((x23n : Nat) : Int) != (IntKind.wrap .i64 (32 * x24)))
  (Q (.tuple #[.slice none 0 0, .int .i64 102]) w21)
  (drw w21 fun w25 =>
  (0 : Int) ≤ IntKind.wrap .i64 (x20 - 1) ∧
  (IntKind.wrap .i64 (x20 - 1)) < ((s5n : Nat) : Int) ∧
  opnA s5 fun ad26 =>
  opnM (w25.cell? (s21.add 3)) fun x27 =>
  opnI .i64 (w25.cell? (p7.add 0)) fun x28 =>
  opnI .i64 (w25.cell? (p7.add 1)) fun x29 =>
  opnI .i64 (w25.cell? (p7.add 2)) fun x30 =>
  opnI .i64 (w25.cell? (p7.add 3)) fun x31 =>
  opnB (w25.cell? (p7.add 4)) fun x32 =>
  opnL (w25.cell? (ad26.add (Int.toNat (IntKind.wrap .i64 (x20 - 1)) * 1))) fun x33 x33n x33c =>
  semU PP (Instr.mapUpdate 104 (.map x27) (.agg #[.int .i64 x28, .int .i64 x29, .int .i64 x30, .int .i64 x31, .bool x32]) (.slice x33 x33n x33c)) w25 fun w34 =>
  N_tile_Read.j17 Q s0 s1 s2 s5 s5n s5c s6 s6n s6c s10 s16 s16n s16c s18 s21 s69 s69n s69c s70 (IntKind.wrap .i64 (s71 + 1)) w34)))
  (C_tlog_Peaks #[.int .i64 s2] w fun v35 w36 =>
  opnT (some v35) fun x37 =>
  x37.size = 2 ∧
  opnL (x37[0]?) fun x38 x38n x38c =>
  opnI .i64 (x37[1]?) fun x39 =>
  drw w36 fun w40 =>
  opnI .i64 (w40.cell? (s21.add 0)) fun x41 =>
  opnI .i64 (w40.cell? (s21.add 1)) fun x42 =>
  opnI .i64 (w40.cell? (s21.add 2)) fun x43 =>
  opnM (w40.cell? (s21.add 3)) fun x44 =>
  opnRow w40 s10 (32 * 1) fun x45 =>
  C_tile_shelf_hashes #[.agg #[.int .i64 x41, .int .i64 x42, .int .i64 x43, .map x44], .slice x38 x38n x38c] w40 fun v46 w47 =>
  opnL (some v46) fun x48 x48n x48c =>
  (opnRow w47 s10 (32 * 1) fun x49 =>
  ((.agg x49) : Value) = .agg x45) ∧
  C_tlog_Fold #[.int .i64 s0, .slice x48 x48n x48c] w47 fun v50 w51 =>
  opnG (some v50) fun x52 =>
  (opnRow w51 s10 (32 * 1) fun x53 =>
  ((.agg x53) : Value) = .agg x45) ∧
  semR PP (do eqGuard .neq 29 (.tmp 108) (.tmp 109) (.agg x52) (.agg x45); binOp .neq 29 (.agg x52) (.agg x45)) w51 fun x54 =>
  opnB (some x54) fun x55 =>
  cond x55
  (Q (.tuple #[.slice none 0 0, .int .i64 104]) w51)
  (N_tile_Read.j30 Q s0 s1 s6 s6n s6c s21 s16 s16n s16c ((s16n : Nat) : Int) 0 w51))) :
N_tile_Read.j17 Q s0 s1 s2 s5 s5n s5c s6 s6n s6c s10 s16 s16n s16c s18 s21 s69 s69n s69c s70 s71 w := Nd_fold K_tile_Read (by kernel_rfl) h
theorem N_tile_Read.j30_eq (Q : Value → World → Prop) (s0 : Int) (s1 : Int) (s6 : Option Addr) (s6n : Nat) (s6c : Nat) (s21 : Addr) (s111 : Option Addr) (s111n : Nat) (s111c : Nat) (s112 : Int) (s113 : Int) (w : World) (h :
  cond (decide (s113 < s112))
  ((0 : Int) ≤ s113 ∧
  s113 < ((s111n : Nat) : Int) ∧
  opnA s111 fun ad1 =>
  opnI .i64 (w.cell? ((ad1.add (Int.toNat s113 * 5)).add 0)) fun x2 =>
  opnI .i64 (w.cell? ((ad1.add (Int.toNat s113 * 5)).add 1)) fun x3 =>
  opnI .i64 (w.cell? ((ad1.add (Int.toNat s113 * 5)).add 2)) fun x4 =>
  opnI .i64 (w.cell? ((ad1.add (Int.toNat s113 * 5)).add 3)) fun x5 =>
  opnB (w.cell? ((ad1.add (Int.toNat s113 * 5)).add 4)) fun x6 =>
  alC #[.int .i64 0, .int .i64 0, .int .i64 0, .int .i64 0, .bool false] 24 w fun p7 w8 =>
  Array.size (#[.int .i64 x2, .int .i64 x3, .int .i64 x4, .int .i64 x5, .bool x6] : Array Value) = 5 ∧
  stC (p7.add 0) (.int .i64 x2) w8 fun w9 =>
  stC (p7.add 1) (.int .i64 x3) w9 fun w10 =>
  stC (p7.add 2) (.int .i64 x4) w10 fun w11 =>
  stC (p7.add 3) (.int .i64 x5) w11 fun w12 =>
  stC (p7.add 4) (.bool x6) w12 fun w13 =>
  drw w13 fun w14 =>
  opnI .i64 (w14.cell? (p7.add 3)) fun x15 =>
  C_tile_full #[.int .i64 s1] w14 fun v16 w17 =>
  opnI .i64 (some v16) fun x18 =>
  (opnI .i64 (w17.cell? (p7.add 3)) fun x19 =>
  ((.int .i64 x19) : Value) = .int .i64 x15) ∧
  cond (x15 == x18)
  (opnI .i64 (w17.cell? (p7.add 1)) fun x20 =>
  cond (decide ((IntKind.wrap .i64 (s1 * (IntKind.wrap .i64 (x20 + 1)))) ≤ 48))
  (opnM (w17.cell? (s21.add 3)) fun x21 =>
  opnI .i64 (w17.cell? (p7.add 0)) fun x22 =>
  opnI .i64 (w17.cell? (p7.add 1)) fun x23 =>
  opnI .i64 (w17.cell? (p7.add 2)) fun x24 =>
  opnI .i64 (w17.cell? (p7.add 3)) fun x25 =>
  opnB (w17.cell? (p7.add 4)) fun x26 =>
  semR PP (Instr.lookup 104 (.map x21) (.agg #[.int .i64 x22, .int .i64 x23, .int .i64 x24, .int .i64 x25, .bool x26]) false) w17 fun x27 =>
  opnL (some x27) fun x28 x28n x28c =>
  opnI .i64 (w17.cell? (s21.add 0)) fun x29 =>
  opnI .i64 (w17.cell? (s21.add 1)) fun x30 =>
  opnI .i64 (w17.cell? (s21.add 2)) fun x31 =>
  opnM (w17.cell? (s21.add 3)) fun x32 =>
  opnI .i64 (w17.cell? (p7.add 0)) fun x33 =>
  opnI .i64 (w17.cell? (p7.add 1)) fun x34 =>
  opnI .i64 (w17.cell? (p7.add 2)) fun x35 =>
  opnI .i64 (w17.cell? (p7.add 3)) fun x36 =>
  opnB (w17.cell? (p7.add 4)) fun x37 =>
  C_tile_joined #[.int .i64 s0, .slice x28 x28n x28c, .int .i64 0, .int .i64 s1] w17 fun v38 w39 =>
  opnG (some v38) fun x40 =>
  (opnI .i64 (w39.cell? (p7.add 0)) fun x41 =>
  opnI .i64 (w39.cell? (p7.add 1)) fun x42 =>
  opnI .i64 (w39.cell? (p7.add 2)) fun x43 =>
  opnI .i64 (w39.cell? (p7.add 3)) fun x44 =>
  opnB (w39.cell? (p7.add 4)) fun x45 =>
  ((.agg #[.int .i64 x41, .int .i64 x42, .int .i64 x43, .int .i64 x44, .bool x45]) : Value) = .agg #[.int .i64 x33, .int .i64 x34, .int .i64 x35, .int .i64 x36, .bool x37]) ∧
  (opnI .i64 (w39.cell? (s21.add 0)) fun x46 =>
  opnI .i64 (w39.cell? (s21.add 1)) fun x47 =>
  opnI .i64 (w39.cell? (s21.add 2)) fun x48 =>
  opnM (w39.cell? (s21.add 3)) fun x49 =>
  ((.agg #[.int .i64 x46, .int .i64 x47, .int .i64 x48, .map x49]) : Value) = .agg #[.int .i64 x29, .int .i64 x30, .int .i64 x31, .map x32]) ∧
  C_tile_topOf #[.agg #[.int .i64 x33, .int .i64 x34, .int .i64 x35, .int .i64 x36, .bool x37]] w39 fun v50 w51 =>
  opnI .i64 (some v50) fun x52 =>
  (opnI .i64 (w51.cell? (s21.add 0)) fun x53 =>
  opnI .i64 (w51.cell? (s21.add 1)) fun x54 =>
  opnI .i64 (w51.cell? (s21.add 2)) fun x55 =>
  opnM (w51.cell? (s21.add 3)) fun x56 =>
  ((.agg #[.int .i64 x53, .int .i64 x54, .int .i64 x55, .map x56]) : Value) = .agg #[.int .i64 x29, .int .i64 x30, .int .i64 x31, .map x32]) ∧
  C_tile_shelf_hash #[.agg #[.int .i64 x29, .int .i64 x30, .int .i64 x31, .map x32], .int .i64 x52] w51 fun v57 w58 =>
  opnG (some v57) fun x59 =>
  semR PP (do eqGuard .neq 29 (.tmp 137) (.tmp 141) (.agg x40) (.agg x59); binOp .neq 29 (.agg x40) (.agg x59)) w58 fun x60 =>
  opnB (some x60) fun x61 =>
  cond x61
  (Q (.tuple #[.slice none 0 0, .int .i64 104]) w58)
  (N_tile_Read.j34 Q s0 s1 s6 s6n s6c s21 s111 s111n s111c s112 s113 w58))
  (N_tile_Read.j34 Q s0 s1 s6 s6n s6c s21 s111 s111n s111c s112 s113 w17))
  (N_tile_Read.j34 Q s0 s1 s6 s6n s6c s21 s111 s111n s111c s112 s113 w17))
  (opnI .i64 (w.cell? (s21.add 0)) fun x62 =>
  opnI .i64 (w.cell? (s21.add 1)) fun x63 =>
  opnI .i64 (w.cell? (s21.add 2)) fun x64 =>
  opnM (w.cell? (s21.add 3)) fun x65 =>
  C_tile_shelf_hashes #[.agg #[.int .i64 x62, .int .i64 x63, .int .i64 x64, .map x65], .slice s6 s6n s6c] w fun v66 w67 =>
  opnL (some v66) fun x68 x68n x68c =>
  Q (.tuple #[.slice x68 x68n x68c, .int .i64 0]) w67)) :
N_tile_Read.j30 Q s0 s1 s6 s6n s6c s21 s111 s111n s111c s112 s113 w := Nd_fold K_tile_Read (by kernel_rfl) h
theorem N_tile_Read.j34_eq (Q : Value → World → Prop) (s0 : Int) (s1 : Int) (s6 : Option Addr) (s6n : Nat) (s6c : Nat) (s21 : Addr) (s111 : Option Addr) (s111n : Nat) (s111c : Nat) (s112 : Int) (s113 : Int) (w : World) (h :
  N_tile_Read.j30 Q s0 s1 s6 s6n s6c s21 s111 s111n s111c s112 (IntKind.wrap .i64 (s113 + 1)) w) :
N_tile_Read.j34 Q s0 s1 s6 s6n s6c s21 s111 s111n s111c s112 s113 w := Nd_fold K_tile_Read (by kernel_rfl) h
theorem C_tile_Read_eq (Q : Value → World → Prop) (a0 : Int) (a1 : Int) (a2 : Int) (a3 : Array Value) (a4 : Option Addr) (a4n : Nat) (a4c : Nat) (a5 : Option Addr) (a5n : Nat) (a5c : Nat) (a6 : Option Addr) (a6n : Nat) (a6c : Nat) (w : World) (h :
  alC a3 29 w fun p1 w2 =>
  cond (((a4n : Nat) : Int) != ((a5n : Nat) : Int))
  (Q (.tuple #[.slice none 0 0, .int .i64 54]) w2)
  (cond (decide (((a4n : Nat) : Int) > 4096))
  (Q (.tuple #[.slice none 0 0, .int .i64 2]) w2)
  (C_tile_Plan #[.int .i64 a1, .int .i64 a2, .slice a6 a6n a6c] w2 fun v3 w4 =>
  opnT (some v3) fun x5 =>
  x5.size = 2 ∧
  opnL (x5[0]?) fun x6 x6n x6c =>
  opnI .i64 (x5[1]?) fun x7 =>
  cond (x7 != 0)
  (Q (.tuple #[.slice none 0 0, .int .i64 x7]) w4)
  (alM w4 fun r8 w9 =>
  N_tile_Read.j10 Q a0 a1 a2 a5 a5n a5c a6 a6n a6c p1 x6 x6n x6c (some r8) a4 a4n a4c ((a4n : Nat) : Int) 0 w9)))) :
C_tile_Read #[.int .i64 a0, .int .i64 a1, .int .i64 a2, .agg a3, .slice a4 a4n a4c, .slice a5 a5n a5c, .slice a6 a6n a6c] w Q := C_fold K_tile_Read (by kernel_rfl) h
/-! ### ledger/ledgerlaw10.certain -/
noncomputable def B_l10_certain : Code := match Tryd.f29.body with | some c => c | _ => .skip
noncomputable def X_l10_certain : Cx := { P := PP, fn := 29, N := 111, tab := tab, results := [.tmp 16], iter := fun _ => (.none, .none), dyn := fun _ => false, live := fun r => cond (Nat.beq r 10) (some [0, 3, 10, 19, 20, 22, 24, 25, 26]) (cond (Nat.beq r 11) (some [0, 3, 10, 19, 20, 22, 24, 25, 26]) (none)) }
theorem K_l10_certain : OkF X_l10_certain B_l10_certain Tryd.f29 := ⟨⟨tab_ok, mix_ok⟩, Tryd.func29, by kernel_rfl, by kernel_rfl, by kernel_rfl, by kernel_rfl⟩
noncomputable def N_l10_certain.j10 (Q : Value → World → Prop) (s0 : Int) (s3 : Option Addr) (s3n : Nat) (s3c : Nat) (s10 : Addr) (s19 : Addr) (s20 : Int) (s22 : Option Addr) (s22n : Nat) (s22c : Nat) (s24 : Option Addr) (s24n : Nat) (s24c : Nat) (s25 : Bool) (s26 : Int) (w : World) : Prop := Nd X_l10_certain Q [(0, 0, .int .i64 s0), (3, 3, .slice s3 s3n s3c), (10, 10, .pointer (some s10)), (19, 19, .pointer (some s19)), (20, 20, .int .i64 s20), (22, 22, .slice s22 s22n s22c), (24, 24, .slice s24 s24n s24c), (25, 25, .bool s25), (26, 26, .int .i64 s26)] [.code (B_l10_certain.r.r.r.r.r.r.r.r.l.r.l.l.l.l), .code (B_l10_certain.r.r.r.r.r.r.r.r.l.r.l.l.l.r), .code (B_l10_certain.r.r.r.r.r.r.r.r.l.r.l.l.r), .inLoop (B_l10_certain.r.r.r.r.r.r.r.r.l.r.l.l), .inBlock 0, .code (B_l10_certain.r.r.r.r.r.r.r.r.r)] w
noncomputable def N_l10_certain.j11 (Q : Value → World → Prop) (s0 : Int) (s3 : Option Addr) (s3n : Nat) (s3c : Nat) (s10 : Addr) (s19 : Addr) (s20 : Int) (s22 : Option Addr) (s22n : Nat) (s22c : Nat) (s24 : Option Addr) (s24n : Nat) (s24c : Nat) (s25 : Bool) (s26 : Int) (w : World) : Prop := Nd X_l10_certain Q [(0, 0, .int .i64 s0), (3, 3, .slice s3 s3n s3c), (10, 10, .pointer (some s10)), (19, 19, .pointer (some s19)), (20, 20, .int .i64 s20), (22, 22, .slice s22 s22n s22c), (24, 24, .slice s24 s24n s24c), (25, 25, .bool s25), (26, 26, .int .i64 s26)] [.code (B_l10_certain.r.r.r.r.r.r.r.r.l.r.l.l.r.r), .inLoop (B_l10_certain.r.r.r.r.r.r.r.r.l.r.l.l), .inBlock 0, .code (B_l10_certain.r.r.r.r.r.r.r.r.r)] w
theorem N_l10_certain.j10_eq (Q : Value → World → Prop) (s0 : Int) (s3 : Option Addr) (s3n : Nat) (s3c : Nat) (s10 : Addr) (s19 : Addr) (s20 : Int) (s22 : Option Addr) (s22n : Nat) (s22c : Nat) (s24 : Option Addr) (s24n : Nat) (s24c : Nat) (s25 : Bool) (s26 : Int) (w : World) (h :
  cond (decide (s26 < ((s22n : Nat) : Int)))
  ((0 : Int) ≤ s26 ∧
  s26 < ((s22n : Nat) : Int) ∧
  opnA s22 fun ad1 =>
  opnI .i64 (w.cell? (ad1.add (Int.toNat s26 * 1))) fun x2 =>
  cond (x2 == s20)
  (opnRow w s19 (32 * 1) fun x3 =>
  x3.size = 32 ∧
  alC x3 29 w fun p6 w5 =>
  sem PP (Builtin.append_ #[22, 22] 22 #[.slice s24 s24n s24c, .slice (some p6) 1 1]) w5 fun v7 w8 =>
  opnL (some v7) fun x9 x9n x9c =>
  N_l10_certain.j11 Q s0 s3 s3n s3c s10 s19 s20 s22 s22n s22c x9 x9n x9c true s26 w8)
  ((0 : Int) ≤ s26 ∧
  s26 < ((s22n : Nat) : Int) ∧
  opnA s22 fun ad10 =>
  opnI .i64 (w.cell? (ad10.add (Int.toNat s26 * 1))) fun x11 =>
  (0 : Int) ≤ x11 ∧
  x11 < ((s3n : Nat) : Int) ∧
  opnA s3 fun ad12 =>
  opnRow w (ad12.add (Int.toNat x11 * 32)) (32 * 1) fun x13 =>
  x13.size = 32 ∧
  alC x13 29 w fun p16 w15 =>
  sem PP (Builtin.append_ #[22, 22] 22 #[.slice s24 s24n s24c, .slice (some p16) 1 1]) w15 fun v17 w18 =>
  opnL (some v17) fun x19 x19n x19c =>
  N_l10_certain.j11 Q s0 s3 s3n s3c s10 s19 s20 s22 s22n s22c x19 x19n x19c s25 s26 w18))
  (drw w fun w20 =>
  cond s25
  (opnRow w20 s10 (32 * 1) fun x21 =>
  C_tlog_Fold #[.int .i64 s0, .slice s24 s24n s24c] w20 fun v22 w23 =>
  opnG (some v22) fun x24 =>
  (opnRow w23 s10 (32 * 1) fun x25 =>
  ((.agg x25) : Value) = .agg x21) ∧
  semR PP (do eqGuard .neq 29 (.tmp 107) (.tmp 108) (.agg x24) (.agg x21); binOp .neq 29 (.agg x24) (.agg x21)) w23 fun x26 =>
  opnB (some x26) fun x27 =>
  Q (.bool x27) w23)
  (Q (.bool false) w20))) :
N_l10_certain.j10 Q s0 s3 s3n s3c s10 s19 s20 s22 s22n s22c s24 s24n s24c s25 s26 w := Nd_fold K_l10_certain (by kernel_rfl) h
theorem N_l10_certain.j11_eq (Q : Value → World → Prop) (s0 : Int) (s3 : Option Addr) (s3n : Nat) (s3c : Nat) (s10 : Addr) (s19 : Addr) (s20 : Int) (s22 : Option Addr) (s22n : Nat) (s22c : Nat) (s24 : Option Addr) (s24n : Nat) (s24c : Nat) (s25 : Bool) (s26 : Int) (w : World) (h :
  N_l10_certain.j10 Q s0 s3 s3n s3c s10 s19 s20 s22 s22n s22c s24 s24n s24c s25 (IntKind.wrap .i64 (s26 + 1)) w) :
N_l10_certain.j11 Q s0 s3 s3n s3c s10 s19 s20 s22 s22n s22c s24 s24n s24c s25 s26 w := Nd_fold K_l10_certain (by kernel_rfl) h
theorem C_l10_certain_eq (Q : Value → World → Prop) (a0 : Int) (a1 : Int) (a2 : Array Value) (a3 : Option Addr) (a3n : Nat) (a3c : Nat) (a4_0 : Int) (a4_1 : Int) (a4_2 : Int) (a4_3 : Int) (a4_4 : Bool) (a5 : Option Addr) (a5n : Nat) (a5c : Nat) (a6 : Option Addr) (a6n : Nat) (a6c : Nat) (a7 : Int) (w : World) (h :
  alC a2 29 w fun p1 w2 =>
  alC #[.int .i64 a4_0, .int .i64 a4_1, .int .i64 a4_2, .int .i64 a4_3, .bool a4_4] 24 w2 fun p3 w4 =>
  opnI .i64 (w4.cell? (p3.add 3)) fun x5 =>
  C_l10_heavy #[.int .i64 x5, .int .i64 a7] w4 fun v6 w7 =>
  opnT (some v6) fun x8 =>
  x8.size = 2 ∧
  opnI .i64 (x8[0]?) fun x9 =>
  opnI .i64 (x8[1]?) fun x10 =>
  C_l10_up #[.int .i64 a0, .slice a6 a6n a6c, .int .i64 x9, .int .i64 x10] w7 fun v11 w12 =>
  opnG (some v11) fun x13 =>
  alZ PP 29 w12 fun p14 w15 =>
  stRow p14 x13 (32 * 1) w15 fun w16 =>
  opnI .i64 (w16.cell? (p3.add 0)) fun x17 =>
  cond (x10 == x17)
  (drw w16 fun w18 =>
  opnRow w18 p14 (32 * 1) fun x19 =>
  C_l10_up #[.int .i64 a0, .slice a5 a5n a5c, .int .i64 x9, .int .i64 x10] w18 fun v20 w21 =>
  opnG (some v20) fun x22 =>
  (opnRow w21 p14 (32 * 1) fun x23 =>
  ((.agg x23) : Value) = .agg x19) ∧
  semR PP (do eqGuard .neq 29 (.tmp 43) (.tmp 48) (.agg x19) (.agg x22); binOp .neq 29 (.agg x19) (.agg x22)) w21 fun x24 =>
  opnB (some x24) fun x25 =>
  Q (.bool x25) w21)
  (opnI .i64 (w16.cell? (p3.add 0)) fun x26 =>
  opnI .i64 (w16.cell? (p3.add 1)) fun x27 =>
  opnI .i64 (w16.cell? (p3.add 2)) fun x28 =>
  opnI .i64 (w16.cell? (p3.add 0)) fun x29 =>
  nn (IntKind.wrap .u64 x29) (
  nn (IntKind.wrap .u64 x10) (
  C_tlog_Index #[.int .i64 (IntKind.wrap .i64 ((IntKind.wrap .i64 (x26 * x27)) + x10)), .int .i64 (shrI .i64 (IntKind.wrap .i64 ((shlI .i64 x28 (IntKind.wrap .u64 x29)) + x9)) (IntKind.wrap .u64 x10))] w16 fun v30 w31 =>
  opnT (some v30) fun x32 =>
  x32.size = 2 ∧
  opnI .i64 (x32[0]?) fun x33 =>
  opnI .i64 (x32[1]?) fun x34 =>
  C_tlog_Peaks #[.int .i64 a1] w31 fun v35 w36 =>
  opnT (some v35) fun x37 =>
  x37.size = 2 ∧
  opnL (x37[0]?) fun x38 x38n x38c =>
  opnI .i64 (x37[1]?) fun x39 =>
  N_l10_certain.j10 Q a0 a3 a3n a3c p1 p14 x33 x38 x38n x38c none 0 0 false 0 w36)))) :
C_l10_certain #[.int .i64 a0, .int .i64 a1, .agg a2, .slice a3 a3n a3c, .agg #[.int .i64 a4_0, .int .i64 a4_1, .int .i64 a4_2, .int .i64 a4_3, .bool a4_4], .slice a5 a5n a5c, .slice a6 a6n a6c, .int .i64 a7] w Q := C_fold K_l10_certain (by kernel_rfl) h
/-! ### ledger/tile.Plan -/
noncomputable def B_tile_Plan : Code := match Tryd.f51.body with | some c => c | _ => .skip
noncomputable def X_tile_Plan : Cx := { P := PP, fn := 51, N := 90, tab := tab, results := [.tmp 6, .tmp 7], iter := fun r => cond (Nat.beq r 78) (.strct 5 [.int .i64, .int .i64, .int .i64, .int .i64, .bool] [(0, 3), (1, 3), (2, 2), (3, 3), (4, 4)], .one (.int .i64)) ((.none, .none)), dyn := fun _ => false, live := fun r => cond (Nat.beq r 7) (some [0, 1, 2, 8, 33, 34, 35]) (cond (Nat.beq r 10) (some []) (cond (Nat.beq r 15) (some [0, 1, 12, 55, 56, 57]) (cond (Nat.beq r 18) (some [0, 1, 12, 55, 56, 57, 61, 62, 63]) (cond (Nat.beq r 25) (some [19, 78]) (none))))) }
theorem K_tile_Plan : OkF X_tile_Plan B_tile_Plan Tryd.f51 := ⟨⟨tab_ok, mix_ok⟩, Tryd.func51, by kernel_rfl, by kernel_rfl, by kernel_rfl, by kernel_rfl⟩
noncomputable def N_tile_Plan.j7 (Q : Value → World → Prop) (s0 : Int) (s1 : Int) (s2 : Option Addr) (s2n : Nat) (s2c : Nat) (s8 : Int) (s33 : Option Addr) (s33n : Nat) (s33c : Nat) (s34 : Int) (s35 : Int) (w : World) : Prop := Nd X_tile_Plan Q [(0, 0, .int .i64 s0), (1, 1, .int .i64 s1), (2, 2, .slice s2 s2n s2c), (8, 8, .int .i64 s8), (33, 33, .slice s33 s33n s33c), (34, 34, .int .i64 s34), (35, 35, .int .i64 s35)] [.code (B_tile_Plan.r.r.r.r.l.r.l.l.l), .code (B_tile_Plan.r.r.r.r.l.r.l.l.r), .inLoop (B_tile_Plan.r.r.r.r.l.r.l.l), .inBlock 0, .code (B_tile_Plan.r.r.r.r.r)] w
noncomputable def N_tile_Plan.j10 (Q : Value → World → Prop) (w : World) : Prop := Nd X_tile_Plan Q [] [.code (B_tile_Plan.r.r.r.r.l.r.l.l.r.r.l.l.r.r.l.l), .code (B_tile_Plan.r.r.r.r.l.r.l.l.r.r.l.l.r.r.l.r), .inBlock 1, .code (B_tile_Plan.r.r.r.r.l.r.l.l.r.r.r), .inLoop (B_tile_Plan.r.r.r.r.l.r.l.l), .inBlock 0, .code (B_tile_Plan.r.r.r.r.r)] w
noncomputable def N_tile_Plan.j15 (Q : Value → World → Prop) (s0 : Int) (s1 : Int) (s12 : Option Nat) (s55 : Option Addr) (s55n : Nat) (s55c : Nat) (s56 : Int) (s57 : Int) (w : World) : Prop := Nd X_tile_Plan Q [(0, 0, .int .i64 s0), (1, 1, .int .i64 s1), (12, 12, .map s12), (55, 55, .slice s55 s55n s55c), (56, 56, .int .i64 s56), (57, 57, .int .i64 s57)] [.code (B_tile_Plan.r.r.r.r.r.r.r.l.r.l.l.l), .code (B_tile_Plan.r.r.r.r.r.r.r.l.r.l.l.r), .inLoop (B_tile_Plan.r.r.r.r.r.r.r.l.r.l.l), .inBlock 2, .code (B_tile_Plan.r.r.r.r.r.r.r.r)] w
noncomputable def N_tile_Plan.j18 (Q : Value → World → Prop) (s0 : Int) (s1 : Int) (s12 : Option Nat) (s55 : Option Addr) (s55n : Nat) (s55c : Nat) (s56 : Int) (s57 : Int) (s61 : Option Addr) (s61n : Nat) (s61c : Nat) (s62 : Int) (s63 : Int) (w : World) : Prop := Nd X_tile_Plan Q [(0, 0, .int .i64 s0), (1, 1, .int .i64 s1), (12, 12, .map s12), (55, 55, .slice s55 s55n s55c), (56, 56, .int .i64 s56), (57, 57, .int .i64 s57), (61, 61, .slice s61 s61n s61c), (62, 62, .int .i64 s62), (63, 63, .int .i64 s63)] [.code (B_tile_Plan.r.r.r.r.r.r.r.l.r.l.l.r.r.l.l.r.r.l.l.l), .code (B_tile_Plan.r.r.r.r.r.r.r.l.r.l.l.r.r.l.l.r.r.l.l.r), .inLoop (B_tile_Plan.r.r.r.r.r.r.r.l.r.l.l.r.r.l.l.r.r.l.l), .inBlock 4, .inBlock 3, .code (B_tile_Plan.r.r.r.r.r.r.r.l.r.l.l.r.r.r), .inLoop (B_tile_Plan.r.r.r.r.r.r.r.l.r.l.l), .inBlock 2, .code (B_tile_Plan.r.r.r.r.r.r.r.r)] w
noncomputable def N_tile_Plan.j25 (Q : Value → World → Prop) (s19 : Option Addr) (s19n : Nat) (s19c : Nat) (s78 : Addr) (w : World) : Prop := Nd X_tile_Plan Q [(19, 19, .slice s19 s19n s19c), (78, 78, .pointer (some s78))] [.code (B_tile_Plan.r.r.r.r.r.r.r.r.r.l.r.l.l.l), .code (B_tile_Plan.r.r.r.r.r.r.r.r.r.l.r.l.l.r), .inLoop (B_tile_Plan.r.r.r.r.r.r.r.r.r.l.r.l.l), .inBlock 6, .code (B_tile_Plan.r.r.r.r.r.r.r.r.r.r)] w
theorem N_tile_Plan.j7_eq (Q : Value → World → Prop) (s0 : Int) (s1 : Int) (s2 : Option Addr) (s2n : Nat) (s2c : Nat) (s8 : Int) (s33 : Option Addr) (s33n : Nat) (s33c : Nat) (s34 : Int) (s35 : Int) (w : World) (h :
  cond (decide (s35 < s34))
  ((0 : Int) ≤ s35 ∧
  s35 < ((s33n : Nat) : Int) ∧
  opnA s33 fun ad1 =>
  opnI .i64 (w.cell? (ad1.add (Int.toNat s35 * 1))) fun x2 =>
  cond (decide (x2 < 0))
  (N_tile_Plan.j10 Q w)
  (cond (decide (x2 ≥ s8))
  (N_tile_Plan.j10 Q w)
  (N_tile_Plan.j7 Q s0 s1 s2 s2n s2c s8 s33 s33n s33c s34 (IntKind.wrap .i64 (s35 + 1)) w)))
  (alM w fun r3 w4 =>
  C_tlog_Peaks #[.int .i64 s1] w4 fun v5 w6 =>
  opnT (some v5) fun x7 =>
  x7.size = 2 ∧
  opnL (x7[0]?) fun x8 x8n x8c =>
  opnI .i64 (x7[1]?) fun x9 =>
  alC #[.slice x8 x8n x8c, .slice s2 s2n s2c] 51 w6 fun p10 w11 =>
  N_tile_Plan.j15 Q s0 s1 (some r3) (some p10) 2 2 ((2 : Nat) : Int) 0 w11)) :
N_tile_Plan.j7 Q s0 s1 s2 s2n s2c s8 s33 s33n s33c s34 s35 w := Nd_fold K_tile_Plan (by kernel_rfl) h
theorem N_tile_Plan.j10_eq (Q : Value → World → Prop) (w : World) (h :
  Q (.tuple #[.slice none 0 0, .int .i64 105]) w) :
N_tile_Plan.j10 Q w := Nd_fold K_tile_Plan (by kernel_rfl) h
theorem N_tile_Plan.j15_eq (Q : Value → World → Prop) (s0 : Int) (s1 : Int) (s12 : Option Nat) (s55 : Option Addr) (s55n : Nat) (s55c : Nat) (s56 : Int) (s57 : Int) (w : World) (h :
  cond (decide (s57 < s56))
  ((0 : Int) ≤ s57 ∧
  s57 < ((s55n : Nat) : Int) ∧
  opnA s55 fun ad1 =>
  opnL (w.cell? (ad1.add (Int.toNat s57 * 1))) fun x2 x2n x2c =>
  N_tile_Plan.j18 Q s0 s1 s12 s55 s55n s55c s56 s57 x2 x2n x2c ((x2n : Nat) : Int) 0 w)
  (semR PP (Builtin.len_ #[103] 3 #[.map s12]) w fun x3 =>
  opnI .i64 (some x3) fun x4 =>
  sem PP (Instr.makeSlice 64 (.int .i64 0) (.int .i64 x4)) w fun v5 w6 =>
  opnL (some v5) fun x7 x7n x7c =>
  sem PP (Instr.range 103 (.map s12)) w6 fun v8 w9 =>
  opnP (some v8) fun x10 =>
  opnA x10 fun ad11 =>
  N_tile_Plan.j25 Q x7 x7n x7c ad11 w9)) :
N_tile_Plan.j15 Q s0 s1 s12 s55 s55n s55c s56 s57 w := Nd_fold K_tile_Plan (by kernel_rfl) h
theorem N_tile_Plan.j18_eq (Q : Value → World → Prop) (s0 : Int) (s1 : Int) (s12 : Option Nat) (s55 : Option Addr) (s55n : Nat) (s55c : Nat) (s56 : Int) (s57 : Int) (s61 : Option Addr) (s61n : Nat) (s61c : Nat) (s62 : Int) (s63 : Int) (w : World) (h :
  cond (decide (s63 < s62))
  ((0 : Int) ≤ s63 ∧
  s63 < ((s61n : Nat) : Int) ∧
  opnA s61 fun ad1 =>
  opnI .i64 (w.cell? (ad1.add (Int.toNat s63 * 1))) fun x2 =>
  C_tile_need #[.map s12, .int .i64 s0, .int .i64 s1, .int .i64 x2] w fun v3 w4 =>
  opnT (some v3) fun x5 =>
  x5.size = 0 ∧
  N_tile_Plan.j18 Q s0 s1 s12 s55 s55n s55c s56 s57 s61 s61n s61c s62 (IntKind.wrap .i64 (s63 + 1)) w4)
  (N_tile_Plan.j15 Q s0 s1 s12 s55 s55n s55c s56 (IntKind.wrap .i64 (s57 + 1)) w)) :
N_tile_Plan.j18 Q s0 s1 s12 s55 s55n s55c s56 s57 s61 s61n s61c s62 s63 w := Nd_fold K_tile_Plan (by kernel_rfl) h
theorem N_tile_Plan.j25_eq (Q : Value → World → Prop) (s19 : Option Addr) (s19n : Nat) (s19c : Nat) (s78 : Addr) (w : World) (h :
  sem PP (Instr.next (.pointer (some s78)) false 0) w fun v1 w2 =>
  opnN v1
  (C_slices_SortFunc_tile_Tile_tile_Tile #[.slice s19 s19n s19c, .func (.func 89) #[] #[]] w2 fun v5 w6 =>
  opnT (some v5) fun x7 =>
  x7.size = 0 ∧
  Q (.tuple #[.slice s19 s19n s19c, .int .i64 0]) w6)
  fun k3 x4 =>
  opnG (some k3) fun x8 =>
  x8.size = 5 ∧
  opnI .i64 (x8[0]?) fun x9 =>
  opnI .i64 (x8[1]?) fun x10 =>
  opnI .i64 (x8[2]?) fun x11 =>
  opnI .i64 (x8[3]?) fun x12 =>
  opnB (x8[4]?) fun x13 =>
  opnI .i64 (some x4) fun x14 =>
  sem PP (Instr.entry (.pointer (some s78))) w2 fun v15 w16 =>
  opnT (some v15) fun x17 =>
  x17.size = 2 ∧
  opnG (x17[0]?) fun x18 =>
  x18.size = 5 ∧
  opnI .i64 (x18[0]?) fun x19 =>
  opnI .i64 (x18[1]?) fun x20 =>
  opnI .i64 (x18[2]?) fun x21 =>
  opnI .i64 (x18[3]?) fun x22 =>
  opnB (x18[4]?) fun x23 =>
  opnI .i64 (x17[1]?) fun x24 =>
  alC #[.int .i64 0, .int .i64 0, .int .i64 0, .int .i64 0, .bool false] 24 w16 fun p25 w26 =>
  Array.size (#[.int .i64 x19, .int .i64 x20, .int .i64 x21, .int .i64 x22, .bool x23] : Array Value) = 5 ∧
  stC (p25.add 0) (.int .i64 x19) w26 fun w27 =>
  stC (p25.add 1) (.int .i64 x20) w27 fun w28 =>
  stC (p25.add 2) (.int .i64 x21) w28 fun w29 =>
  stC (p25.add 3) (.int .i64 x22) w29 fun w30 =>
  stC (p25.add 4) (.bool x23) w30 fun w31 =>
  opnI .i64 (w31.cell? (p25.add 0)) fun x32 =>
  opnI .i64 (w31.cell? (p25.add 1)) fun x33 =>
  opnI .i64 (w31.cell? (p25.add 2)) fun x34 =>
  opnI .i64 (w31.cell? (p25.add 3)) fun x35 =>
  opnB (w31.cell? (p25.add 4)) fun x36 =>
  alC #[.int .i64 x32, .int .i64 x33, .int .i64 x34, .int .i64 x35, .bool x36] 24 w31 fun p37 w38 =>
  sem PP (Builtin.append_ #[64, 64] 64 #[.slice s19 s19n s19c, .slice (some p37) 1 1]) w38 fun v39 w40 =>
  opnL (some v39) fun x41 x41n x41c =>
  N_tile_Plan.j25 Q x41 x41n x41c s78 w40) :
N_tile_Plan.j25 Q s19 s19n s19c s78 w := Nd_fold K_tile_Plan (by kernel_rfl) h
theorem C_tile_Plan_eq (Q : Value → World → Prop) (a0 : Int) (a1 : Int) (a2 : Option Addr) (a2n : Nat) (a2c : Nat) (w : World) (h :
  C_tile_sizes #[.int .i64 a0, .int .i64 a1] w fun v1 w2 =>
  opnB (some v1) fun x3 =>
  cond (!x3)
  (Q (.tuple #[.slice none 0 0, .int .i64 1]) w2)
  (cond (decide (((a2n : Nat) : Int) > 1024))
  (Q (.tuple #[.slice none 0 0, .int .i64 2]) w2)
  (C_tlog_Count #[.int .i64 a1] w2 fun v4 w5 =>
  opnT (some v4) fun x6 =>
  x6.size = 2 ∧
  opnI .i64 (x6[0]?) fun x7 =>
  opnI .i64 (x6[1]?) fun x8 =>
  N_tile_Plan.j7 Q a0 a1 a2 a2n a2c x7 a2 a2n a2c ((a2n : Nat) : Int) 0 w5))) :
C_tile_Plan #[.int .i64 a0, .int .i64 a1, .slice a2 a2n a2c] w Q := C_fold K_tile_Plan (by kernel_rfl) h
/-! ### ledger/tlog.Peaks -/
noncomputable def B_tlog_Peaks : Code := match Tryd.f52.body with | some c => c | _ => .skip
noncomputable def X_tlog_Peaks : Cx := { P := PP, fn := 52, N := 12, tab := tab, results := [.tmp 2, .tmp 3], iter := fun _ => (.none, .none), dyn := fun _ => false, live := fun r => cond (Nat.beq r 2) (some []) (none) }
theorem K_tlog_Peaks : OkF X_tlog_Peaks B_tlog_Peaks Tryd.f52 := ⟨⟨tab_ok, mix_ok⟩, Tryd.func52, by kernel_rfl, by kernel_rfl, by kernel_rfl, by kernel_rfl⟩
noncomputable def N_tlog_Peaks.j2 (Q : Value → World → Prop) (w : World) : Prop := Nd X_tlog_Peaks Q [] [.code (B_tlog_Peaks.r.l.r.l.l), .code (B_tlog_Peaks.r.l.r.l.r), .code (B_tlog_Peaks.r.r)] w
theorem N_tlog_Peaks.j2_eq (Q : Value → World → Prop) (w : World) (h :
  Q (.tuple #[.slice none 0 0, .int .i64 1]) w) :
N_tlog_Peaks.j2 Q w := Nd_fold K_tlog_Peaks (by kernel_rfl) h
theorem C_tlog_Peaks_eq (Q : Value → World → Prop) (a0 : Int) (w : World) (h :
  cond (decide (a0 < 0))
  (N_tlog_Peaks.j2 Q w)
  (cond (decide (a0 > 281474976710656))
  (N_tlog_Peaks.j2 Q w)
  (C_tlog_peaks #[.int .i64 a0] w fun v1 w2 =>
  opnL (some v1) fun x3 x3n x3c =>
  Q (.tuple #[.slice x3 x3n x3c, .int .i64 0]) w2))) :
C_tlog_Peaks #[.int .i64 a0] w Q := C_fold K_tlog_Peaks (by kernel_rfl) h
/-! ### ledger/tlog.Fold -/
noncomputable def B_tlog_Fold : Code := match Tryd.f53.body with | some c => c | _ => .skip
noncomputable def X_tlog_Fold : Cx := { P := PP, fn := 53, N := 9, tab := tab, results := [.cell 4 29], iter := fun _ => (.none, .none), dyn := fun _ => false, live := fun _ => none }
theorem K_tlog_Fold : OkF X_tlog_Fold B_tlog_Fold Tryd.f53 := ⟨⟨tab_ok, mix_ok⟩, Tryd.func53, by kernel_rfl, by kernel_rfl, by kernel_rfl, by kernel_rfl⟩
theorem C_tlog_Fold_eq (Q : Value → World → Prop) (a0 : Int) (a1 : Option Addr) (a1n : Nat) (a1c : Nat) (w : World) (h :
  alZ PP 29 w fun p1 w2 =>
  C_tlog_hasherOf #[.int .i64 a0] w2 fun v3 w4 =>
  opnG (some v3) fun x5 =>
  x5.size = 4 ∧
  opnI .i64 (x5[0]?) fun x6 =>
  opnV (x5[1]?) fun x7 =>
  opnV (x5[2]?) fun x8 =>
  opnV (x5[3]?) fun x9 =>
  C_tlog_hasher_root #[.agg #[.int .i64 x6, x7, x8, x9], .slice a1 a1n a1c] w4 fun v10 w11 =>
  opnG (some v10) fun x12 =>
  stRow p1 x12 (32 * 1) w11 fun w13 =>
  opnRow w13 p1 (32 * 1) fun x14 =>
  Q (.agg x14) w13) :
C_tlog_Fold #[.int .i64 a0, .slice a1 a1n a1c] w Q := C_fold K_tlog_Fold (by kernel_rfl) h
/-! ### (ledger/tile.shelf).hashes -/
noncomputable def B_tile_shelf_hashes : Code := match Tryd.f54.body with | some c => c | _ => .skip
noncomputable def X_tile_shelf_hashes : Cx := { P := PP, fn := 54, N := 25, tab := tab, results := [.tmp 4], iter := fun _ => (.none, .none), dyn := fun _ => false, live := fun r => cond (Nat.beq r 3) (some [2, 5, 11, 12, 13]) (none) }
theorem K_tile_shelf_hashes : OkF X_tile_shelf_hashes B_tile_shelf_hashes Tryd.f54 := ⟨⟨tab_ok, mix_ok⟩, Tryd.func54, by kernel_rfl, by kernel_rfl, by kernel_rfl, by kernel_rfl⟩
noncomputable def N_tile_shelf_hashes.j3 (Q : Value → World → Prop) (s2 : Addr) (s5 : Option Addr) (s5n : Nat) (s5c : Nat) (s11 : Option Addr) (s11n : Nat) (s11c : Nat) (s12 : Int) (s13 : Int) (w : World) : Prop := Nd X_tile_shelf_hashes Q [(2, 2, .pointer (some s2)), (5, 5, .slice s5 s5n s5c), (11, 11, .slice s11 s11n s11c), (12, 12, .int .i64 s12), (13, 13, .int .i64 s13)] [.code (B_tile_shelf_hashes.r.r.l.r.l.l.l), .code (B_tile_shelf_hashes.r.r.l.r.l.l.r), .inLoop (B_tile_shelf_hashes.r.r.l.r.l.l), .inBlock 0, .code (B_tile_shelf_hashes.r.r.r)] w
theorem N_tile_shelf_hashes.j3_eq (Q : Value → World → Prop) (s2 : Addr) (s5 : Option Addr) (s5n : Nat) (s5c : Nat) (s11 : Option Addr) (s11n : Nat) (s11c : Nat) (s12 : Int) (s13 : Int) (w : World) (h :
  cond (decide (s13 < s12))
  ((0 : Int) ≤ s13 ∧
  s13 < ((s11n : Nat) : Int) ∧
  opnA s11 fun ad1 =>
  opnI .i64 (w.cell? (ad1.add (Int.toNat s13 * 1))) fun x2 =>
  opnI .i64 (w.cell? (s2.add 0)) fun x3 =>
  opnI .i64 (w.cell? (s2.add 1)) fun x4 =>
  opnI .i64 (w.cell? (s2.add 2)) fun x5 =>
  opnM (w.cell? (s2.add 3)) fun x6 =>
  C_tile_shelf_hash #[.agg #[.int .i64 x3, .int .i64 x4, .int .i64 x5, .map x6], .int .i64 x2] w fun v7 w8 =>
  opnG (some v7) fun x9 =>
  x9.size = 32 ∧
  alC x9 29 w8 fun p12 w11 =>
  sem PP (Builtin.append_ #[22, 22] 22 #[.slice s5 s5n s5c, .slice (some p12) 1 1]) w11 fun v13 w14 =>
  opnL (some v13) fun x15 x15n x15c =>
  N_tile_shelf_hashes.j3 Q s2 x15 x15n x15c s11 s11n s11c s12 (IntKind.wrap .i64 (s13 + 1)) w14)
  (Q (.slice s5 s5n s5c) w)) :
N_tile_shelf_hashes.j3 Q s2 s5 s5n s5c s11 s11n s11c s12 s13 w := Nd_fold K_tile_shelf_hashes (by kernel_rfl) h
theorem C_tile_shelf_hashes_eq (Q : Value → World → Prop) (a0_0 : Int) (a0_1 : Int) (a0_2 : Int) (a0_3 : Option Nat) (a1 : Option Addr) (a1n : Nat) (a1c : Nat) (w : World) (h :
  alC #[.int .i64 a0_0, .int .i64 a0_1, .int .i64 a0_2, .map a0_3] 106 w fun p1 w2 =>
  sem PP (Instr.makeSlice 22 (.int .i64 0) (.int .i64 ((a1n : Nat) : Int))) w2 fun v3 w4 =>
  opnL (some v3) fun x5 x5n x5c =>
  N_tile_shelf_hashes.j3 Q p1 x5 x5n x5c a1 a1n a1c ((a1n : Nat) : Int) 0 w4) :
C_tile_shelf_hashes #[.agg #[.int .i64 a0_0, .int .i64 a0_1, .int .i64 a0_2, .map a0_3], .slice a1 a1n a1c] w Q := C_fold K_tile_shelf_hashes (by kernel_rfl) h
/-! ### (ledger/tile.shelf).hash -/
noncomputable def B_tile_shelf_hash : Code := match Tryd.f55.body with | some c => c | _ => .skip
noncomputable def X_tile_shelf_hash : Cx := { P := PP, fn := 55, N := 29, tab := tab, results := [.cell 4 29], iter := fun _ => (.none, .none), dyn := fun _ => false, live := fun _ => none }
theorem K_tile_shelf_hash : OkF X_tile_shelf_hash B_tile_shelf_hash Tryd.f55 := ⟨⟨tab_ok, mix_ok⟩, Tryd.func55, by kernel_rfl, by kernel_rfl, by kernel_rfl, by kernel_rfl⟩
theorem C_tile_shelf_hash_eq (Q : Value → World → Prop) (a0_0 : Int) (a0_1 : Int) (a0_2 : Int) (a0_3 : Option Nat) (a1 : Int) (w : World) (h :
  alC #[.int .i64 a0_0, .int .i64 a0_1, .int .i64 a0_2, .map a0_3] 106 w fun p1 w2 =>
  alZ PP 29 w2 fun p3 w4 =>
  opnI .i64 (w4.cell? (p1.add 1)) fun x5 =>
  C_tile_seatOf #[.int .i64 x5, .int .i64 a1] w4 fun v6 w7 =>
  opnT (some v6) fun x8 =>
  x8.size = 2 ∧
  opnG (x8[0]?) fun x9 =>
  x9.size = 7 ∧
  opnI .i64 (x9[0]?) fun x10 =>
  opnI .i64 (x9[1]?) fun x11 =>
  opnI .i64 (x9[2]?) fun x12 =>
  opnI .i64 (x9[3]?) fun x13 =>
  opnB (x9[4]?) fun x14 =>
  opnI .i64 (x9[5]?) fun x15 =>
  opnI .i64 (x9[6]?) fun x16 =>
  opnB (x8[1]?) fun x17 =>
  alC #[.int .i64 0, .int .i64 0, .int .i64 0, .int .i64 0, .bool false, .int .i64 0, .int .i64 0] 90 w7 fun p18 w19 =>
  Array.size (#[.int .i64 x10, .int .i64 x11, .int .i64 x12, .int .i64 x13, .bool x14, .int .i64 x15, .int .i64 x16] : Array Value) = 7 ∧
  stC (p18.add 0) (.int .i64 x10) w19 fun w20 =>
  stC (p18.add 1) (.int .i64 x11) w20 fun w21 =>
  stC (p18.add 2) (.int .i64 x12) w21 fun w22 =>
  stC (p18.add 3) (.int .i64 x13) w22 fun w23 =>
  stC (p18.add 4) (.bool x14) w23 fun w24 =>
  stC (p18.add 5) (.int .i64 x15) w24 fun w25 =>
  stC (p18.add 6) (.int .i64 x16) w25 fun w26 =>
  drw w26 fun w27 =>
  opnI .i64 (w27.cell? (p1.add 0)) fun x28 =>
  opnM (w27.cell? (p1.add 3)) fun x29 =>
  opnI .i64 (w27.cell? ((p18.add 0).add 0)) fun x30 =>
  opnI .i64 (w27.cell? ((p18.add 0).add 1)) fun x31 =>
  opnI .i64 (w27.cell? ((p18.add 0).add 2)) fun x32 =>
  opnI .i64 (w27.cell? ((p18.add 0).add 3)) fun x33 =>
  opnB (w27.cell? ((p18.add 0).add 4)) fun x34 =>
  opnI .i64 (w27.cell? (p1.add 2)) fun x35 =>
  opnI .i64 (w27.cell? (p18.add 5)) fun x36 =>
  opnI .i64 (w27.cell? (p18.add 6)) fun x37 =>
  C_tile_wide #[.agg #[.int .i64 x30, .int .i64 x31, .int .i64 x32, .int .i64 x33, .bool x34], .int .i64 x35] w27 fun v38 w39 =>
  opnG (some v38) fun x40 =>
  x40.size = 5 ∧
  opnI .i64 (x40[0]?) fun x41 =>
  opnI .i64 (x40[1]?) fun x42 =>
  opnI .i64 (x40[2]?) fun x43 =>
  opnI .i64 (x40[3]?) fun x44 =>
  opnB (x40[4]?) fun x45 =>
  (opnI .i64 (w39.cell? (p18.add 6)) fun x46 =>
  ((.int .i64 x46) : Value) = .int .i64 x37) ∧
  (opnI .i64 (w39.cell? (p18.add 5)) fun x47 =>
  ((.int .i64 x47) : Value) = .int .i64 x36) ∧
  (opnM (w39.cell? (p1.add 3)) fun x48 =>
  ((.map x48) : Value) = .map x29) ∧
  (opnI .i64 (w39.cell? (p1.add 0)) fun x49 =>
  ((.int .i64 x49) : Value) = .int .i64 x28) ∧
  semR PP (Instr.lookup 104 (.map x29) (.agg #[.int .i64 x41, .int .i64 x42, .int .i64 x43, .int .i64 x44, .bool x45]) false) w39 fun x50 =>
  opnL (some x50) fun x51 x51n x51c =>
  C_tile_joined #[.int .i64 x28, .slice x51 x51n x51c, .int .i64 x36, .int .i64 x37] w39 fun v52 w53 =>
  opnG (some v52) fun x54 =>
  stRow p3 x54 (32 * 1) w53 fun w55 =>
  opnRow w55 p3 (32 * 1) fun x56 =>
  Q (.agg x56) w55) :
C_tile_shelf_hash #[.agg #[.int .i64 a0_0, .int .i64 a0_1, .int .i64 a0_2, .map a0_3], .int .i64 a1] w Q := C_fold K_tile_shelf_hash (by kernel_rfl) h
end Go.Proofs.YtccjncflbbhldaaDoor
/-! ## PlOf -/
set_option maxRecDepth 10000
namespace Go.Proofs.YtccjncflbbhldaaDoor.Pl
open Go.Sh

theorem T51 : SlT PP 51 2 1 8 := ⟨by kernel_rfl, by kernel_rfl⟩
theorem T99 : SlT PP 175 3 1 8 := ⟨by kernel_rfl, by kernel_rfl⟩
def iv (n : Nat) : Value := .int .i64 (n : Int)
abbrev ivs (l : List Nat) : List Value := l.map iv

theorem bit_of (n m : Nat) (hn : n ≤ 281474976710656) (hm : m ≤ 48) : bits .and .i64 (shrI .i64 (n : Int) (m : Int)) 1 = ((n / 2 ^ m % 2 : Nat) : Int) := by
  have hle : n / 2 ^ m ≤ n := Nat.div_le_self _ _
  have h := i64_and (n / 2 ^ m) 1 (by omega) (by decide)
  rw [shr_nat _ _ (by omega), show (1 : Int) = ((1 : Nat) : Int) from rfl, h, Nat.and_one_is_mod]
/-- the records ahead of a top -/
def ahead (n m : Nat) : Nat := n / 2 ^ (m + 1) * 2 ^ (m + 1)
theorem ahead_le (n m : Nat) : ahead n m ≤ n := Nat.div_mul_le_self _ _
theorem ahead_shift (n m : Nat) : ahead n m / 2 ^ m = n / 2 ^ (m + 1) * 2 := by
  unfold ahead
  rw [Nat.pow_succ, ← Nat.mul_assoc, Nat.mul_right_comm, Nat.mul_div_cancel _ (pow_pos2 m)]
theorem div_succ (n m : Nat) : n / 2 ^ (m + 1) = n / 2 ^ m / 2 := by rw [Nat.pow_succ, Nat.div_div_eq_div_mul]
theorem ahead_next (n m : Nat) : ahead n m + (if n / 2 ^ (m + 1) % 2 = 1 then 0 else 0) + (n / 2 ^ m % 2) * 2 ^ m = n / 2 ^ m * 2 ^ m := by
  have h := div_succ n m
  have e := Nat.div_add_mod (n / 2 ^ m) 2
  have h2 : ahead n m = (2 * (n / 2 ^ m / 2)) * 2 ^ m := by
    unfold ahead
    rw [h, Nat.pow_succ, ← Nat.mul_assoc, Nat.mul_right_comm, Nat.mul_comm 2]
  rw [h2]
  simp only [ite_self, Nat.add_zero]
  rw [← Nat.add_mul, e]
theorem ahead_down (n m : Nat) : ahead n (m + 1) + (n / 2 ^ (m + 1) % 2) * 2 ^ (m + 1) = ahead n m := by
  have := ahead_next n (m + 1)
  simp only [ite_self, Nat.add_zero] at this
  rw [this]; rfl
theorem ahead_bit (n m : Nat) : n / 2 ^ m % 2 = 1 ↔ 2 ^ m ≤ n - ahead n m := by
  have h1 := ahead_next n m
  simp only [ite_self, Nat.add_zero] at h1
  have h2 := Nat.div_add_mod n (2 ^ m)
  have h3 := Nat.mod_lt n (pow_pos2 m)
  rw [Nat.mul_comm] at h2
  rcases (by omega : n / 2 ^ m % 2 = 0 ∨ n / 2 ^ m % 2 = 1) with h | h
  · rw [h, Nat.zero_mul, Nat.add_zero] at h1; omega
  · rw [h, Nat.one_mul] at h1; omega
theorem peak_fits {n m : Nat} (hn : n ≤ 281474976710656) (hb : n / 2 ^ m % 2 = 1) : (n / 2 ^ (m + 1) * 2 + 1) * 2 ^ m ≤ 281474976710656 := by
  have h1 := ahead_next n m
  simp only [ite_self, Nat.add_zero] at h1
  have h3 : n / 2 ^ m * 2 ^ m ≤ n := Nat.div_mul_le_self _ _
  have h2 := ahead_shift n m
  rw [hb, Nat.one_mul] at h1
  have e : ahead n m = n / 2 ^ (m + 1) * 2 * 2 ^ m := by unfold ahead; rw [Nat.pow_succ, Nat.mul_comm (2 ^ m), ← Nat.mul_assoc]
  rw [Nat.add_mul, Nat.one_mul, ← e]; omega

theorem push_int {t e : Nat} (T : SlT PP t e 1 8) {w0 w : World} {a : Option Addr} {n c : Nat} {l : List Value} (h : Own w e 1 a n c l) (f : ∀ k, At a k → w0.heap.size ≤ k) (k0 : Chg None w0 w) {v : Int} (hn : (n + 1) * 8 ≤ 140737488355328) {K : Option Addr → Nat → Nat → World → Prop}
    (hK : ∀ a' c' w', Own w' e 1 a' (n + 1) c' (l ++ [.int .i64 v]) → (∀ k, At a' k → w0.heap.size ≤ k) → Chg None w0 w' → K a' (n + 1) c' w') :
    alC #[.int .i64 v] e w fun p w5 => sem PP (Builtin.append_ #[t, t] t #[.slice a n c, .slice (some p) 1 1]) w5 fun v6 w7 => opnL (some v6) fun x xn xc => K x xn xc w7 := by
  unfold alC
  have ka : Chg None w (w.alloc (.cells #[.int .i64 v] e)) := chg_alloc w _
  refine append_own T (w := w.alloc (.cells #[.int .i64 v] e)) (h.chg0 ka) (src_two (vs := [.int .i64 v]) T.ht rfl (by intro u hu; simp at hu; subst hu; rfl)) (by simp only [maxLen]; omega) (by omega) fun a' c' w2 o2 k2 f2 => ?_
  refine hK a' c' w2 o2 ?_ (Chg.fresh (k0.none_trans ka) k2 f)
  rcases f2 with rfl | ⟨b, rfl, hb⟩
  · exact f
  · rintro k ⟨p, hp, rfl⟩; cases hp; exact Nat.le_trans (k0.none_trans ka).size hb

theorem peaks_word {Q : Value → World → Prop} {n : Nat} {w0 : World} (hn : n ≤ 281474976710656) (hQ : ∀ a c w', Own w' 2 1 a (peaksOf n).length c (ivs (peaksOf n)) → (∀ k, At a k → w0.heap.size ≤ k) → Chg None w0 w' → Q (.slice a (peaksOf n).length c) w') : C_tlog_peaks #[.int .i64 (n : Int)] w0 Q := by
  refine C_tlog_peaks_eq _ _ _ ?_
  rw [wrap_u n (by omega)]
  have hpc := laid_pc (n := n) (by omega)
  refine ones_word (by omega) (opnI_s ?_)
  have hpl := pc_le n
  generalize pc n = q at *
  refine make_empty T51 (by omega) (by omega) fun b w1 o1 k1 hb1 => ?_
  rw [opnL_s]
  have go : ∀ (m : Nat) (acc : List Nat) (a : Option Addr) (c : Nat) (w : World), m ≤ 49 → acc ++ peaksTo n m = peaksOf n → Own w 2 1 a acc.length c (ivs acc) → (∀ k, At a k → w0.heap.size ≤ k) → Chg None w0 w → N_tlog_peaks.j4 Q (n : Int) a acc.length c ((n / 2 ^ m * 2 ^ m : Nat) : Int) ((m : Int) - 1) w := by
    intro m
    induction m with
    | zero =>
      intro acc a c w _ hacc o f k
      refine N_tlog_peaks.j4_eq (h := c_nge (by omega) ?_)
      rw [peaksTo, List.append_nil] at hacc
      rw [hacc] at o ⊢
      exact hQ a c w o f k
    | succ m ih =>
      intro acc a c w hm hacc o f k
      have hm1 : ((m + 1 : Nat) : Int) - 1 = (m : Int) := by omega
      have hlen : acc.length ≤ 49 := by have := peaksTo_len n 49; have := congrArg List.length hacc; rw [List.length_append] at this; unfold peaksOf at this; omega
      have hah : n / 2 ^ (m + 1) * 2 ^ (m + 1) = ahead n m := rfl
      have hale := ahead_le n m
      have hstep := ahead_next n m
      simp only [ite_self, Nat.add_zero] at hstep
      have hdl : n / 2 ^ m * 2 ^ m ≤ n := Nat.div_mul_le_self _ _
      rw [hm1, hah]
      refine N_tlog_peaks.j4_eq (h := c_ge (by omega) (nn_nat ?_))
      rw [bit_of n m hn (by omega)]
      have next : ∀ (acc' : List Nat) (a : Option Addr) (c : Nat) (w : World) (z : Int), z = ((n / 2 ^ m * 2 ^ m : Nat) : Int) → acc' ++ peaksTo n m = peaksOf n → Own w 2 1 a acc'.length c (ivs acc') → (∀ k, At a k → w0.heap.size ≤ k) → Chg None w0 w → N_tlog_peaks.j5 Q (n : Int) a acc'.length c z (m : Int) w := by
        intro acc' a c w z hz hacc' o f k
        refine N_tlog_peaks.j5_eq (h := ?_)
        rw [wrap_id (by omega) (by omega), hz]
        exact ih acc' a c w (by omega) hacc' o f k
      by_cases hb : n / 2 ^ m % 2 = 1
      · refine c_eq (by omega) (nn_nat ?_)
        rw [shr_nat _ _ (by omega), ahead_shift]
        refine place_word (by omega) (peak_fits hn hb) (opnI_s ?_)
        rw [peaksTo, if_pos hb] at hacc
        refine push_int (K := fun x8 x8n x8c w7 => _) T51 o f k (by omega) fun a' c' w' o' f' k' => nn_nat ?_
        have hp : 2 ^ m ≤ n := by rw [hb, Nat.one_mul] at hstep; omega
        have hsh := shl_nat 1 m (by omega) (by rw [Nat.one_mul]; omega)
        rw [Nat.one_mul] at hsh
        rw [show (1 : Int) = ((1 : Nat) : Int) from rfl, hsh, ← Int.natCast_add, wrap_n _ (by omega)]
        have := next (acc ++ [placeOf m (n / 2 ^ (m + 1) * 2)]) a' c' w' ((ahead n m + 2 ^ m : Nat) : Int) (by rw [← hstep, hb, Nat.one_mul]) (by simpa using hacc) (by simpa [iv] using o') f' k'
        simpa using this
      · refine c_neq (by omega) ?_
        rw [peaksTo, if_neg hb] at hacc
        have hb0 : n / 2 ^ m % 2 = 0 := by omega
        have e := hstep
        rw [hb0, Nat.zero_mul, Nat.add_zero] at e
        exact next acc a c w _ (congrArg (fun x : Nat => (x : Int)) e) hacc o f k
  have h49 : n / 2 ^ 49 * 2 ^ 49 = 0 := by rw [Nat.div_eq_of_lt (by omega), Nat.zero_mul]
  have := go 49 [] _ _ w1 (Nat.le_refl _) rfl o1 (by rintro k ⟨p, hp, rfl⟩; cases hp; exact hb1) k1
  rw [h49] at this
  exact this
theorem tpeaks_word {Q : Value → World → Prop} {n : Int} {w0 : World} (hok : 0 ≤ n → n ≤ 281474976710656 → ∀ a c w', Own w' 2 1 a (peaksOf n.toNat).length c (ivs (peaksOf n.toNat)) → (∀ k, At a k → w0.heap.size ≤ k) → Chg None w0 w' → Q (.tuple #[.slice a (peaksOf n.toNat).length c, .int .i64 0]) w') (hno : ¬ (0 ≤ n ∧ n ≤ 281474976710656) → Q (.tuple #[.slice none 0 0, .int .i64 1]) w0) : C_tlog_Peaks #[.int .i64 n] w0 Q := by
  refine C_tlog_Peaks_eq _ _ _ ?_
  by_cases h1 : n < 0
  · exact c_lt h1 (N_tlog_Peaks.j2_eq (h := hno (by omega)))
  refine c_nlt (by omega) ?_
  by_cases h2 : n > 281474976710656
  · exact c_gt h2 (N_tlog_Peaks.j2_eq (h := hno (by omega)))
  refine c_ngt (by omega) ?_
  obtain ⟨n, rfl⟩ := Int.eq_ofNat_of_zero_le (by omega : 0 ≤ n)
  exact peaks_word (by omega) fun a c w' o f k => hok (by omega) (by omega) a c w' o f k
end Go.Proofs.YtccjncflbbhldaaDoor.Pl
