/- ShGb1, ShGb2, ShGw0, Hash, ShP1, ShP2, TreePure, Lay, PathPure, ShF0, Words -/
import Derived.Test.YtccjncflbbhldaaDoorPkA
import Derived.Test.YtccjncflbbhldaaDoorPkB
import Derived.Shelf.Strings.Builder1
import Derived.Shelf.Strings.Builder2
import Derived.Shelf.Strings.OnBuilder
import Derived.Shelf.LaysM
import Derived.Shelf.Strconv.Itoa3
import Derived.Shelf.Strconv.Itoa4
import Derived.Shelf.LaysC
import Derived.Shelf.Strconv.AtoiAll
import Derived.Shelf.Strconv.ParseIntPublic10
import Derived.Shelf.Strings.Prefix
import Derived.Shelf.Strings.Split
import Derived.Shelf.Strings.Replace
import Derived.Shelf.Strings.SplitShaped
import Derived.Test.YtccjncflbbhldaaDoorProg
import Derived.Lib.Replace
import Derived.Lib.Join
import Derived.Lib.AtoiAll
import Derived.Lib.ParseIntB
import Derived.Lib.ItoaNum
import Derived.Lib.ItoaMem
import Derived.Lib.ItoaLen
import Derived.Lib.Strings
import Derived.Lib.SmallJoins
/-! ## ShGb1 -/
set_option maxRecDepth 100000
namespace Go.Proofs.YtccjncflbbhldaaDoor
open Go.Sh
/-! ### ledger/tile.FromTree -/
noncomputable def B_tile_FromTree : Code := match Tryd.f9.body with | some c => c | _ => .skip
noncomputable def X_tile_FromTree : Cx := { P := PP, fn := 9, N := 74, tab := tab, results := [.tmp 4, .tmp 5], iter := fun _ => (.none, .none), dyn := fun _ => false, live := fun r => cond (Nat.beq r 2) (some []) (cond (Nat.beq r 12) (some [0, 3, 8, 46, 47]) (none)) }
theorem K_tile_FromTree : OkF X_tile_FromTree B_tile_FromTree Tryd.f9 := ⟨⟨tab_ok, mix_ok⟩, Tryd.func9, by kernel_rfl, by kernel_rfl, by kernel_rfl, by kernel_rfl⟩
noncomputable def N_tile_FromTree.j2 (Q : Value → World → Prop) (w : World) : Prop := Nd X_tile_FromTree Q [] [.code (B_tile_FromTree.r.l.r.l.l), .code (B_tile_FromTree.r.l.r.l.r), .code (B_tile_FromTree.r.r)] w
noncomputable def N_tile_FromTree.j12 (Q : Value → World → Prop) (s0 : Option Addr) (s0n : Nat) (s0c : Nat) (s3 : Addr) (s8 : Option Addr) (s8n : Nat) (s8c : Nat) (s46 : Int) (s47 : Int) (w : World) : Prop := Nd X_tile_FromTree Q [(0, 0, .slice s0 s0n s0c), (3, 3, .pointer (some s3)), (8, 8, .slice s8 s8n s8c), (46, 46, .int .i64 s46), (47, 47, .int .i64 s47)] [.code (B_tile_FromTree.r.r.r.r.r.r.r.l.r.l.l.l), .code (B_tile_FromTree.r.r.r.r.r.r.r.l.r.l.l.r), .inLoop (B_tile_FromTree.r.r.r.r.r.r.r.l.r.l.l), .inBlock 0, .code (B_tile_FromTree.r.r.r.r.r.r.r.r)] w
theorem N_tile_FromTree.j2_eq (Q : Value → World → Prop) (w : World) (h :
  Q (.tuple #[.slice none 0 0, .int .i64 101]) w) :
N_tile_FromTree.j2 Q w := Nd_fold K_tile_FromTree (by kernel_rfl) h
theorem N_tile_FromTree.j12_eq (Q : Value → World → Prop) (s0 : Option Addr) (s0n : Nat) (s0c : Nat) (s3 : Addr) (s8 : Option Addr) (s8n : Nat) (s8c : Nat) (s46 : Int) (s47 : Int) (w : World) (h :
  cond (decide (s47 < s46))
  (drw w fun w1 =>
  opnI .i64 (w1.cell? (s3.add 0)) fun x2 =>
  opnI .i64 (w1.cell? (s3.add 1)) fun x3 =>
  opnI .i64 (w1.cell? (s3.add 2)) fun x4 =>
  opnI .i64 (w1.cell? (s3.add 0)) fun x5 =>
  nn x5 (
  C_tlog_Index #[.int .i64 (IntKind.wrap .i64 (x2 * x3)), .int .i64 (IntKind.wrap .i64 ((shlI .i64 x4 x5) + s47))] w1 fun v6 w7 =>
  opnT (some v6) fun x8 =>
  x8.size = 2 ∧
  opnI .i64 (x8[0]?) fun x9 =>
  opnI .i64 (x8[1]?) fun x10 =>
  (0 : Int) ≤ x9 ∧
  x9 < ((s0n : Nat) : Int) ∧
  opnA s0 fun ad11 =>
  sem PP (Builtin.append_ #[25, 25] 25 #[.slice s8 s8n s8c, .slice (slP (ad11.add (Int.toNat x9 * 32)) 0 32 1) (32 - 0) (32 - 0)]) w7 fun v12 w13 =>
  opnL (some v12) fun x14 x14n x14c =>
  N_tile_FromTree.j12 Q s0 s0n s0c s3 x14 x14n x14c s46 (IntKind.wrap .i64 (s47 + 1)) w13))
  (Q (.tuple #[.slice s8 s8n s8c, .int .i64 0]) w)) :
N_tile_FromTree.j12 Q s0 s0n s0c s3 s8 s8n s8c s46 s47 w := Nd_fold K_tile_FromTree (by kernel_rfl) h
theorem C_tile_FromTree_eq (Q : Value → World → Prop) (a0 : Option Addr) (a0n : Nat) (a0c : Nat) (a1_0 : Int) (a1_1 : Int) (a1_2 : Int) (a1_3 : Int) (a1_4 : Bool) (w : World) (h :
  alC #[.int .i64 a1_0, .int .i64 a1_1, .int .i64 a1_2, .int .i64 a1_3, .bool a1_4] 24 w fun p1 w2 =>
  opnI .i64 (w2.cell? (p1.add 0)) fun x3 =>
  opnI .i64 (w2.cell? (p1.add 1)) fun x4 =>
  opnI .i64 (w2.cell? (p1.add 2)) fun x5 =>
  opnI .i64 (w2.cell? (p1.add 3)) fun x6 =>
  opnB (w2.cell? (p1.add 4)) fun x7 =>
  C_tile_Check #[.agg #[.int .i64 x3, .int .i64 x4, .int .i64 x5, .int .i64 x6, .bool x7]] w2 fun v8 w9 =>
  opnI .i64 (some v8) fun x10 =>
  cond (x10 != 0)
  (N_tile_FromTree.j2 Q w9)
  (opnB (w9.cell? (p1.add 4)) fun x11 =>
  cond x11
  (N_tile_FromTree.j2 Q w9)
  (cond (decide (((a0n : Nat) : Int) > 131071))
  (Q (.tuple #[.slice none 0 0, .int .i64 2]) w9)
  (C_tlog_Records #[.int .i64 ((a0n : Nat) : Int)] w9 fun v12 w13 =>
  opnT (some v12) fun x14 =>
  x14.size = 2 ∧
  opnI .i64 (x14[0]?) fun x15 =>
  opnI .i64 (x14[1]?) fun x16 =>
  cond (x16 != 0)
  (Q (.tuple #[.slice none 0 0, .int .i64 80]) w13)
  (drw w13 fun w17 =>
  opnI .i64 (w17.cell? (p1.add 3)) fun x18 =>
  opnI .i64 (w17.cell? (p1.add 0)) fun x19 =>
  opnI .i64 (w17.cell? (p1.add 1)) fun x20 =>
  opnI .i64 (w17.cell? (p1.add 2)) fun x21 =>
  C_tile_widthOf #[.int .i64 x19, .int .i64 x20, .int .i64 x21, .int .i64 x15] w17 fun v22 w23 =>
  opnI .i64 (some v22) fun x24 =>
  (opnI .i64 (w23.cell? (p1.add 3)) fun x25 =>
  ((.int .i64 x25) : Value) = .int .i64 x18) ∧
  cond (decide (x18 > x24))
  (Q (.tuple #[.slice none 0 0, .int .i64 105]) w23)
  (opnI .i64 (w23.cell? (p1.add 3)) fun x26 =>
  sem PP (Instr.makeSlice 25 (.int .i64 0) (.int .i64 (IntKind.wrap .i64 (32 * x26)))) w23 fun v27 w28 =>
  opnL (some v27) fun x29 x29n x29c =>
  opnI .i64 (w28.cell? (p1.add 3)) fun x30 =>
  N_tile_FromTree.j12 Q a0 a0n a0c p1 x29 x29n x29c x30 0 w28)))))) :
C_tile_FromTree #[.slice a0 a0n a0c, .agg #[.int .i64 a1_0, .int .i64 a1_1, .int .i64 a1_2, .int .i64 a1_3, .bool a1_4]] w Q := C_fold K_tile_FromTree (by kernel_rfl) h
/-! ### ledger/tile.Inside -/
noncomputable def B_tile_Inside : Code := match Tryd.f18.body with | some c => c | _ => .skip
noncomputable def X_tile_Inside : Cx := { P := PP, fn := 18, N := 61, tab := tab, results := [.cell 8 29, .tmp 9], iter := fun _ => (.none, .none), dyn := fun _ => false, live := fun r => cond (Nat.beq r 2) (some [8]) (cond (Nat.beq r 7) (some [8]) (none)) }
theorem K_tile_Inside : OkF X_tile_Inside B_tile_Inside Tryd.f18 := ⟨⟨tab_ok, mix_ok⟩, Tryd.func18, by kernel_rfl, by kernel_rfl, by kernel_rfl, by kernel_rfl⟩
noncomputable def N_tile_Inside.j2 (Q : Value → World → Prop) (s8 : Addr) (w : World) : Prop := Nd X_tile_Inside Q [(8, 8, .pointer (some s8))] [.code (B_tile_Inside.r.l.r.l.l), .code (B_tile_Inside.r.l.r.l.r), .code (B_tile_Inside.r.r)] w
noncomputable def N_tile_Inside.j7 (Q : Value → World → Prop) (s8 : Addr) (w : World) : Prop := Nd X_tile_Inside Q [(8, 8, .pointer (some s8))] [.code (B_tile_Inside.r.r.r.r.l.r.l.l), .code (B_tile_Inside.r.r.r.r.l.r.l.r), .code (B_tile_Inside.r.r.r.r.r)] w
theorem N_tile_Inside.j2_eq (Q : Value → World → Prop) (s8 : Addr) (w : World) (h :
  semP PP (Instr.build 29 #[]) fun v1 =>
  opnG (some v1) fun x3 =>
  stRow s8 x3 (32 * 1) w fun w4 =>
  opnRow w4 s8 (32 * 1) fun x5 =>
  Q (.tuple #[.agg x5, .int .i64 101]) w4) :
N_tile_Inside.j2 Q s8 w := Nd_fold K_tile_Inside (by kernel_rfl) h
theorem N_tile_Inside.j7_eq (Q : Value → World → Prop) (s8 : Addr) (w : World) (h :
  semP PP (Instr.build 29 #[]) fun v1 =>
  opnG (some v1) fun x3 =>
  stRow s8 x3 (32 * 1) w fun w4 =>
  opnRow w4 s8 (32 * 1) fun x5 =>
  Q (.tuple #[.agg x5, .int .i64 105]) w4) :
N_tile_Inside.j7 Q s8 w := Nd_fold K_tile_Inside (by kernel_rfl) h
theorem C_tile_Inside_eq (Q : Value → World → Prop) (a0 : Int) (a1_0 : Int) (a1_1 : Int) (a1_2 : Int) (a1_3 : Int) (a1_4 : Bool) (a2 : Option Addr) (a2n : Nat) (a2c : Nat) (a3 : Int) (w : World) (h :
  alC #[.int .i64 a1_0, .int .i64 a1_1, .int .i64 a1_2, .int .i64 a1_3, .bool a1_4] 24 w fun p1 w2 =>
  alZ PP 29 w2 fun p3 w4 =>
  opnI .i64 (w4.cell? (p1.add 0)) fun x5 =>
  opnI .i64 (w4.cell? (p1.add 1)) fun x6 =>
  opnI .i64 (w4.cell? (p1.add 2)) fun x7 =>
  opnI .i64 (w4.cell? (p1.add 3)) fun x8 =>
  opnB (w4.cell? (p1.add 4)) fun x9 =>
  C_tile_Check #[.agg #[.int .i64 x5, .int .i64 x6, .int .i64 x7, .int .i64 x8, .bool x9]] w4 fun v10 w11 =>
  opnI .i64 (some v10) fun x12 =>
  cond (x12 != 0)
  (N_tile_Inside.j2 Q p3 w11)
  (opnB (w11.cell? (p1.add 4)) fun x13 =>
  cond x13
  (N_tile_Inside.j2 Q p3 w11)
  (opnI .i64 (w11.cell? (p1.add 3)) fun x14 =>
  cond (((a2n : Nat) : Int) != (IntKind.wrap .i64 (32 * x14)))
  (semP PP (Instr.build 29 #[]) fun v15 =>
  opnG (some v15) fun x17 =>
  stRow p3 x17 (32 * 1) w11 fun w18 =>
  opnRow w18 p3 (32 * 1) fun x19 =>
  Q (.tuple #[.agg x19, .int .i64 102]) w18)
  (opnI .i64 (w11.cell? (p1.add 0)) fun x20 =>
  C_tile_seatOf #[.int .i64 x20, .int .i64 a3] w11 fun v21 w22 =>
  opnT (some v21) fun x23 =>
  x23.size = 2 ∧
  opnG (x23[0]?) fun x24 =>
  x24.size = 7 ∧
  opnI .i64 (x24[0]?) fun x25 =>
  opnI .i64 (x24[1]?) fun x26 =>
  opnI .i64 (x24[2]?) fun x27 =>
  opnI .i64 (x24[3]?) fun x28 =>
  opnB (x24[4]?) fun x29 =>
  opnI .i64 (x24[5]?) fun x30 =>
  opnI .i64 (x24[6]?) fun x31 =>
  opnB (x23[1]?) fun x32 =>
  alC #[.int .i64 0, .int .i64 0, .int .i64 0, .int .i64 0, .bool false, .int .i64 0, .int .i64 0] 90 w22 fun p33 w34 =>
  Array.size (#[.int .i64 x25, .int .i64 x26, .int .i64 x27, .int .i64 x28, .bool x29, .int .i64 x30, .int .i64 x31] : Array Value) = 7 ∧
  stC (p33.add 0) (.int .i64 x25) w34 fun w35 =>
  stC (p33.add 1) (.int .i64 x26) w35 fun w36 =>
  stC (p33.add 2) (.int .i64 x27) w36 fun w37 =>
  stC (p33.add 3) (.int .i64 x28) w37 fun w38 =>
  stC (p33.add 4) (.bool x29) w38 fun w39 =>
  stC (p33.add 5) (.int .i64 x30) w39 fun w40 =>
  stC (p33.add 6) (.int .i64 x31) w40 fun w41 =>
  cond (!x32)
  (N_tile_Inside.j7 Q p3 w41)
  (opnI .i64 (w41.cell? ((p33.add 0).add 3)) fun x42 =>
  opnI .i64 (w41.cell? (p1.add 3)) fun x43 =>
  cond (decide (x42 > x43))
  (N_tile_Inside.j7 Q p3 w41)
  (opnI .i64 (w41.cell? (p1.add 3)) fun x44 =>
  stC ((p33.add 0).add 3) (.int .i64 x44) w41 fun w45 =>
  opnI .i64 (w45.cell? ((p33.add 0).add 0)) fun x46 =>
  opnI .i64 (w45.cell? ((p33.add 0).add 1)) fun x47 =>
  opnI .i64 (w45.cell? ((p33.add 0).add 2)) fun x48 =>
  opnI .i64 (w45.cell? ((p33.add 0).add 3)) fun x49 =>
  opnB (w45.cell? ((p33.add 0).add 4)) fun x50 =>
  opnI .i64 (w45.cell? (p1.add 0)) fun x51 =>
  opnI .i64 (w45.cell? (p1.add 1)) fun x52 =>
  opnI .i64 (w45.cell? (p1.add 2)) fun x53 =>
  opnI .i64 (w45.cell? (p1.add 3)) fun x54 =>
  opnB (w45.cell? (p1.add 4)) fun x55 =>
  semR PP (do eqGuard .neq 24 (.tmp 50) (.tmp 51) (.agg #[.int .i64 x46, .int .i64 x47, .int .i64 x48, .int .i64 x49, .bool x50]) (.agg #[.int .i64 x51, .int .i64 x52, .int .i64 x53, .int .i64 x54, .bool x55]); binOp .neq 24 (.agg #[.int .i64 x46, .int .i64 x47, .int .i64 x48, .int .i64 x49, .bool x50]) (.agg #[.int .i64 x51, .int .i64 x52, .int .i64 x53, .int .i64 x54, .bool x55])) w45 fun x56 =>
  opnB (some x56) fun x57 =>
  cond x57
  (semP PP (Instr.build 29 #[]) fun v58 =>
  opnG (some v58) fun x60 =>
  stRow p3 x60 (32 * 1) w45 fun w61 =>
  opnRow w61 p3 (32 * 1) fun x62 =>
  Q (.tuple #[.agg x62, .int .i64 105]) w61)
  (opnI .i64 (w45.cell? (p33.add 5)) fun x63 =>
  opnI .i64 (w45.cell? (p33.add 6)) fun x64 =>
  C_tile_joined #[.int .i64 a0, .slice a2 a2n a2c, .int .i64 x63, .int .i64 x64] w45 fun v65 w66 =>
  opnG (some v65) fun x67 =>
  stRow p3 x67 (32 * 1) w66 fun w68 =>
  opnRow w68 p3 (32 * 1) fun x69 =>
  Q (.tuple #[.agg x69, .int .i64 0]) w68))))))) :
C_tile_Inside #[.int .i64 a0, .agg #[.int .i64 a1_0, .int .i64 a1_1, .int .i64 a1_2, .int .i64 a1_3, .bool a1_4], .slice a2 a2n a2c, .int .i64 a3] w Q := C_fold K_tile_Inside (by kernel_rfl) h
/-! ### ledger/tlog.Records -/
noncomputable def B_tlog_Records : Code := match Tryd.f35.body with | some c => c | _ => .skip
noncomputable def X_tlog_Records : Cx := { P := PP, fn := 35, N := 19, tab := tab, results := [.tmp 2, .tmp 3], iter := fun _ => (.none, .none), dyn := fun _ => false, live := fun r => cond (Nat.beq r 2) (some []) (none) }
theorem K_tlog_Records : OkF X_tlog_Records B_tlog_Records Tryd.f35 := ⟨⟨tab_ok, mix_ok⟩, Tryd.func35, by kernel_rfl, by kernel_rfl, by kernel_rfl, by kernel_rfl⟩
noncomputable def N_tlog_Records.j2 (Q : Value → World → Prop) (w : World) : Prop := Nd X_tlog_Records Q [] [.code (B_tlog_Records.r.l.r.l.l), .code (B_tlog_Records.r.l.r.l.r), .code (B_tlog_Records.r.r)] w
theorem N_tlog_Records.j2_eq (Q : Value → World → Prop) (w : World) (h :
  Q (.tuple #[.int .i64 0, .int .i64 80]) w) :
N_tlog_Records.j2 Q w := Nd_fold K_tlog_Records (by kernel_rfl) h
theorem C_tlog_Records_eq (Q : Value → World → Prop) (a0 : Int) (w : World) (h :
  cond (decide (a0 < 0))
  (N_tlog_Records.j2 Q w)
  (C_tlog_count #[.int .i64 281474976710656] w fun v1 w2 =>
  opnI .i64 (some v1) fun x3 =>
  cond (decide (a0 > x3))
  (N_tlog_Records.j2 Q w2)
  (C_tlog_filled #[.int .i64 a0] w2 fun v4 w5 =>
  opnI .i64 (some v4) fun x6 =>
  C_tlog_count #[.int .i64 x6] w5 fun v7 w8 =>
  opnI .i64 (some v7) fun x9 =>
  cond (x9 != a0)
  (Q (.tuple #[.int .i64 0, .int .i64 80]) w8)
  (Q (.tuple #[.int .i64 x6, .int .i64 0]) w8)))) :
C_tlog_Records #[.int .i64 a0] w Q := C_fold K_tlog_Records (by kernel_rfl) h
/-! ### ledger/tile.widthOf -/
noncomputable def B_tile_widthOf : Code := match Tryd.f36.body with | some c => c | _ => .skip
noncomputable def X_tile_widthOf : Cx := { P := PP, fn := 36, N := 32, tab := tab, results := [.tmp 8], iter := fun _ => (.none, .none), dyn := fun _ => false, live := fun _ => none }
theorem K_tile_widthOf : OkF X_tile_widthOf B_tile_widthOf Tryd.f36 := ⟨⟨tab_ok, mix_ok⟩, Tryd.func36, by kernel_rfl, by kernel_rfl, by kernel_rfl, by kernel_rfl⟩
theorem C_tile_widthOf_eq (Q : Value → World → Prop) (a0 : Int) (a1 : Int) (a2 : Int) (a3 : Int) (w : World) (h :
  a0 ≠ (0 : Int) ∧
  cond (decide (a1 > (IntKind.wrap .i64 (Int.tdiv 48 a0))))
  (Q (.int .i64 0) w)
  (nn (IntKind.wrap .i64 (a0 * a1)) (
  nn a0 (
  cond (decide (a2 > (shrI .i64 (shrI .i64 a3 (IntKind.wrap .i64 (a0 * a1))) a0)))
  (Q (.int .i64 0) w)
  (drw w fun w1 =>
  nn a0 (
  C_tile_full #[.int .i64 a0] w1 fun v2 w3 =>
  opnI .i64 (some v2) fun x4 =>
  Q (.int .i64 (if x4 < IntKind.wrap .i64 ((shrI .i64 a3 (IntKind.wrap .i64 (a0 * a1))) - (shlI .i64 a2 a0)) then x4 else IntKind.wrap .i64 ((shrI .i64 a3 (IntKind.wrap .i64 (a0 * a1))) - (shlI .i64 a2 a0)))) w3)))))) :
C_tile_widthOf #[.int .i64 a0, .int .i64 a1, .int .i64 a2, .int .i64 a3] w Q := C_fold K_tile_widthOf (by kernel_rfl) h
/-! ### ledger/tlog.Index -/
noncomputable def B_tlog_Index : Code := match Tryd.f37.body with | some c => c | _ => .skip
noncomputable def X_tlog_Index : Cx := { P := PP, fn := 37, N := 25, tab := tab, results := [.tmp 4, .tmp 5], iter := fun _ => (.none, .none), dyn := fun _ => false, live := fun r => cond (Nat.beq r 2) (some []) (none) }
theorem K_tlog_Index : OkF X_tlog_Index B_tlog_Index Tryd.f37 := ⟨⟨tab_ok, mix_ok⟩, Tryd.func37, by kernel_rfl, by kernel_rfl, by kernel_rfl, by kernel_rfl⟩
noncomputable def N_tlog_Index.j2 (Q : Value → World → Prop) (w : World) : Prop := Nd X_tlog_Index Q [] [.code (B_tlog_Index.r.l.r.l.l), .code (B_tlog_Index.r.l.r.l.r), .code (B_tlog_Index.r.r)] w
theorem N_tlog_Index.j2_eq (Q : Value → World → Prop) (w : World) (h :
  Q (.tuple #[.int .i64 0, .int .i64 1]) w) :
N_tlog_Index.j2 Q w := Nd_fold K_tlog_Index (by kernel_rfl) h
theorem C_tlog_Index_eq (Q : Value → World → Prop) (a0 : Int) (a1 : Int) (w : World) (h :
  cond (decide (a0 < 0))
  (N_tlog_Index.j2 Q w)
  (cond (decide (a0 > 48))
  (N_tlog_Index.j2 Q w)
  (cond (decide (a1 < 0))
  (N_tlog_Index.j2 Q w)
  (nn a0 (
  cond (decide (a1 ≥ (shrI .i64 281474976710656 a0)))
  (N_tlog_Index.j2 Q w)
  (C_tlog_place #[.int .i64 a0, .int .i64 a1] w fun v1 w2 =>
  opnI .i64 (some v1) fun x3 =>
  Q (.tuple #[.int .i64 x3, .int .i64 0]) w2)))))) :
C_tlog_Index #[.int .i64 a0, .int .i64 a1] w Q := C_fold K_tlog_Index (by kernel_rfl) h
/-! ### ledger/ledgerref10.Width -/
noncomputable def B_r10_Width : Code := match Tryd.f39.body with | some c => c | _ => .skip
noncomputable def X_r10_Width : Cx := { P := PP, fn := 39, N := 56, tab := tab, results := [.tmp 8, .tmp 9], iter := fun _ => (.none, .none), dyn := fun _ => false, live := fun r => cond (Nat.beq r 2) (some []) (cond (Nat.beq r 9) (some [0, 11]) (cond (Nat.beq r 10) (some [0]) (cond (Nat.beq r 11) (some [11]) (none)))) }
theorem K_r10_Width : OkF X_r10_Width B_r10_Width Tryd.f39 := ⟨⟨tab_ok, mix_ok⟩, Tryd.func39, by kernel_rfl, by kernel_rfl, by kernel_rfl, by kernel_rfl⟩
noncomputable def N_r10_Width.j2 (Q : Value → World → Prop) (w : World) : Prop := Nd X_r10_Width Q [] [.code (B_r10_Width.r.l.r.l.l), .code (B_r10_Width.r.l.r.l.r), .code (B_r10_Width.r.r)] w
noncomputable def N_r10_Width.j9 (Q : Value → World → Prop) (s0 : Int) (s11 : Int) (w : World) : Prop := Nd X_r10_Width Q [(0, 0, .int .i64 s0), (11, 11, .int .i64 s11)] [.code (B_r10_Width.r.r.r.r.r.r.l.l), .code (B_r10_Width.r.r.r.r.r.r.l.r), .code (B_r10_Width.r.r.r.r.r.r.r)] w
noncomputable def N_r10_Width.j10 (Q : Value → World → Prop) (s0 : Int) (w : World) : Prop := Nd X_r10_Width Q [(0, 0, .int .i64 s0)] [.code (B_r10_Width.r.r.r.r.r.r.l.r.l), .code (B_r10_Width.r.r.r.r.r.r.r)] w
noncomputable def N_r10_Width.j11 (Q : Value → World → Prop) (s11 : Int) (w : World) : Prop := Nd X_r10_Width Q [(11, 11, .int .i64 s11)] [.code (B_r10_Width.r.r.r.r.r.r.r.l), .code (B_r10_Width.r.r.r.r.r.r.r.r)] w
theorem N_r10_Width.j2_eq (Q : Value → World → Prop) (w : World) (h :
  Q (.tuple #[.int .i64 0, .int .i64 1]) w) :
N_r10_Width.j2 Q w := Nd_fold K_r10_Width (by kernel_rfl) h
theorem N_r10_Width.j9_eq (Q : Value → World → Prop) (s0 : Int) (s11 : Int) (w : World) (h :
  C_r10_power #[.int .i64 s0] w fun v1 w2 =>
  opnI .i64 (some v1) fun x3 =>
  cond (decide (s11 > x3))
  (N_r10_Width.j10 Q s0 w2)
  (N_r10_Width.j11 Q s11 w2)) :
N_r10_Width.j9 Q s0 s11 w := Nd_fold K_r10_Width (by kernel_rfl) h
theorem N_r10_Width.j10_eq (Q : Value → World → Prop) (s0 : Int) (w : World) (h :
  C_r10_power #[.int .i64 s0] w fun v1 w2 =>
  opnI .i64 (some v1) fun x3 =>
  N_r10_Width.j11 Q x3 w2) :
N_r10_Width.j10 Q s0 w := Nd_fold K_r10_Width (by kernel_rfl) h
theorem N_r10_Width.j11_eq (Q : Value → World → Prop) (s11 : Int) (w : World) (h :
  Q (.tuple #[.int .i64 s11, .int .i64 0]) w) :
N_r10_Width.j11 Q s11 w := Nd_fold K_r10_Width (by kernel_rfl) h
theorem C_r10_Width_eq (Q : Value → World → Prop) (a0 : Int) (a1 : Int) (a2 : Int) (a3 : Int) (w : World) (h :
  cond (decide (a0 < 1))
  (N_r10_Width.j2 Q w)
  (cond (decide (a0 > 8))
  (N_r10_Width.j2 Q w)
  (cond (decide (a1 < 0))
  (N_r10_Width.j2 Q w)
  (cond (decide (a2 < 0))
  (N_r10_Width.j2 Q w)
  (cond (decide (a3 < 0))
  (N_r10_Width.j2 Q w)
  (cond (decide (a3 > 281474976710656))
  (N_r10_Width.j2 Q w)
  (C_r10_nodes #[.int .i64 a0, .int .i64 a1, .int .i64 a3] w fun v1 w2 =>
  opnI .i64 (some v1) fun x3 =>
  cond (decide (a2 > x3))
  (Q (.tuple #[.int .i64 0, .int .i64 0]) w2)
  (C_r10_power #[.int .i64 a0] w2 fun v4 w5 =>
  opnI .i64 (some v4) fun x6 =>
  cond (decide ((IntKind.wrap .i64 (x3 - (IntKind.wrap .i64 (a2 * x6)))) < 0))
  (N_r10_Width.j9 Q a0 0 w5)
  (N_r10_Width.j9 Q a0 (IntKind.wrap .i64 (x3 - (IntKind.wrap .i64 (a2 * x6)))) w5))))))))) :
C_r10_Width #[.int .i64 a0, .int .i64 a1, .int .i64 a2, .int .i64 a3] w Q := C_fold K_r10_Width (by kernel_rfl) h
/-! ### ledger/ledgerref08.Index -/
noncomputable def B_r08_Index : Code := match Tryd.f40.body with | some c => c | _ => .skip
noncomputable def X_r08_Index : Cx := { P := PP, fn := 40, N := 38, tab := tab, results := [.tmp 4, .tmp 5], iter := fun _ => (.none, .none), dyn := fun _ => false, live := fun r => cond (Nat.beq r 2) (some []) (none) }
theorem K_r08_Index : OkF X_r08_Index B_r08_Index Tryd.f40 := ⟨⟨tab_ok, mix_ok⟩, Tryd.func40, by kernel_rfl, by kernel_rfl, by kernel_rfl, by kernel_rfl⟩
noncomputable def N_r08_Index.j2 (Q : Value → World → Prop) (w : World) : Prop := Nd X_r08_Index Q [] [.code (B_r08_Index.r.l.r.l.l), .code (B_r08_Index.r.l.r.l.r), .code (B_r08_Index.r.r)] w
theorem N_r08_Index.j2_eq (Q : Value → World → Prop) (w : World) (h :
  Q (.tuple #[.int .i64 0, .int .i64 1]) w) :
N_r08_Index.j2 Q w := Nd_fold K_r08_Index (by kernel_rfl) h
theorem C_r08_Index_eq (Q : Value → World → Prop) (a0 : Int) (a1 : Int) (w : World) (h :
  cond (decide (a0 < 0))
  (N_r08_Index.j2 Q w)
  (cond (decide (a0 > 48))
  (N_r08_Index.j2 Q w)
  (cond (decide (a1 < 0))
  (N_r08_Index.j2 Q w)
  (cond (decide (a1 ≥ 281474976710656))
  (N_r08_Index.j2 Q w)
  (C_r08_power #[.int .i64 a0] w fun v1 w2 =>
  opnI .i64 (some v1) fun x3 =>
  x3 ≠ (0 : Int) ∧
  cond (decide ((IntKind.wrap .i64 (a1 + 1)) > (IntKind.wrap .i64 (Int.tdiv 281474976710656 x3))))
  (Q (.tuple #[.int .i64 0, .int .i64 1]) w2)
  (C_r08_laid #[.int .i64 (IntKind.wrap .i64 ((IntKind.wrap .i64 ((IntKind.wrap .i64 (a1 + 1)) * x3)) - 1))] w2 fun v4 w5 =>
  opnI .i64 (some v4) fun x6 =>
  Q (.tuple #[.int .i64 (IntKind.wrap .i64 (x6 + a0)), .int .i64 0]) w5)))))) :
C_r08_Index #[.int .i64 a0, .int .i64 a1] w Q := C_fold K_r08_Index (by kernel_rfl) h
/-! ### ledger/tile.seatOf -/
noncomputable def B_tile_seatOf : Code := match Tryd.f42.body with | some c => c | _ => .skip
noncomputable def X_tile_seatOf : Cx := { P := PP, fn := 42, N := 49, tab := tab, results := [.cell 4 90, .tmp 5], iter := fun _ => (.none, .none), dyn := fun _ => false, live := fun _ => none }
theorem K_tile_seatOf : OkF X_tile_seatOf B_tile_seatOf Tryd.f42 := ⟨⟨tab_ok, mix_ok⟩, Tryd.func42, by kernel_rfl, by kernel_rfl, by kernel_rfl, by kernel_rfl⟩
theorem C_tile_seatOf_eq (Q : Value → World → Prop) (a0 : Int) (a1 : Int) (w : World) (h :
  alC #[.int .i64 0, .int .i64 0, .int .i64 0, .int .i64 0, .bool false, .int .i64 0, .int .i64 0] 90 w fun p1 w2 =>
  C_tlog_SplitIndex #[.int .i64 a1] w2 fun v3 w4 =>
  opnT (some v3) fun x5 =>
  x5.size = 3 ∧
  opnI .i64 (x5[0]?) fun x6 =>
  opnI .i64 (x5[1]?) fun x7 =>
  opnI .i64 (x5[2]?) fun x8 =>
  cond (x8 != 0)
  (Array.size (#[.int .i64 0, .int .i64 0, .int .i64 0, .int .i64 0, .bool false, .int .i64 0, .int .i64 0] : Array Value) = 7 ∧
  stC (p1.add 0) (.int .i64 0) w4 fun w9 =>
  stC (p1.add 1) (.int .i64 0) w9 fun w10 =>
  stC (p1.add 2) (.int .i64 0) w10 fun w11 =>
  stC (p1.add 3) (.int .i64 0) w11 fun w12 =>
  stC (p1.add 4) (.bool false) w12 fun w13 =>
  stC (p1.add 5) (.int .i64 0) w13 fun w14 =>
  stC (p1.add 6) (.int .i64 0) w14 fun w15 =>
  opnI .i64 (w15.cell? (p1.add 0)) fun x16 =>
  opnI .i64 (w15.cell? (p1.add 1)) fun x17 =>
  opnI .i64 (w15.cell? (p1.add 2)) fun x18 =>
  opnI .i64 (w15.cell? (p1.add 3)) fun x19 =>
  opnB (w15.cell? (p1.add 4)) fun x20 =>
  opnI .i64 (w15.cell? (p1.add 5)) fun x21 =>
  opnI .i64 (w15.cell? (p1.add 6)) fun x22 =>
  Q (.tuple #[.agg #[.int .i64 x16, .int .i64 x17, .int .i64 x18, .int .i64 x19, .bool x20, .int .i64 x21, .int .i64 x22], .bool false]) w15)
  (drw w4 fun w23 =>
  a0 ≠ (0 : Int) ∧
  a0 ≠ (0 : Int) ∧
  nn (Int.tmod x6 a0) (
  C_tile_full #[.int .i64 a0] w23 fun v24 w25 =>
  opnI .i64 (some v24) fun x26 =>
  drw w25 fun w27 =>
  nn a0 (
  nn (Int.tmod x6 a0) (
  Array.size (#[.int .i64 a0, .int .i64 (IntKind.wrap .i64 (Int.tdiv x6 a0)), .int .i64 (shrI .i64 (shlI .i64 x7 (Int.tmod x6 a0)) a0), .int .i64 (IntKind.wrap .i64 ((bits .and .i64 (shlI .i64 x7 (Int.tmod x6 a0)) (IntKind.wrap .i64 (x26 - 1))) + (shlI .i64 1 (Int.tmod x6 a0)))), .bool false, .int .i64 (bits .and .i64 (shlI .i64 x7 (Int.tmod x6 a0)) (IntKind.wrap .i64 (x26 - 1))), .int .i64 (Int.tmod x6 a0)] : Array Value) = 7 ∧
  stC (p1.add 0) (.int .i64 a0) w27 fun w28 =>
  stC (p1.add 1) (.int .i64 (IntKind.wrap .i64 (Int.tdiv x6 a0))) w28 fun w29 =>
  stC (p1.add 2) (.int .i64 (shrI .i64 (shlI .i64 x7 (Int.tmod x6 a0)) a0)) w29 fun w30 =>
  stC (p1.add 3) (.int .i64 (IntKind.wrap .i64 ((bits .and .i64 (shlI .i64 x7 (Int.tmod x6 a0)) (IntKind.wrap .i64 (x26 - 1))) + (shlI .i64 1 (Int.tmod x6 a0))))) w30 fun w31 =>
  stC (p1.add 4) (.bool false) w31 fun w32 =>
  stC (p1.add 5) (.int .i64 (bits .and .i64 (shlI .i64 x7 (Int.tmod x6 a0)) (IntKind.wrap .i64 (x26 - 1)))) w32 fun w33 =>
  stC (p1.add 6) (.int .i64 (Int.tmod x6 a0)) w33 fun w34 =>
  opnI .i64 (w34.cell? (p1.add 0)) fun x35 =>
  opnI .i64 (w34.cell? (p1.add 1)) fun x36 =>
  opnI .i64 (w34.cell? (p1.add 2)) fun x37 =>
  opnI .i64 (w34.cell? (p1.add 3)) fun x38 =>
  opnB (w34.cell? (p1.add 4)) fun x39 =>
  opnI .i64 (w34.cell? (p1.add 5)) fun x40 =>
  opnI .i64 (w34.cell? (p1.add 6)) fun x41 =>
  Q (.tuple #[.agg #[.int .i64 x35, .int .i64 x36, .int .i64 x37, .int .i64 x38, .bool x39, .int .i64 x40, .int .i64 x41], .bool true]) w34))))) :
C_tile_seatOf #[.int .i64 a0, .int .i64 a1] w Q := C_fold K_tile_seatOf (by kernel_rfl) h
/-! ### ledger/tile.joined -/
noncomputable def B_tile_joined : Code := match Tryd.f43.body with | some c => c | _ => .skip
noncomputable def X_tile_joined : Cx := { P := PP, fn := 43, N := 66, tab := tab, results := [.cell 8 29], iter := fun _ => (.none, .none), dyn := fun _ => false, live := fun r => cond (Nat.beq r 3) (some [0, 1, 2, 8, 9, 16, 17]) (cond (Nat.beq r 7) (some [0, 8, 9]) (cond (Nat.beq r 9) (some [0, 8, 9, 37, 38]) (none))) }
theorem K_tile_joined : OkF X_tile_joined B_tile_joined Tryd.f43 := ⟨⟨tab_ok, mix_ok⟩, Tryd.func43, by kernel_rfl, by kernel_rfl, by kernel_rfl, by kernel_rfl⟩
noncomputable def N_tile_joined.j3 (Q : Value → World → Prop) (s0 : Int) (s1 : Option Addr) (s1n : Nat) (s1c : Nat) (s2 : Int) (s8 : Addr) (s9 : Option Addr) (s9n : Nat) (s9c : Nat) (s16 : Int) (s17 : Int) (w : World) : Prop := Nd X_tile_joined Q [(0, 0, .int .i64 s0), (1, 1, .slice s1 s1n s1c), (2, 2, .int .i64 s2), (8, 8, .pointer (some s8)), (9, 9, .slice s9 s9n s9c), (16, 16, .int .i64 s16), (17, 17, .int .i64 s17)] [.code (B_tile_joined.r.r.l.r.l.l.l), .code (B_tile_joined.r.r.l.r.l.l.r), .inLoop (B_tile_joined.r.r.l.r.l.l), .inBlock 0, .code (B_tile_joined.r.r.r)] w
noncomputable def N_tile_joined.j7 (Q : Value → World → Prop) (s0 : Int) (s8 : Addr) (s9 : Option Addr) (s9n : Nat) (s9c : Nat) (w : World) : Prop := Nd X_tile_joined Q [(0, 0, .int .i64 s0), (8, 8, .pointer (some s8)), (9, 9, .slice s9 s9n s9c)] [.code (B_tile_joined.r.r.r.l.l.l.l.l), .code (B_tile_joined.r.r.r.l.l.l.l.r), .code (B_tile_joined.r.r.r.l.l.l.r), .inLoop (B_tile_joined.r.r.r.l.l.l), .inBlock 2, .code (B_tile_joined.r.r.r.r)] w
noncomputable def N_tile_joined.j9 (Q : Value → World → Prop) (s0 : Int) (s8 : Addr) (s9 : Option Addr) (s9n : Nat) (s9c : Nat) (s37 : Int) (s38 : Int) (w : World) : Prop := Nd X_tile_joined Q [(0, 0, .int .i64 s0), (8, 8, .pointer (some s8)), (9, 9, .slice s9 s9n s9c), (37, 37, .int .i64 s37), (38, 38, .int .i64 s38)] [.code (B_tile_joined.r.r.r.l.l.l.r.l.l.r.l.l.l), .code (B_tile_joined.r.r.r.l.l.l.r.l.l.r.l.l.r), .inLoop (B_tile_joined.r.r.r.l.l.l.r.l.l.r.l.l), .inBlock 4, .code (B_tile_joined.r.r.r.l.l.l.r.l.r), .inBlock 3, .inLoop (B_tile_joined.r.r.r.l.l.l), .inBlock 2, .code (B_tile_joined.r.r.r.r)] w
theorem N_tile_joined.j3_eq (Q : Value → World → Prop) (s0 : Int) (s1 : Option Addr) (s1n : Nat) (s1c : Nat) (s2 : Int) (s8 : Addr) (s9 : Option Addr) (s9n : Nat) (s9c : Nat) (s16 : Int) (s17 : Int) (w : World) (h :
  cond (decide (s17 < s16))
  ((0 : Int) ≤ (IntKind.wrap .i64 (32 * (IntKind.wrap .i64 (s2 + s17)))) ∧
  (IntKind.wrap .i64 (32 * (IntKind.wrap .i64 (s2 + s17)))) ≤ ((s1n : Nat) : Int) ∧
  32 ≤ (s1n - (Int.toNat (IntKind.wrap .i64 (32 * (IntKind.wrap .i64 (s2 + s17)))))) ∧
  opnA (slA s1 (Int.toNat (IntKind.wrap .i64 (32 * (IntKind.wrap .i64 (s2 + s17))))) s1c 1) fun ad1 =>
  opnRow w ad1 (32 * 1) fun x2 =>
  (0 : Int) ≤ s17 ∧
  s17 < ((s9n : Nat) : Int) ∧
  opnA s9 fun ad3 =>
  stRow (ad3.add (Int.toNat s17 * 32)) x2 (32 * 1) w fun w4 =>
  N_tile_joined.j3 Q s0 s1 s1n s1c s2 s8 s9 s9n s9c s16 (IntKind.wrap .i64 (s17 + 1)) w4)
  (N_tile_joined.j7 Q s0 s8 s9 s9n s9c w)) :
N_tile_joined.j3 Q s0 s1 s1n s1c s2 s8 s9 s9n s9c s16 s17 w := Nd_fold K_tile_joined (by kernel_rfl) h
theorem N_tile_joined.j7_eq (Q : Value → World → Prop) (s0 : Int) (s8 : Addr) (s9 : Option Addr) (s9n : Nat) (s9c : Nat) (w : World) (h :
  cond (decide (((s9n : Nat) : Int) > 1))
  (2 ≠ (0 : Int) ∧
  N_tile_joined.j9 Q s0 s8 s9 s9n s9c (IntKind.wrap .i64 (Int.tdiv ((s9n : Nat) : Int) 2)) 0 w)
  ((0 : Int) ≤ 0 ∧
  0 < ((s9n : Nat) : Int) ∧
  opnA s9 fun ad1 =>
  opnRow w (ad1.add (Int.toNat 0 * 32)) (32 * 1) fun x2 =>
  stRow s8 x2 (32 * 1) w fun w3 =>
  opnRow w3 s8 (32 * 1) fun x4 =>
  Q (.agg x4) w3)) :
N_tile_joined.j7 Q s0 s8 s9 s9n s9c w := Nd_fold K_tile_joined (by kernel_rfl) h
theorem N_tile_joined.j9_eq (Q : Value → World → Prop) (s0 : Int) (s8 : Addr) (s9 : Option Addr) (s9n : Nat) (s9c : Nat) (s37 : Int) (s38 : Int) (w : World) (h :
  cond (decide (s38 < s37))
  (drw w fun w1 =>
  (0 : Int) ≤ IntKind.wrap .i64 (2 * s38) ∧
  (IntKind.wrap .i64 (2 * s38)) < ((s9n : Nat) : Int) ∧
  opnA s9 fun ad2 =>
  (0 : Int) ≤ IntKind.wrap .i64 ((IntKind.wrap .i64 (2 * s38)) + 1) ∧
  (IntKind.wrap .i64 ((IntKind.wrap .i64 (2 * s38)) + 1)) < ((s9n : Nat) : Int) ∧
  opnA s9 fun ad3 =>
  opnRow w1 (ad2.add (Int.toNat (IntKind.wrap .i64 (2 * s38)) * 32)) (32 * 1) fun x4 =>
  opnRow w1 (ad3.add (Int.toNat (IntKind.wrap .i64 ((IntKind.wrap .i64 (2 * s38)) + 1)) * 32)) (32 * 1) fun x5 =>
  C_tlog_NodeHash #[.int .i64 s0, .agg x4, .agg x5] w1 fun v6 w7 =>
  opnG (some v6) fun x8 =>
  (0 : Int) ≤ s38 ∧
  s38 < ((s9n : Nat) : Int) ∧
  opnA s9 fun ad9 =>
  stRow (ad9.add (Int.toNat s38 * 32)) x8 (32 * 1) w7 fun w10 =>
  N_tile_joined.j9 Q s0 s8 s9 s9n s9c s37 (IntKind.wrap .i64 (s38 + 1)) w10)
  (2 ≠ (0 : Int) ∧
  (0 : Int) ≤ (IntKind.wrap .i64 (Int.tdiv ((s9n : Nat) : Int) 2)) ∧
  (IntKind.wrap .i64 (Int.tdiv ((s9n : Nat) : Int) 2)) ≤ ((s9c : Nat) : Int) ∧
  N_tile_joined.j7 Q s0 s8 (slA s9 0 s9c 32) ((Int.toNat (IntKind.wrap .i64 (Int.tdiv ((s9n : Nat) : Int) 2))) - 0) (s9c - 0) w)) :
N_tile_joined.j9 Q s0 s8 s9 s9n s9c s37 s38 w := Nd_fold K_tile_joined (by kernel_rfl) h
theorem C_tile_joined_eq (Q : Value → World → Prop) (a0 : Int) (a1 : Option Addr) (a1n : Nat) (a1c : Nat) (a2 : Int) (a3 : Int) (w : World) (h :
  alZ PP 29 w fun p1 w2 =>
  nn a3 (
  sem PP (Instr.makeSlice 22 (.int .i64 (shlI .i64 1 a3)) (.int .i64 (shlI .i64 1 a3))) w2 fun v3 w4 =>
  opnL (some v3) fun x5 x5n x5c =>
  N_tile_joined.j3 Q a0 a1 a1n a1c a2 p1 x5 x5n x5c ((x5n : Nat) : Int) 0 w4)) :
C_tile_joined #[.int .i64 a0, .slice a1 a1n a1c, .int .i64 a2, .int .i64 a3] w Q := C_fold K_tile_joined (by kernel_rfl) h
/-! ### ledger/tlog.count -/
noncomputable def B_tlog_count : Code := match Tryd.f67.body with | some c => c | _ => .skip
noncomputable def X_tlog_count : Cx := { P := PP, fn := 67, N := 9, tab := tab, results := [.tmp 2], iter := fun _ => (.none, .none), dyn := fun _ => false, live := fun _ => none }
theorem K_tlog_count : OkF X_tlog_count B_tlog_count Tryd.f67 := ⟨⟨tab_ok, mix_ok⟩, Tryd.func67, by kernel_rfl, by kernel_rfl, by kernel_rfl, by kernel_rfl⟩
theorem C_tlog_count_eq (Q : Value → World → Prop) (a0 : Int) (w : World) (h :
  C_math_bits_OnesCount64 #[.int .u64 (IntKind.wrap .u64 a0)] w fun v1 w2 =>
  opnI .i64 (some v1) fun x3 =>
  Q (.int .i64 (IntKind.wrap .i64 ((IntKind.wrap .i64 (2 * a0)) - x3))) w2) :
C_tlog_count #[.int .i64 a0] w Q := C_fold K_tlog_count (by kernel_rfl) h
/-! ### ledger/tlog.filled -/
noncomputable def B_tlog_filled : Code := match Tryd.f68.body with | some c => c | _ => .skip
noncomputable def X_tlog_filled : Cx := { P := PP, fn := 68, N := 18, tab := tab, results := [.tmp 2], iter := fun _ => (.none, .none), dyn := fun _ => false, live := fun r => cond (Nat.beq r 2) (some [0, 3]) (cond (Nat.beq r 4) (some [3]) (none)) }
theorem K_tlog_filled : OkF X_tlog_filled B_tlog_filled Tryd.f68 := ⟨⟨tab_ok, mix_ok⟩, Tryd.func68, by kernel_rfl, by kernel_rfl, by kernel_rfl, by kernel_rfl⟩
noncomputable def N_tlog_filled.j2 (Q : Value → World → Prop) (s0 : Int) (s3 : Int) (w : World) : Prop := Nd X_tlog_filled Q [(0, 0, .int .i64 s0), (3, 3, .int .i64 s3)] [.code (B_tlog_filled.r.r.l.l.l.l.l), .code (B_tlog_filled.r.r.l.l.l.l.r), .code (B_tlog_filled.r.r.l.l.l.r), .inLoop (B_tlog_filled.r.r.l.l.l), .inBlock 0, .code (B_tlog_filled.r.r.r)] w
noncomputable def N_tlog_filled.j4 (Q : Value → World → Prop) (s3 : Int) (w : World) : Prop := Nd X_tlog_filled Q [(3, 3, .int .i64 s3)] [.code (B_tlog_filled.r.r.r.l), .code (B_tlog_filled.r.r.r.r)] w
theorem N_tlog_filled.j2_eq (Q : Value → World → Prop) (s0 : Int) (s3 : Int) (w : World) (h :
  cond (decide (s3 < 281474976710656))
  (C_tlog_count #[.int .i64 (IntKind.wrap .i64 (s3 + 1))] w fun v1 w2 =>
  opnI .i64 (some v1) fun x3 =>
  cond (decide (x3 ≤ s0))
  (N_tlog_filled.j2 Q s0 (IntKind.wrap .i64 (s3 + 1)) w2)
  (N_tlog_filled.j4 Q s3 w2))
  (N_tlog_filled.j4 Q s3 w)) :
N_tlog_filled.j2 Q s0 s3 w := Nd_fold K_tlog_filled (by kernel_rfl) h
theorem N_tlog_filled.j4_eq (Q : Value → World → Prop) (s3 : Int) (w : World) (h :
  Q (.int .i64 s3) w) :
N_tlog_filled.j4 Q s3 w := Nd_fold K_tlog_filled (by kernel_rfl) h
theorem C_tlog_filled_eq (Q : Value → World → Prop) (a0 : Int) (w : World) (h :
  2 ≠ (0 : Int) ∧
  N_tlog_filled.j2 Q a0 (IntKind.wrap .i64 (Int.tdiv a0 2)) w) :
C_tlog_filled #[.int .i64 a0] w Q := C_fold K_tlog_filled (by kernel_rfl) h
/-! ### ledger/tlog.place -/
noncomputable def B_tlog_place : Code := match Tryd.f69.body with | some c => c | _ => .skip
noncomputable def X_tlog_place : Cx := { P := PP, fn := 69, N := 13, tab := tab, results := [.tmp 4], iter := fun _ => (.none, .none), dyn := fun _ => false, live := fun _ => none }
theorem K_tlog_place : OkF X_tlog_place B_tlog_place Tryd.f69 := ⟨⟨tab_ok, mix_ok⟩, Tryd.func69, by kernel_rfl, by kernel_rfl, by kernel_rfl, by kernel_rfl⟩
theorem C_tlog_place_eq (Q : Value → World → Prop) (a0 : Int) (a1 : Int) (w : World) (h :
  nn a0 (
  C_tlog_count #[.int .i64 (IntKind.wrap .i64 ((shlI .i64 (IntKind.wrap .i64 (a1 + 1)) a0) - 1))] w fun v1 w2 =>
  opnI .i64 (some v1) fun x3 =>
  Q (.int .i64 (IntKind.wrap .i64 (x3 + a0))) w2)) :
C_tlog_place #[.int .i64 a0, .int .i64 a1] w Q := C_fold K_tlog_place (by kernel_rfl) h
/-! ### ledger/ledgerref08.record -/
noncomputable def B_r08_record : Code := match Tryd.f70.body with | some c => c | _ => .skip
noncomputable def X_r08_record : Cx := { P := PP, fn := 70, N := 22, tab := tab, results := [.tmp 2], iter := fun _ => (.none, .none), dyn := fun _ => false, live := fun r => cond (Nat.beq r 3) (some [0, 3, 4]) (none) }
theorem K_r08_record : OkF X_r08_record B_r08_record Tryd.f70 := ⟨⟨tab_ok, mix_ok⟩, Tryd.func70, by kernel_rfl, by kernel_rfl, by kernel_rfl, by kernel_rfl⟩
noncomputable def N_r08_record.j3 (Q : Value → World → Prop) (s0 : Int) (s3 : Int) (s4 : Int) (w : World) : Prop := Nd X_r08_record Q [(0, 0, .int .i64 s0), (3, 3, .int .i64 s3), (4, 4, .int .i64 s4)] [.code (B_r08_record.r.r.r.l.l.l.l.l), .code (B_r08_record.r.r.r.l.l.l.l.r), .code (B_r08_record.r.r.r.l.l.l.r), .inLoop (B_r08_record.r.r.r.l.l.l), .inBlock 0, .code (B_r08_record.r.r.r.r)] w
theorem N_r08_record.j3_eq (Q : Value → World → Prop) (s0 : Int) (s3 : Int) (s4 : Int) (w : World) (h :
  cond (decide (s3 < s4))
  (2 ≠ (0 : Int) ∧
  C_r08_laid #[.int .i64 (IntKind.wrap .i64 (Int.tdiv (IntKind.wrap .i64 ((IntKind.wrap .i64 (s3 + s4)) + 1)) 2))] w fun v1 w2 =>
  opnI .i64 (some v1) fun x3 =>
  cond (decide (x3 ≤ s0))
  (N_r08_record.j3 Q s0 (IntKind.wrap .i64 (Int.tdiv (IntKind.wrap .i64 ((IntKind.wrap .i64 (s3 + s4)) + 1)) 2)) s4 w2)
  (N_r08_record.j3 Q s0 s3 (IntKind.wrap .i64 ((IntKind.wrap .i64 (Int.tdiv (IntKind.wrap .i64 ((IntKind.wrap .i64 (s3 + s4)) + 1)) 2)) - 1)) w2))
  (Q (.int .i64 s3) w)) :
N_r08_record.j3 Q s0 s3 s4 w := Nd_fold K_r08_record (by kernel_rfl) h
theorem C_r08_record_eq (Q : Value → World → Prop) (a0 : Int) (w : World) (h :
  N_r08_record.j3 Q a0 0 281474976710656 w) :
C_r08_record #[.int .i64 a0] w Q := C_fold K_r08_record (by kernel_rfl) h
/-! ### ledger/ledgerref08.laid -/
noncomputable def B_r08_laid : Code := match Tryd.f71.body with | some c => c | _ => .skip
noncomputable def X_r08_laid : Cx := { P := PP, fn := 71, N := 12, tab := tab, results := [.tmp 2], iter := fun _ => (.none, .none), dyn := fun _ => false, live := fun r => cond (Nat.beq r 2) (some [0, 3]) (none) }
theorem K_r08_laid : OkF X_r08_laid B_r08_laid Tryd.f71 := ⟨⟨tab_ok, mix_ok⟩, Tryd.func71, by kernel_rfl, by kernel_rfl, by kernel_rfl, by kernel_rfl⟩
noncomputable def N_r08_laid.j2 (Q : Value → World → Prop) (s0 : Int) (s3 : Int) (w : World) : Prop := Nd X_r08_laid Q [(0, 0, .int .i64 s0), (3, 3, .int .i64 s3)] [.code (B_r08_laid.r.r.l.l.l.l.l), .code (B_r08_laid.r.r.l.l.l.l.r), .code (B_r08_laid.r.r.l.l.l.r), .inLoop (B_r08_laid.r.r.l.l.l), .inBlock 0, .code (B_r08_laid.r.r.r)] w
theorem N_r08_laid.j2_eq (Q : Value → World → Prop) (s0 : Int) (s3 : Int) (w : World) (h :
  cond (decide (s0 > 0))
  (2 ≠ (0 : Int) ∧
  N_r08_laid.j2 Q (IntKind.wrap .i64 (Int.tdiv s0 2)) (IntKind.wrap .i64 (s3 + s0)) w)
  (Q (.int .i64 s3) w)) :
N_r08_laid.j2 Q s0 s3 w := Nd_fold K_r08_laid (by kernel_rfl) h
theorem C_r08_laid_eq (Q : Value → World → Prop) (a0 : Int) (w : World) (h :
  N_r08_laid.j2 Q a0 0 w) :
C_r08_laid #[.int .i64 a0] w Q := C_fold K_r08_laid (by kernel_rfl) h
/-! ### ledger/ledgerref10.nodes -/
noncomputable def B_r10_nodes : Code := match Tryd.f72.body with | some c => c | _ => .skip
noncomputable def X_r10_nodes : Cx := { P := PP, fn := 72, N := 21, tab := tab, results := [.tmp 6], iter := fun _ => (.none, .none), dyn := fun _ => false, live := fun r => cond (Nat.beq r 2) (some []) (none) }
theorem K_r10_nodes : OkF X_r10_nodes B_r10_nodes Tryd.f72 := ⟨⟨tab_ok, mix_ok⟩, Tryd.func72, by kernel_rfl, by kernel_rfl, by kernel_rfl, by kernel_rfl⟩
noncomputable def N_r10_nodes.j2 (Q : Value → World → Prop) (w : World) : Prop := Nd X_r10_nodes Q [] [.code (B_r10_nodes.r.l.r.l.l), .code (B_r10_nodes.r.l.r.l.r), .code (B_r10_nodes.r.r)] w
theorem N_r10_nodes.j2_eq (Q : Value → World → Prop) (w : World) (h :
  Q (.int .i64 0) w) :
N_r10_nodes.j2 Q w := Nd_fold K_r10_nodes (by kernel_rfl) h
theorem C_r10_nodes_eq (Q : Value → World → Prop) (a0 : Int) (a1 : Int) (a2 : Int) (w : World) (h :
  cond (decide (a1 > 48))
  (N_r10_nodes.j2 Q w)
  (cond (decide ((IntKind.wrap .i64 (a0 * a1)) > 48))
  (N_r10_nodes.j2 Q w)
  (C_r10_power #[.int .i64 (IntKind.wrap .i64 (a0 * a1))] w fun v1 w2 =>
  opnI .i64 (some v1) fun x3 =>
  x3 ≠ (0 : Int) ∧
  Q (.int .i64 (IntKind.wrap .i64 (Int.tdiv a2 x3))) w2))) :
C_r10_nodes #[.int .i64 a0, .int .i64 a1, .int .i64 a2] w Q := C_fold K_r10_nodes (by kernel_rfl) h
/-! ### ledger/ledgerref08.power -/
noncomputable def B_r08_power : Code := match Tryd.f73.body with | some c => c | _ => .skip
noncomputable def X_r08_power : Cx := { P := PP, fn := 73, N := 13, tab := tab, results := [.tmp 2], iter := fun _ => (.none, .none), dyn := fun _ => false, live := fun r => cond (Nat.beq r 3) (some [0, 3, 4]) (none) }
theorem K_r08_power : OkF X_r08_power B_r08_power Tryd.f73 := ⟨⟨tab_ok, mix_ok⟩, Tryd.func73, by kernel_rfl, by kernel_rfl, by kernel_rfl, by kernel_rfl⟩
noncomputable def N_r08_power.j3 (Q : Value → World → Prop) (s0 : Int) (s3 : Int) (s4 : Int) (w : World) : Prop := Nd X_r08_power Q [(0, 0, .int .i64 s0), (3, 3, .int .i64 s3), (4, 4, .int .i64 s4)] [.code (B_r08_power.r.r.l.r.l.l.l.l), .code (B_r08_power.r.r.l.r.l.l.l.r), .code (B_r08_power.r.r.l.r.l.l.r), .inLoop (B_r08_power.r.r.l.r.l.l), .inBlock 0, .code (B_r08_power.r.r.r)] w
theorem N_r08_power.j3_eq (Q : Value → World → Prop) (s0 : Int) (s3 : Int) (s4 : Int) (w : World) (h :
  cond (decide (s4 < s0))
  (N_r08_power.j3 Q s0 (IntKind.wrap .i64 (2 * s3)) (IntKind.wrap .i64 (s4 + 1)) w)
  (Q (.int .i64 s3) w)) :
N_r08_power.j3 Q s0 s3 s4 w := Nd_fold K_r08_power (by kernel_rfl) h
theorem C_r08_power_eq (Q : Value → World → Prop) (a0 : Int) (w : World) (h :
  N_r08_power.j3 Q a0 1 0 w) :
C_r08_power #[.int .i64 a0] w Q := C_fold K_r08_power (by kernel_rfl) h
/-! ### ledger/tlog.SplitIndex -/
noncomputable def B_tlog_SplitIndex : Code := match Tryd.f74.body with | some c => c | _ => .skip
noncomputable def X_tlog_SplitIndex : Cx := { P := PP, fn := 74, N := 26, tab := tab, results := [.tmp 2, .tmp 3, .tmp 4], iter := fun _ => (.none, .none), dyn := fun _ => false, live := fun r => cond (Nat.beq r 2) (some []) (none) }
theorem K_tlog_SplitIndex : OkF X_tlog_SplitIndex B_tlog_SplitIndex Tryd.f74 := ⟨⟨tab_ok, mix_ok⟩, Tryd.func74, by kernel_rfl, by kernel_rfl, by kernel_rfl, by kernel_rfl⟩
noncomputable def N_tlog_SplitIndex.j2 (Q : Value → World → Prop) (w : World) : Prop := Nd X_tlog_SplitIndex Q [] [.code (B_tlog_SplitIndex.r.l.r.l.l), .code (B_tlog_SplitIndex.r.l.r.l.r), .code (B_tlog_SplitIndex.r.r)] w
theorem N_tlog_SplitIndex.j2_eq (Q : Value → World → Prop) (w : World) (h :
  Q (.tuple #[.int .i64 0, .int .i64 0, .int .i64 1]) w) :
N_tlog_SplitIndex.j2 Q w := Nd_fold K_tlog_SplitIndex (by kernel_rfl) h
theorem C_tlog_SplitIndex_eq (Q : Value → World → Prop) (a0 : Int) (w : World) (h :
  cond (decide (a0 < 0))
  (N_tlog_SplitIndex.j2 Q w)
  (C_tlog_count #[.int .i64 281474976710656] w fun v1 w2 =>
  opnI .i64 (some v1) fun x3 =>
  cond (decide (a0 ≥ x3))
  (N_tlog_SplitIndex.j2 Q w2)
  (C_tlog_filled #[.int .i64 a0] w2 fun v4 w5 =>
  opnI .i64 (some v4) fun x6 =>
  C_tlog_count #[.int .i64 x6] w5 fun v7 w8 =>
  opnI .i64 (some v7) fun x9 =>
  drw w8 fun w10 =>
  nn (IntKind.wrap .i64 (a0 - x9)) (
  Q (.tuple #[.int .i64 (IntKind.wrap .i64 (a0 - x9)), .int .i64 (IntKind.wrap .i64 ((shrI .i64 (IntKind.wrap .i64 (x6 + 1)) (IntKind.wrap .i64 (a0 - x9))) - 1)), .int .i64 0]) w10)))) :
C_tlog_SplitIndex #[.int .i64 a0] w Q := C_fold K_tlog_SplitIndex (by kernel_rfl) h
/-! ### ledger/tlog.NodeHash -/
noncomputable def B_tlog_NodeHash : Code := match Tryd.f75.body with | some c => c | _ => .skip
noncomputable def X_tlog_NodeHash : Cx := { P := PP, fn := 75, N := 13, tab := tab, results := [.cell 6 29], iter := fun _ => (.none, .none), dyn := fun r => cond (Nat.beq r 9) true (false), live := fun _ => none }
theorem K_tlog_NodeHash : OkF X_tlog_NodeHash B_tlog_NodeHash Tryd.f75 := ⟨⟨tab_ok, mix_ok⟩, Tryd.func75, by kernel_rfl, by kernel_rfl, by kernel_rfl, by kernel_rfl⟩
theorem C_tlog_NodeHash_eq (Q : Value → World → Prop) (a0 : Int) (a1 : Array Value) (a2 : Array Value) (w : World) (h :
  alC a1 29 w fun p1 w2 =>
  alC a2 29 w2 fun p3 w4 =>
  alZ PP 29 w4 fun p5 w6 =>
  drw w6 fun w7 =>
  opnRow w7 p1 (32 * 1) fun x8 =>
  opnRow w7 p3 (32 * 1) fun x9 =>
  C_tlog_hasherOf #[.int .i64 a0] w7 fun v10 w11 =>
  opnG (some v10) fun x12 =>
  x12.size = 4 ∧
  opnI .i64 (x12[0]?) fun x13 =>
  opnV (x12[1]?) fun x14 =>
  opnV (x12[2]?) fun x15 =>
  opnV (x12[3]?) fun x16 =>
  (opnRow w11 p3 (32 * 1) fun x17 =>
  ((.agg x17) : Value) = .agg x9) ∧
  (opnRow w11 p1 (32 * 1) fun x18 =>
  ((.agg x18) : Value) = .agg x8) ∧
  invk PP x16 #[.agg x8, .agg x9] w11 fun v19 w20 =>
  opnG (some v19) fun x21 =>
  stRow p5 x21 (32 * 1) w20 fun w22 =>
  opnRow w22 p5 (32 * 1) fun x23 =>
  Q (.agg x23) w22) :
C_tlog_NodeHash #[.int .i64 a0, .agg a1, .agg a2] w Q := C_fold K_tlog_NodeHash (by kernel_rfl) h
/-! ### ledger/ledgerref10.Of -/
noncomputable def B_r10_Of : Code := match Tryd.f76.body with | some c => c | _ => .skip
noncomputable def X_r10_Of : Cx := { P := PP, fn := 76, N := 52, tab := tab, results := [.cell 4 37, .tmp 5], iter := fun _ => (.none, .none), dyn := fun _ => false, live := fun r => cond (Nat.beq r 2) (some [4]) (cond (Nat.beq r 9) (some [0, 4, 9, 10, 11]) (cond (Nat.beq r 10) (some [4, 11]) (none))) }
theorem K_r10_Of : OkF X_r10_Of B_r10_Of Tryd.f76 := ⟨⟨tab_ok, mix_ok⟩, Tryd.func76, by kernel_rfl, by kernel_rfl, by kernel_rfl, by kernel_rfl⟩
noncomputable def N_r10_Of.j2 (Q : Value → World → Prop) (s4 : Addr) (w : World) : Prop := Nd X_r10_Of Q [(4, 4, .pointer (some s4))] [.code (B_r10_Of.r.l.r.l.l), .code (B_r10_Of.r.l.r.l.r), .code (B_r10_Of.r.r)] w
noncomputable def N_r10_Of.j9 (Q : Value → World → Prop) (s0 : Int) (s4 : Addr) (s9 : Int) (s10 : Int) (s11 : Addr) (w : World) : Prop := Nd X_r10_Of Q [(0, 0, .int .i64 s0), (4, 4, .pointer (some s4)), (9, 9, .int .i64 s9), (10, 10, .int .i64 s10), (11, 11, .pointer (some s11))] [.code (B_r10_Of.r.r.r.r.r.r.r.l), .code (B_r10_Of.r.r.r.r.r.r.r.r)] w
noncomputable def N_r10_Of.j10 (Q : Value → World → Prop) (s4 : Addr) (s11 : Addr) (w : World) : Prop := Nd X_r10_Of Q [(4, 4, .pointer (some s4)), (11, 11, .pointer (some s11))] [.code (B_r10_Of.r.r.r.r.r.r.r.r.l), .code (B_r10_Of.r.r.r.r.r.r.r.r.r)] w
theorem N_r10_Of.j2_eq (Q : Value → World → Prop) (s4 : Addr) (w : World) (h :
  Array.size (#[.int .i64 0, .int .i64 0, .int .i64 0, .int .i64 0, .bool false] : Array Value) = 5 ∧
  stC (s4.add 0) (.int .i64 0) w fun w1 =>
  stC (s4.add 1) (.int .i64 0) w1 fun w2 =>
  stC (s4.add 2) (.int .i64 0) w2 fun w3 =>
  stC (s4.add 3) (.int .i64 0) w3 fun w4 =>
  stC (s4.add 4) (.bool false) w4 fun w5 =>
  opnI .i64 (w5.cell? (s4.add 0)) fun x6 =>
  opnI .i64 (w5.cell? (s4.add 1)) fun x7 =>
  opnI .i64 (w5.cell? (s4.add 2)) fun x8 =>
  opnI .i64 (w5.cell? (s4.add 3)) fun x9 =>
  opnB (w5.cell? (s4.add 4)) fun x10 =>
  Q (.tuple #[.agg #[.int .i64 x6, .int .i64 x7, .int .i64 x8, .int .i64 x9, .bool x10], .int .i64 1]) w5) :
N_r10_Of.j2 Q s4 w := Nd_fold K_r10_Of (by kernel_rfl) h
theorem N_r10_Of.j9_eq (Q : Value → World → Prop) (s0 : Int) (s4 : Addr) (s9 : Int) (s10 : Int) (s11 : Addr) (w : World) (h :
  C_r10_power #[.int .i64 s0] w fun v1 w2 =>
  opnI .i64 (some v1) fun x3 =>
  x3 ≠ (0 : Int) ∧
  stC (s11.add 3) (.int .i64 (IntKind.wrap .i64 ((Int.tmod s10 x3) + s9))) w2 fun w4 =>
  N_r10_Of.j10 Q s4 s11 w4) :
N_r10_Of.j9 Q s0 s4 s9 s10 s11 w := Nd_fold K_r10_Of (by kernel_rfl) h
theorem N_r10_Of.j10_eq (Q : Value → World → Prop) (s4 : Addr) (s11 : Addr) (w : World) (h :
  opnI .i64 (w.cell? (s11.add 0)) fun x1 =>
  opnI .i64 (w.cell? (s11.add 1)) fun x2 =>
  opnI .i64 (w.cell? (s11.add 2)) fun x3 =>
  opnI .i64 (w.cell? (s11.add 3)) fun x4 =>
  opnB (w.cell? (s11.add 4)) fun x5 =>
  Array.size (#[.int .i64 x1, .int .i64 x2, .int .i64 x3, .int .i64 x4, .bool x5] : Array Value) = 5 ∧
  stC (s4.add 0) (.int .i64 x1) w fun w6 =>
  stC (s4.add 1) (.int .i64 x2) w6 fun w7 =>
  stC (s4.add 2) (.int .i64 x3) w7 fun w8 =>
  stC (s4.add 3) (.int .i64 x4) w8 fun w9 =>
  stC (s4.add 4) (.bool x5) w9 fun w10 =>
  opnI .i64 (w10.cell? (s4.add 0)) fun x11 =>
  opnI .i64 (w10.cell? (s4.add 1)) fun x12 =>
  opnI .i64 (w10.cell? (s4.add 2)) fun x13 =>
  opnI .i64 (w10.cell? (s4.add 3)) fun x14 =>
  opnB (w10.cell? (s4.add 4)) fun x15 =>
  Q (.tuple #[.agg #[.int .i64 x11, .int .i64 x12, .int .i64 x13, .int .i64 x14, .bool x15], .int .i64 0]) w10) :
N_r10_Of.j10 Q s4 s11 w := Nd_fold K_r10_Of (by kernel_rfl) h
theorem C_r10_Of_eq (Q : Value → World → Prop) (a0 : Int) (a1 : Int) (w : World) (h :
  alC #[.int .i64 0, .int .i64 0, .int .i64 0, .int .i64 0, .bool false] 37 w fun p1 w2 =>
  cond (decide (a0 < 1))
  (N_r10_Of.j2 Q p1 w2)
  (cond (decide (a0 > 8))
  (N_r10_Of.j2 Q p1 w2)
  (C_r08_SplitIndex #[.int .i64 a1] w2 fun v3 w4 =>
  opnT (some v3) fun x5 =>
  x5.size = 3 ∧
  opnI .i64 (x5[0]?) fun x6 =>
  opnI .i64 (x5[1]?) fun x7 =>
  opnI .i64 (x5[2]?) fun x8 =>
  cond (x8 != 0)
  (Array.size (#[.int .i64 0, .int .i64 0, .int .i64 0, .int .i64 0, .bool false] : Array Value) = 5 ∧
  stC (p1.add 0) (.int .i64 0) w4 fun w9 =>
  stC (p1.add 1) (.int .i64 0) w9 fun w10 =>
  stC (p1.add 2) (.int .i64 0) w10 fun w11 =>
  stC (p1.add 3) (.int .i64 0) w11 fun w12 =>
  stC (p1.add 4) (.bool false) w12 fun w13 =>
  opnI .i64 (w13.cell? (p1.add 0)) fun x14 =>
  opnI .i64 (w13.cell? (p1.add 1)) fun x15 =>
  opnI .i64 (w13.cell? (p1.add 2)) fun x16 =>
  opnI .i64 (w13.cell? (p1.add 3)) fun x17 =>
  opnB (w13.cell? (p1.add 4)) fun x18 =>
  Q (.tuple #[.agg #[.int .i64 x14, .int .i64 x15, .int .i64 x16, .int .i64 x17, .bool x18], .int .i64 1]) w13)
  (a0 ≠ (0 : Int) ∧
  C_r10_power #[.int .i64 (Int.tmod x6 a0)] w4 fun v19 w20 =>
  opnI .i64 (some v19) fun x21 =>
  drw w20 fun w22 =>
  a0 ≠ (0 : Int) ∧
  (C_r10_power #[.int .i64 a0] w22 fun v23 w24 =>
  opnI .i64 (some v23) fun x25 =>
  x25 ≠ (0 : Int) ∧
  alC #[.int .i64 0, .int .i64 0, .int .i64 0, .int .i64 0, .bool false] 37 w24 fun p26 w27 =>
  Array.size (#[.int .i64 a0, .int .i64 (IntKind.wrap .i64 (Int.tdiv x6 a0)), .int .i64 (IntKind.wrap .i64 (Int.tdiv (IntKind.wrap .i64 (x7 * x21)) x25)), .int .i64 0, .bool false] : Array Value) = 5 ∧
  stC (p26.add 0) (.int .i64 a0) w27 fun w28 =>
  stC (p26.add 1) (.int .i64 (IntKind.wrap .i64 (Int.tdiv x6 a0))) w28 fun w29 =>
  stC (p26.add 2) (.int .i64 (IntKind.wrap .i64 (Int.tdiv (IntKind.wrap .i64 (x7 * x21)) x25))) w29 fun w30 =>
  stC (p26.add 3) (.int .i64 0) w30 fun w31 =>
  stC (p26.add 4) (.bool false) w31 fun w32 =>
  N_r10_Of.j9 Q a0 p1 x21 (IntKind.wrap .i64 (x7 * x21)) p26 w32) ∧
  (alC #[.int .i64 0, .int .i64 0, .int .i64 0, .int .i64 0, .bool false] 37 w22 fun p33 w34 =>
  C_r10_power #[.int .i64 a0] w34 fun v35 w36 =>
  opnI .i64 (some v35) fun x37 =>
  x37 ≠ (0 : Int) ∧
  Array.size (#[.int .i64 a0, .int .i64 (IntKind.wrap .i64 (Int.tdiv x6 a0)), .int .i64 (IntKind.wrap .i64 (Int.tdiv (IntKind.wrap .i64 (x7 * x21)) x37)), .int .i64 0, .bool false] : Array Value) = 5 ∧
  stC (p33.add 0) (.int .i64 a0) w36 fun w38 =>
  stC (p33.add 1) (.int .i64 (IntKind.wrap .i64 (Int.tdiv x6 a0))) w38 fun w39 =>
  stC (p33.add 2) (.int .i64 (IntKind.wrap .i64 (Int.tdiv (IntKind.wrap .i64 (x7 * x21)) x37))) w39 fun w40 =>
  stC (p33.add 3) (.int .i64 0) w40 fun w41 =>
  stC (p33.add 4) (.bool false) w41 fun w42 =>
  N_r10_Of.j9 Q a0 p1 x21 (IntKind.wrap .i64 (x7 * x21)) p33 w42))))) :
C_r10_Of #[.int .i64 a0, .int .i64 a1] w Q := C_fold K_r10_Of (by kernel_rfl) h
/-! ### ledger/ledgerref08.SplitIndex -/
noncomputable def B_r08_SplitIndex : Code := match Tryd.f77.body with | some c => c | _ => .skip
noncomputable def X_r08_SplitIndex : Cx := { P := PP, fn := 77, N := 26, tab := tab, results := [.tmp 2, .tmp 3, .tmp 4], iter := fun _ => (.none, .none), dyn := fun _ => false, live := fun r => cond (Nat.beq r 2) (some []) (none) }
theorem K_r08_SplitIndex : OkF X_r08_SplitIndex B_r08_SplitIndex Tryd.f77 := ⟨⟨tab_ok, mix_ok⟩, Tryd.func77, by kernel_rfl, by kernel_rfl, by kernel_rfl, by kernel_rfl⟩
noncomputable def N_r08_SplitIndex.j2 (Q : Value → World → Prop) (w : World) : Prop := Nd X_r08_SplitIndex Q [] [.code (B_r08_SplitIndex.r.l.r.l.l), .code (B_r08_SplitIndex.r.l.r.l.r), .code (B_r08_SplitIndex.r.r)] w
theorem N_r08_SplitIndex.j2_eq (Q : Value → World → Prop) (w : World) (h :
  Q (.tuple #[.int .i64 0, .int .i64 0, .int .i64 1]) w) :
N_r08_SplitIndex.j2 Q w := Nd_fold K_r08_SplitIndex (by kernel_rfl) h
theorem C_r08_SplitIndex_eq (Q : Value → World → Prop) (a0 : Int) (w : World) (h :
  cond (decide (a0 < 0))
  (N_r08_SplitIndex.j2 Q w)
  (cond (decide (a0 ≥ 562949953421311))
  (N_r08_SplitIndex.j2 Q w)
  (C_r08_record #[.int .i64 a0] w fun v1 w2 =>
  opnI .i64 (some v1) fun x3 =>
  C_r08_laid #[.int .i64 x3] w2 fun v4 w5 =>
  opnI .i64 (some v4) fun x6 =>
  drw w5 fun w7 =>
  C_r08_power #[.int .i64 (IntKind.wrap .i64 (a0 - x6))] w7 fun v8 w9 =>
  opnI .i64 (some v8) fun x10 =>
  x10 ≠ (0 : Int) ∧
  Q (.tuple #[.int .i64 (IntKind.wrap .i64 (a0 - x6)), .int .i64 (IntKind.wrap .i64 ((IntKind.wrap .i64 (Int.tdiv (IntKind.wrap .i64 (x3 + 1)) x10)) - 1)), .int .i64 0]) w9))) :
C_r08_SplitIndex #[.int .i64 a0] w Q := C_fold K_r08_SplitIndex (by kernel_rfl) h
end Go.Proofs.YtccjncflbbhldaaDoor
/-! ## ShGb2 -/
set_option maxRecDepth 100000
namespace Go.Proofs.YtccjncflbbhldaaDoor
open Go.Sh
/-! ### ledger/tlog.hasherOf -/
noncomputable def B_tlog_hasherOf : Code := match Tryd.f80.body with | some c => c | _ => .skip
noncomputable def X_tlog_hasherOf : Cx := { P := PP, fn := 80, N := 20, tab := tab, results := [.cell 2 143], iter := fun _ => (.none, .none), dyn := fun _ => false, live := fun r => cond (Nat.beq r 2) (some [1, 2]) (cond (Nat.beq r 3) (some [1, 2]) (cond (Nat.beq r 4) (some [1, 2, 3]) (cond (Nat.beq r 5) (some [1, 2, 3, 4]) (cond (Nat.beq r 6) (some [1, 2, 3, 4, 5]) (none))))) }
theorem K_tlog_hasherOf : OkF X_tlog_hasherOf B_tlog_hasherOf Tryd.f80 := ⟨⟨tab_ok, mix_ok⟩, Tryd.func80, by kernel_rfl, by kernel_rfl, by kernel_rfl, by kernel_rfl⟩
noncomputable def N_tlog_hasherOf.j2 (Q : Value → World → Prop) (s1 : Addr) (s2 : Addr) (w : World) : Prop := Nd X_tlog_hasherOf Q [(1, 1, .pointer (some s1)), (2, 2, .pointer (some s2))] [.code (B_tlog_hasherOf.r.l.r.l), .code (B_tlog_hasherOf.r.r)] w
noncomputable def N_tlog_hasherOf.j3 (Q : Value → World → Prop) (s1 : Addr) (s2 : Addr) (w : World) : Prop := Nd X_tlog_hasherOf Q [(1, 1, .pointer (some s1)), (2, 2, .pointer (some s2))] [.code (B_tlog_hasherOf.r.r.l), .code (B_tlog_hasherOf.r.r.r)] w
noncomputable def N_tlog_hasherOf.j4 (Q : Value → World → Prop) (s1 : Addr) (s2 : Addr) (s3 : Addr) (w : World) : Prop := Nd X_tlog_hasherOf Q [(1, 1, .pointer (some s1)), (2, 2, .pointer (some s2)), (3, 3, .pointer (some s3))] [.code (B_tlog_hasherOf.r.r.r.l), .code (B_tlog_hasherOf.r.r.r.r)] w
noncomputable def N_tlog_hasherOf.j5 (Q : Value → World → Prop) (s1 : Addr) (s2 : Addr) (s3 : Addr) (s4c0 : Addr) (w : World) : Prop := Nd X_tlog_hasherOf Q [(1, 1, .pointer (some s1)), (2, 2, .pointer (some s2)), (3, 3, .pointer (some s3)), (4, 4, .func (.func 109) #[] #[.pointer (some s4c0)])] [.code (B_tlog_hasherOf.r.r.r.r.l), .code (B_tlog_hasherOf.r.r.r.r.r)] w
noncomputable def N_tlog_hasherOf.j6 (Q : Value → World → Prop) (s1 : Addr) (s2 : Addr) (s3 : Addr) (s4c0 : Addr) (s5c0 : Addr) (w : World) : Prop := Nd X_tlog_hasherOf Q [(1, 1, .pointer (some s1)), (2, 2, .pointer (some s2)), (3, 3, .pointer (some s3)), (4, 4, .func (.func 109) #[] #[.pointer (some s4c0)]), (5, 5, .func (.func 110) #[] #[.pointer (some s5c0)])] [.code (B_tlog_hasherOf.r.r.r.r.r.l), .code (B_tlog_hasherOf.r.r.r.r.r.r)] w
theorem N_tlog_hasherOf.j2_eq (Q : Value → World → Prop) (s1 : Addr) (s2 : Addr) (w : World) (h :
  stC s1 (.int .i64 32) w fun w1 =>
  N_tlog_hasherOf.j3 Q s1 s2 w1) :
N_tlog_hasherOf.j2 Q s1 s2 w := Nd_fold K_tlog_hasherOf (by kernel_rfl) h
theorem N_tlog_hasherOf.j3_eq (Q : Value → World → Prop) (s1 : Addr) (s2 : Addr) (w : World) (h :
  alZ PP 140 w fun p1 w2 =>
  stC p1 (.func (.func 107) #[] #[.pointer (some s1)]) w2 fun w3 =>
  N_tlog_hasherOf.j4 Q s1 s2 p1 w3) :
N_tlog_hasherOf.j3 Q s1 s2 w := Nd_fold K_tlog_hasherOf (by kernel_rfl) h
theorem N_tlog_hasherOf.j4_eq (Q : Value → World → Prop) (s1 : Addr) (s2 : Addr) (s3 : Addr) (w : World) (h :
  N_tlog_hasherOf.j5 Q s1 s2 s3 s3 w) :
N_tlog_hasherOf.j4 Q s1 s2 s3 w := Nd_fold K_tlog_hasherOf (by kernel_rfl) h
theorem N_tlog_hasherOf.j5_eq (Q : Value → World → Prop) (s1 : Addr) (s2 : Addr) (s3 : Addr) (s4c0 : Addr) (w : World) (h :
  N_tlog_hasherOf.j6 Q s1 s2 s3 s4c0 s3 w) :
N_tlog_hasherOf.j5 Q s1 s2 s3 s4c0 w := Nd_fold K_tlog_hasherOf (by kernel_rfl) h
theorem N_tlog_hasherOf.j6_eq (Q : Value → World → Prop) (s1 : Addr) (s2 : Addr) (s3 : Addr) (s4c0 : Addr) (s5c0 : Addr) (w : World) (h :
  opnI .i64 (w.cell? s1) fun x1 =>
  opnV (w.cell? s3) fun x2 =>
  semP PP (Instr.build 143 #[(0, .int .i64 x1), (1, x2), (2, .func (.func 109) #[] #[.pointer (some s4c0)]), (3, .func (.func 110) #[] #[.pointer (some s5c0)])]) fun v3 =>
  opnG (some v3) fun x5 =>
  x5.size = 4 ∧
  opnI .i64 (x5[0]?) fun x6 =>
  opnV (x5[1]?) fun x7 =>
  opnV (x5[2]?) fun x8 =>
  opnV (x5[3]?) fun x9 =>
  Array.size (#[.int .i64 x6, x7, x8, x9] : Array Value) = 4 ∧
  stC (s2.add 0) (.int .i64 x6) w fun w10 =>
  stC (s2.add 1) x7 w10 fun w11 =>
  stC (s2.add 2) x8 w11 fun w12 =>
  stC (s2.add 3) x9 w12 fun w13 =>
  opnI .i64 (w13.cell? (s2.add 0)) fun x14 =>
  opnV (w13.cell? (s2.add 1)) fun x15 =>
  opnV (w13.cell? (s2.add 2)) fun x16 =>
  opnV (w13.cell? (s2.add 3)) fun x17 =>
  Q (.agg #[.int .i64 x14, x15, x16, x17]) w13) :
N_tlog_hasherOf.j6 Q s1 s2 s3 s4c0 s5c0 w := Nd_fold K_tlog_hasherOf (by kernel_rfl) h
theorem C_tlog_hasherOf_eq (Q : Value → World → Prop) (a0 : Int) (w : World) (h :
  alC #[.int .i64 a0] 3 w fun p1 w2 =>
  alZ PP 143 w2 fun p3 w4 =>
  opnI .i64 (w4.cell? p1) fun x5 =>
  cond (decide (x5 < 1))
  (N_tlog_hasherOf.j2 Q p1 p3 w4)
  (opnI .i64 (w4.cell? p1) fun x6 =>
  cond (decide (x6 > 31))
  (N_tlog_hasherOf.j2 Q p1 p3 w4)
  (N_tlog_hasherOf.j3 Q p1 p3 w4))) :
C_tlog_hasherOf #[.int .i64 a0] w Q := C_fold K_tlog_hasherOf (by kernel_rfl) h
end Go.Proofs.YtccjncflbbhldaaDoor
/-! ## ShGw0 -/
set_option maxRecDepth 100000
namespace Go.Proofs.YtccjncflbbhldaaDoor
open Go.Sh
/-! ### ledger/ledgerlaw10.TileWidths -/
noncomputable def B_l10_TileWidths : Code := match Tryd.f4.body with | some c => c | _ => .skip
noncomputable def X_l10_TileWidths : Cx := { P := PP, fn := 4, N := 194, tab := tab, results := [.tmp 2], iter := fun _ => (.none, .none), dyn := fun _ => false, live := fun r => cond (Nat.beq r 11) (some []) (cond (Nat.beq r 15) (some []) (cond (Nat.beq r 22) (some [5, 6, 9, 10, 12, 15]) (cond (Nat.beq r 23) (some [5, 6, 9, 10, 12, 15]) (cond (Nat.beq r 24) (some [5, 6, 9, 10, 11, 12, 14, 15]) (cond (Nat.beq r 25) (some [6, 9, 10, 11, 12, 13, 15]) (cond (Nat.beq r 26) (some []) (cond (Nat.beq r 27) (some [6, 10, 12]) (cond (Nat.beq r 28) (some [6, 10]) (cond (Nat.beq r 29) (some [10, 11]) (none)))))))))) }
theorem K_l10_TileWidths : OkF X_l10_TileWidths B_l10_TileWidths Tryd.f4 := ⟨⟨tab_ok, mix_ok⟩, Tryd.func4, by kernel_rfl, by kernel_rfl, by kernel_rfl, by kernel_rfl⟩
noncomputable def N_l10_TileWidths.j11 (Q : Value → World → Prop) (w : World) : Prop := Nd X_l10_TileWidths Q [] [.code (B_l10_TileWidths.r.r.r.r.r.r.r.r.r.l.r.l.l), .code (B_l10_TileWidths.r.r.r.r.r.r.r.r.r.l.r.l.r), .code (B_l10_TileWidths.r.r.r.r.r.r.r.r.r.r)] w
noncomputable def N_l10_TileWidths.j15 (Q : Value → World → Prop) (w : World) : Prop := Nd X_l10_TileWidths Q [] [.code (B_l10_TileWidths.r.r.r.r.r.r.r.r.r.r.r.r.l.r.l.l), .code (B_l10_TileWidths.r.r.r.r.r.r.r.r.r.r.r.r.l.r.l.r), .code (B_l10_TileWidths.r.r.r.r.r.r.r.r.r.r.r.r.r)] w
noncomputable def N_l10_TileWidths.j22 (Q : Value → World → Prop) (s5 : Int) (s6 : Option Addr) (s6n : Nat) (s6c : Nat) (s9 : Int) (s10 : Addr) (s12 : Int) (s15 : Addr) (w : World) : Prop := Nd X_l10_TileWidths Q [(5, 5, .int .i64 s5), (6, 6, .slice s6 s6n s6c), (9, 9, .int .i64 s9), (10, 10, .pointer (some s10)), (12, 12, .int .i64 s12), (15, 15, .pointer (some s15))] [.code (B_l10_TileWidths.r.r.r.r.r.r.r.r.r.r.r.r.r.r.l), .code (B_l10_TileWidths.r.r.r.r.r.r.r.r.r.r.r.r.r.r.r)] w
noncomputable def N_l10_TileWidths.j23 (Q : Value → World → Prop) (s5 : Int) (s6 : Option Addr) (s6n : Nat) (s6c : Nat) (s9 : Int) (s10 : Addr) (s12 : Int) (s15 : Addr) (w : World) : Prop := Nd X_l10_TileWidths Q [(5, 5, .int .i64 s5), (6, 6, .slice s6 s6n s6c), (9, 9, .int .i64 s9), (10, 10, .pointer (some s10)), (12, 12, .int .i64 s12), (15, 15, .pointer (some s15))] [.code (B_l10_TileWidths.r.r.r.r.r.r.r.r.r.r.r.r.r.r.r.l), .code (B_l10_TileWidths.r.r.r.r.r.r.r.r.r.r.r.r.r.r.r.r)] w
noncomputable def N_l10_TileWidths.j24 (Q : Value → World → Prop) (s5 : Int) (s6 : Option Addr) (s6n : Nat) (s6c : Nat) (s9 : Int) (s10 : Addr) (s11 : Int) (s12 : Int) (s14 : Option Addr) (s14n : Nat) (s14c : Nat) (s15 : Addr) (w : World) : Prop := Nd X_l10_TileWidths Q [(5, 5, .int .i64 s5), (6, 6, .slice s6 s6n s6c), (9, 9, .int .i64 s9), (10, 10, .pointer (some s10)), (11, 11, .int .i64 s11), (12, 12, .int .i64 s12), (14, 14, .slice s14 s14n s14c), (15, 15, .pointer (some s15))] [.code (B_l10_TileWidths.r.r.r.r.r.r.r.r.r.r.r.r.r.r.r.r.l), .code (B_l10_TileWidths.r.r.r.r.r.r.r.r.r.r.r.r.r.r.r.r.r)] w
noncomputable def N_l10_TileWidths.j25 (Q : Value → World → Prop) (s6 : Option Addr) (s6n : Nat) (s6c : Nat) (s9 : Int) (s10 : Addr) (s11 : Int) (s12 : Int) (s13 : Int) (s15 : Addr) (w : World) : Prop := Nd X_l10_TileWidths Q [(6, 6, .slice s6 s6n s6c), (9, 9, .int .i64 s9), (10, 10, .pointer (some s10)), (11, 11, .int .i64 s11), (12, 12, .int .i64 s12), (13, 13, .int .i64 s13), (15, 15, .pointer (some s15))] [.code (B_l10_TileWidths.r.r.r.r.r.r.r.r.r.r.r.r.r.r.r.r.r.l.l), .code (B_l10_TileWidths.r.r.r.r.r.r.r.r.r.r.r.r.r.r.r.r.r.l.r), .code (B_l10_TileWidths.r.r.r.r.r.r.r.r.r.r.r.r.r.r.r.r.r.r)] w
noncomputable def N_l10_TileWidths.j26 (Q : Value → World → Prop) (w : World) : Prop := Nd X_l10_TileWidths Q [] [.code (B_l10_TileWidths.r.r.r.r.r.r.r.r.r.r.r.r.r.r.r.r.r.l.r.l.l), .code (B_l10_TileWidths.r.r.r.r.r.r.r.r.r.r.r.r.r.r.r.r.r.l.r.l.r), .code (B_l10_TileWidths.r.r.r.r.r.r.r.r.r.r.r.r.r.r.r.r.r.r)] w
noncomputable def N_l10_TileWidths.j27 (Q : Value → World → Prop) (s6 : Option Addr) (s6n : Nat) (s6c : Nat) (s10 : Addr) (s12 : Int) (w : World) : Prop := Nd X_l10_TileWidths Q [(6, 6, .slice s6 s6n s6c), (10, 10, .pointer (some s10)), (12, 12, .int .i64 s12)] [.code (B_l10_TileWidths.r.r.r.r.r.r.r.r.r.r.r.r.r.r.r.r.r.r.l), .code (B_l10_TileWidths.r.r.r.r.r.r.r.r.r.r.r.r.r.r.r.r.r.r.r)] w
noncomputable def N_l10_TileWidths.j28 (Q : Value → World → Prop) (s6 : Option Addr) (s6n : Nat) (s6c : Nat) (s10 : Addr) (w : World) : Prop := Nd X_l10_TileWidths Q [(6, 6, .slice s6 s6n s6c), (10, 10, .pointer (some s10))] [.code (B_l10_TileWidths.r.r.r.r.r.r.r.r.r.r.r.r.r.r.r.r.r.r.r.l), .code (B_l10_TileWidths.r.r.r.r.r.r.r.r.r.r.r.r.r.r.r.r.r.r.r.r)] w
noncomputable def N_l10_TileWidths.j29 (Q : Value → World → Prop) (s10 : Addr) (s11 : Int) (w : World) : Prop := Nd X_l10_TileWidths Q [(10, 10, .pointer (some s10)), (11, 11, .int .i64 s11)] [.code (B_l10_TileWidths.r.r.r.r.r.r.r.r.r.r.r.r.r.r.r.r.r.r.r.r.l), .code (B_l10_TileWidths.r.r.r.r.r.r.r.r.r.r.r.r.r.r.r.r.r.r.r.r.r)] w
theorem N_l10_TileWidths.j11_eq (Q : Value → World → Prop) (w : World) (h :
  Q (.bool false) w) :
N_l10_TileWidths.j11 Q w := Nd_fold K_l10_TileWidths (by kernel_rfl) h
theorem N_l10_TileWidths.j15_eq (Q : Value → World → Prop) (w : World) (h :
  Q (.bool false) w) :
N_l10_TileWidths.j15 Q w := Nd_fold K_l10_TileWidths (by kernel_rfl) h
theorem N_l10_TileWidths.j22_eq (Q : Value → World → Prop) (s5 : Int) (s6 : Option Addr) (s6n : Nat) (s6c : Nat) (s9 : Int) (s10 : Addr) (s12 : Int) (s15 : Addr) (w : World) (h :
  stC (s10.add 3) (.int .i64 s12) w fun w1 =>
  N_l10_TileWidths.j23 Q s5 s6 s6n s6c s9 s10 s12 s15 w1) :
N_l10_TileWidths.j22 Q s5 s6 s6n s6c s9 s10 s12 s15 w := Nd_fold K_l10_TileWidths (by kernel_rfl) h
theorem N_l10_TileWidths.j23_eq (Q : Value → World → Prop) (s5 : Int) (s6 : Option Addr) (s6n : Nat) (s6c : Nat) (s9 : Int) (s10 : Addr) (s12 : Int) (s15 : Addr) (w : World) (h :
  opnI .i64 (w.cell? (s10.add 0)) fun x1 =>
  opnI .i64 (w.cell? (s10.add 1)) fun x2 =>
  opnI .i64 (w.cell? (s10.add 2)) fun x3 =>
  opnI .i64 (w.cell? (s10.add 3)) fun x4 =>
  opnB (w.cell? (s10.add 4)) fun x5 =>
  C_tile_FromTree #[.slice s6 s6n s6c, .agg #[.int .i64 x1, .int .i64 x2, .int .i64 x3, .int .i64 x4, .bool x5]] w fun v6 w7 =>
  opnT (some v6) fun x8 =>
  x8.size = 2 ∧
  opnL (x8[0]?) fun x9 x9n x9c =>
  opnI .i64 (x8[1]?) fun x10 =>
  N_l10_TileWidths.j24 Q s5 s6 s6n s6c s9 s10 x10 s12 x9 x9n x9c s15 w7) :
N_l10_TileWidths.j23 Q s5 s6 s6n s6c s9 s10 s12 s15 w := Nd_fold K_l10_TileWidths (by kernel_rfl) h
theorem N_l10_TileWidths.j24_eq (Q : Value → World → Prop) (s5 : Int) (s6 : Option Addr) (s6n : Nat) (s6c : Nat) (s9 : Int) (s10 : Addr) (s11 : Int) (s12 : Int) (s14 : Option Addr) (s14n : Nat) (s14c : Nat) (s15 : Addr) (w : World) (h :
  opnI .i64 (w.cell? (s10.add 0)) fun x1 =>
  opnI .i64 (w.cell? (s10.add 1)) fun x2 =>
  opnI .i64 (w.cell? (s10.add 2)) fun x3 =>
  opnI .i64 (w.cell? (s10.add 3)) fun x4 =>
  opnB (w.cell? (s10.add 4)) fun x5 =>
  C_tile_Inside #[.int .i64 s5, .agg #[.int .i64 x1, .int .i64 x2, .int .i64 x3, .int .i64 x4, .bool x5], .slice s14 s14n s14c, .int .i64 s9] w fun v6 w7 =>
  opnT (some v6) fun x8 =>
  x8.size = 2 ∧
  opnG (x8[0]?) fun x9 =>
  opnI .i64 (x8[1]?) fun x10 =>
  stRow s15 x9 (32 * 1) w7 fun w11 =>
  N_l10_TileWidths.j25 Q s6 s6n s6c s9 s10 s11 s12 x10 s15 w11) :
N_l10_TileWidths.j24 Q s5 s6 s6n s6c s9 s10 s11 s12 s14 s14n s14c s15 w := Nd_fold K_l10_TileWidths (by kernel_rfl) h
theorem N_l10_TileWidths.j25_eq (Q : Value → World → Prop) (s6 : Option Addr) (s6n : Nat) (s6c : Nat) (s9 : Int) (s10 : Addr) (s11 : Int) (s12 : Int) (s13 : Int) (s15 : Addr) (w : World) (h :
  drw w fun w1 =>
  C_l10_num #[.int .i64 s11] w1 fun v2 w3 =>
  opnI .i64 (some v2) fun x4 =>
  cond (x4 != 0)
  (N_l10_TileWidths.j26 Q w3)
  (C_l10_num #[.int .i64 s13] w3 fun v5 w6 =>
  opnI .i64 (some v5) fun x7 =>
  cond (x7 != 0)
  (N_l10_TileWidths.j26 Q w6)
  ((0 : Int) ≤ s9 ∧
  s9 < ((s6n : Nat) : Int) ∧
  opnA s6 fun ad8 =>
  opnRow w6 s15 (32 * 1) fun x9 =>
  opnRow w6 (ad8.add (Int.toNat s9 * 32)) (32 * 1) fun x10 =>
  semR PP (do eqGuard .neq 29 (.tmp 164) (.tmp 168) (.agg x9) (.agg x10); binOp .neq 29 (.agg x9) (.agg x10)) w6 fun x11 =>
  opnB (some x11) fun x12 =>
  cond x12
  (N_l10_TileWidths.j26 Q w6)
  (N_l10_TileWidths.j27 Q s6 s6n s6c s10 s12 w6)))) :
N_l10_TileWidths.j25 Q s6 s6n s6c s9 s10 s11 s12 s13 s15 w := Nd_fold K_l10_TileWidths (by kernel_rfl) h
theorem N_l10_TileWidths.j26_eq (Q : Value → World → Prop) (w : World) (h :
  Q (.bool false) w) :
N_l10_TileWidths.j26 Q w := Nd_fold K_l10_TileWidths (by kernel_rfl) h
theorem N_l10_TileWidths.j27_eq (Q : Value → World → Prop) (s6 : Option Addr) (s6n : Nat) (s6c : Nat) (s10 : Addr) (s12 : Int) (w : World) (h :
  stC (s10.add 3) (.int .i64 (IntKind.wrap .i64 (s12 + 1))) w fun w1 =>
  N_l10_TileWidths.j28 Q s6 s6n s6c s10 w1) :
N_l10_TileWidths.j27 Q s6 s6n s6c s10 s12 w := Nd_fold K_l10_TileWidths (by kernel_rfl) h
theorem N_l10_TileWidths.j28_eq (Q : Value → World → Prop) (s6 : Option Addr) (s6n : Nat) (s6c : Nat) (s10 : Addr) (w : World) (h :
  opnI .i64 (w.cell? (s10.add 0)) fun x1 =>
  opnI .i64 (w.cell? (s10.add 1)) fun x2 =>
  opnI .i64 (w.cell? (s10.add 2)) fun x3 =>
  opnI .i64 (w.cell? (s10.add 3)) fun x4 =>
  opnB (w.cell? (s10.add 4)) fun x5 =>
  C_tile_FromTree #[.slice s6 s6n s6c, .agg #[.int .i64 x1, .int .i64 x2, .int .i64 x3, .int .i64 x4, .bool x5]] w fun v6 w7 =>
  opnT (some v6) fun x8 =>
  x8.size = 2 ∧
  opnL (x8[0]?) fun x9 x9n x9c =>
  opnI .i64 (x8[1]?) fun x10 =>
  N_l10_TileWidths.j29 Q s10 x10 w7) :
N_l10_TileWidths.j28 Q s6 s6n s6c s10 w := Nd_fold K_l10_TileWidths (by kernel_rfl) h
theorem N_l10_TileWidths.j29_eq (Q : Value → World → Prop) (s10 : Addr) (s11 : Int) (w : World) (h :
  C_l10_num #[.int .i64 s11] w fun v1 w2 =>
  opnI .i64 (some v1) fun x3 =>
  cond (x3 == 105)
  (Q (.bool true) w2)
  (C_l10_num #[.int .i64 s11] w2 fun v4 w5 =>
  opnI .i64 (some v4) fun x6 =>
  cond (x6 == 101)
  (opnI .i64 (w5.cell? (s10.add 0)) fun x7 =>
  opnI .i64 (w5.cell? (s10.add 1)) fun x8 =>
  opnI .i64 (w5.cell? (s10.add 2)) fun x9 =>
  opnI .i64 (w5.cell? (s10.add 3)) fun x10 =>
  opnB (w5.cell? (s10.add 4)) fun x11 =>
  C_tile_Check #[.agg #[.int .i64 x7, .int .i64 x8, .int .i64 x9, .int .i64 x10, .bool x11]] w5 fun v12 w13 =>
  opnI .i64 (some v12) fun x14 =>
  C_l10_num #[.int .i64 x14] w13 fun v15 w16 =>
  opnI .i64 (some v15) fun x17 =>
  Q (.bool (x17 == 101)) w16)
  (Q (.bool false) w5))) :
N_l10_TileWidths.j29 Q s10 s11 w := Nd_fold K_l10_TileWidths (by kernel_rfl) h
theorem C_l10_TileWidths_eq (Q : Value → World → Prop) (a0_0 : Int) (a0_1 : Int) (a0_2 : Int) (a0_3 : Int) (a0_4 : Option Addr) (a0_4n : Nat) (a0_4c : Nat) (w : World) (h :
  alC #[.int .i64 a0_0, .int .i64 a0_1, .int .i64 a0_2, .int .i64 a0_3, .slice a0_4 a0_4n a0_4c] 53 w fun p1 w2 =>
  opnI .i64 (w2.cell? (p1.add 1)) fun x3 =>
  C_l10_within #[.int .i64 x3, .int .i64 300] w2 fun v4 w5 =>
  opnI .i64 (some v4) fun x6 =>
  opnI .i64 (w5.cell? (p1.add 2)) fun x7 =>
  C_l10_within #[.int .i64 x7, .int .i64 8] w5 fun v8 w9 =>
  opnI .i64 (some v8) fun x10 =>
  opnI .i64 (w9.cell? (p1.add 0)) fun x11 =>
  C_l10_tree #[.int .i64 x11, .int .i64 (IntKind.wrap .i64 (x6 + 1)), .int .u8 3] w9 fun v12 w13 =>
  opnT (some v12) fun x14 =>
  x14.size = 3 ∧
  opnL (x14[0]?) fun x15 x15n x15c =>
  opnG (x14[1]?) fun x16 =>
  opnB (x14[2]?) fun x17 =>
  alZ PP 29 w13 fun p18 w19 =>
  stRow p18 x16 (32 * 1) w19 fun w20 =>
  cond (!x17)
  (Q (.bool false) w20)
  (opnI .i64 (w20.cell? (p1.add 3)) fun x21 =>
  C_l10_within #[.int .i64 x21, .int .i64 ((x15n : Nat) : Int)] w20 fun v22 w23 =>
  opnI .i64 (some v22) fun x24 =>
  C_tile_Of #[.int .i64 (IntKind.wrap .i64 (x10 + 1)), .int .i64 x24] w23 fun v25 w26 =>
  opnT (some v25) fun x27 =>
  x27.size = 2 ∧
  opnG (x27[0]?) fun x28 =>
  x28.size = 5 ∧
  opnI .i64 (x28[0]?) fun x29 =>
  opnI .i64 (x28[1]?) fun x30 =>
  opnI .i64 (x28[2]?) fun x31 =>
  opnI .i64 (x28[3]?) fun x32 =>
  opnB (x28[4]?) fun x33 =>
  opnI .i64 (x27[1]?) fun x34 =>
  alC #[.int .i64 0, .int .i64 0, .int .i64 0, .int .i64 0, .bool false] 24 w26 fun p35 w36 =>
  Array.size (#[.int .i64 x29, .int .i64 x30, .int .i64 x31, .int .i64 x32, .bool x33] : Array Value) = 5 ∧
  stC (p35.add 0) (.int .i64 x29) w36 fun w37 =>
  stC (p35.add 1) (.int .i64 x30) w37 fun w38 =>
  stC (p35.add 2) (.int .i64 x31) w38 fun w39 =>
  stC (p35.add 3) (.int .i64 x32) w39 fun w40 =>
  stC (p35.add 4) (.bool x33) w40 fun w41 =>
  opnI .i64 (w41.cell? (p35.add 1)) fun x42 =>
  opnI .i64 (w41.cell? (p35.add 2)) fun x43 =>
  C_tile_Width #[.int .i64 (IntKind.wrap .i64 (x10 + 1)), .int .i64 x42, .int .i64 x43, .int .i64 (IntKind.wrap .i64 (x6 + 1))] w41 fun v44 w45 =>
  opnT (some v44) fun x46 =>
  x46.size = 2 ∧
  opnI .i64 (x46[0]?) fun x47 =>
  opnI .i64 (x46[1]?) fun x48 =>
  C_l10_num #[.int .i64 x34] w45 fun v49 w50 =>
  opnI .i64 (some v49) fun x51 =>
  cond (x51 != 0)
  (N_l10_TileWidths.j11 Q w50)
  (C_l10_num #[.int .i64 x48] w50 fun v52 w53 =>
  opnI .i64 (some v52) fun x54 =>
  cond (x54 != 0)
  (N_l10_TileWidths.j11 Q w53)
  (opnI .i64 (w53.cell? (p35.add 0)) fun x55 =>
  cond (x55 != (IntKind.wrap .i64 (x10 + 1)))
  (N_l10_TileWidths.j11 Q w53)
  (opnI .i64 (w53.cell? (p35.add 3)) fun x56 =>
  cond (decide (x56 < 1))
  (N_l10_TileWidths.j11 Q w53)
  (opnI .i64 (w53.cell? (p35.add 3)) fun x57 =>
  cond (decide (x57 > x47))
  (N_l10_TileWidths.j11 Q w53)
  (opnB (w53.cell? (p35.add 4)) fun x58 =>
  cond x58
  (N_l10_TileWidths.j11 Q w53)
  (opnI .i64 (w53.cell? (p35.add 0)) fun x59 =>
  opnI .i64 (w53.cell? (p35.add 1)) fun x60 =>
  opnI .i64 (w53.cell? (p35.add 2)) fun x61 =>
  opnI .i64 (w53.cell? (p35.add 3)) fun x62 =>
  opnB (w53.cell? (p35.add 4)) fun x63 =>
  C_tile_FromTree #[.slice x15 x15n x15c, .agg #[.int .i64 x59, .int .i64 x60, .int .i64 x61, .int .i64 x62, .bool x63]] w53 fun v64 w65 =>
  opnT (some v64) fun x66 =>
  x66.size = 2 ∧
  opnL (x66[0]?) fun x67 x67n x67c =>
  opnI .i64 (x66[1]?) fun x68 =>
  opnI .i64 (w65.cell? (p35.add 0)) fun x69 =>
  opnI .i64 (w65.cell? (p35.add 1)) fun x70 =>
  opnI .i64 (w65.cell? (p35.add 2)) fun x71 =>
  opnI .i64 (w65.cell? (p35.add 3)) fun x72 =>
  opnB (w65.cell? (p35.add 4)) fun x73 =>
  C_tile_Inside #[.int .i64 x11, .agg #[.int .i64 x69, .int .i64 x70, .int .i64 x71, .int .i64 x72, .bool x73], .slice x67 x67n x67c, .int .i64 x24] w65 fun v74 w75 =>
  opnT (some v74) fun x76 =>
  x76.size = 2 ∧
  opnG (x76[0]?) fun x77 =>
  opnI .i64 (x76[1]?) fun x78 =>
  alZ PP 29 w75 fun p79 w80 =>
  stRow p79 x77 (32 * 1) w80 fun w81 =>
  drw w81 fun w82 =>
  C_l10_num #[.int .i64 x68] w82 fun v83 w84 =>
  opnI .i64 (some v83) fun x85 =>
  cond (x85 != 0)
  (N_l10_TileWidths.j15 Q w84)
  (C_l10_num #[.int .i64 x78] w84 fun v86 w87 =>
  opnI .i64 (some v86) fun x88 =>
  cond (x88 != 0)
  (N_l10_TileWidths.j15 Q w87)
  ((0 : Int) ≤ x24 ∧
  x24 < ((x15n : Nat) : Int) ∧
  opnA x15 fun ad89 =>
  opnRow w87 p79 (32 * 1) fun x90 =>
  opnRow w87 (ad89.add (Int.toNat x24 * 32)) (32 * 1) fun x91 =>
  semR PP (do eqGuard .neq 29 (.tmp 109) (.tmp 113) (.agg x90) (.agg x91); binOp .neq 29 (.agg x90) (.agg x91)) w87 fun x92 =>
  opnB (some x92) fun x93 =>
  cond x93
  (N_l10_TileWidths.j15 Q w87)
  (opnI .i64 (w87.cell? (p35.add 3)) fun x94 =>
  cond (decide (x94 > 1))
  (opnI .i64 (w87.cell? (p35.add 0)) fun x95 =>
  opnI .i64 (w87.cell? (p35.add 1)) fun x96 =>
  opnI .i64 (w87.cell? (p35.add 2)) fun x97 =>
  opnI .i64 (w87.cell? (p35.add 3)) fun x98 =>
  opnB (w87.cell? (p35.add 4)) fun x99 =>
  alC #[.int .i64 0, .int .i64 0, .int .i64 0, .int .i64 0, .bool false] 24 w87 fun p100 w101 =>
  Array.size (#[.int .i64 x95, .int .i64 x96, .int .i64 x97, .int .i64 x98, .bool x99] : Array Value) = 5 ∧
  stC (p100.add 0) (.int .i64 x95) w101 fun w102 =>
  stC (p100.add 1) (.int .i64 x96) w102 fun w103 =>
  stC (p100.add 2) (.int .i64 x97) w103 fun w104 =>
  stC (p100.add 3) (.int .i64 x98) w104 fun w105 =>
  stC (p100.add 4) (.bool x99) w105 fun w106 =>
  opnI .i64 (w106.cell? (p100.add 3)) fun x107 =>
  stC (p100.add 3) (.int .i64 (IntKind.wrap .i64 (x107 - 1))) w106 fun w108 =>
  drw w108 fun w109 =>
  (0 : Int) ≤ (IntKind.wrap .i64 (((x67n : Nat) : Int) - 32)) ∧
  (IntKind.wrap .i64 (((x67n : Nat) : Int) - 32)) ≤ ((x67c : Nat) : Int) ∧
  opnI .i64 (w109.cell? (p100.add 0)) fun x110 =>
  opnI .i64 (w109.cell? (p100.add 1)) fun x111 =>
  opnI .i64 (w109.cell? (p100.add 2)) fun x112 =>
  opnI .i64 (w109.cell? (p100.add 3)) fun x113 =>
  opnB (w109.cell? (p100.add 4)) fun x114 =>
  C_tile_Inside #[.int .i64 x11, .agg #[.int .i64 x110, .int .i64 x111, .int .i64 x112, .int .i64 x113, .bool x114], .slice (slA x67 0 x67c 1) ((Int.toNat (IntKind.wrap .i64 (((x67n : Nat) : Int) - 32))) - 0) (x67c - 0), .int .i64 x24] w109 fun v115 w116 =>
  opnT (some v115) fun x117 =>
  x117.size = 2 ∧
  opnG (x117[0]?) fun x118 =>
  opnI .i64 (x117[1]?) fun x119 =>
  C_l10_num #[.int .i64 x119] w116 fun v120 w121 =>
  opnI .i64 (some v120) fun x122 =>
  cond (x122 != 105)
  (Q (.bool false) w121)
  (N_l10_TileWidths.j22 Q x11 x15 x15n x15c x24 p35 x47 p79 w121))
  (N_l10_TileWidths.j22 Q x11 x15 x15n x15c x24 p35 x47 p79 w87)))))))))))) :
C_l10_TileWidths #[.agg #[.int .i64 a0_0, .int .i64 a0_1, .int .i64 a0_2, .int .i64 a0_3, .slice a0_4 a0_4n a0_4c]] w Q := C_fold K_l10_TileWidths (by kernel_rfl) h
/-! ### ledger/ledgerlaw10.within -/
noncomputable def B_l10_within : Code := match Tryd.f21.body with | some c => c | _ => .skip
noncomputable def X_l10_within : Cx := { P := PP, fn := 21, N := 12, tab := tab, results := [.tmp 4], iter := fun _ => (.none, .none), dyn := fun _ => false, live := fun _ => none }
theorem K_l10_within : OkF X_l10_within B_l10_within Tryd.f21 := ⟨⟨tab_ok, mix_ok⟩, Tryd.func21, by kernel_rfl, by kernel_rfl, by kernel_rfl, by kernel_rfl⟩
theorem C_l10_within_eq (Q : Value → World → Prop) (a0 : Int) (a1 : Int) (w : World) (h :
  a1 ≠ (0 : Int) ∧
  a1 ≠ (0 : Int) ∧
  Q (.int .i64 (Int.tmod (IntKind.wrap .i64 ((Int.tmod a0 a1) + a1)) a1)) w) :
C_l10_within #[.int .i64 a0, .int .i64 a1] w Q := C_fold K_l10_within (by kernel_rfl) h
/-! ### ledger/ledgerlaw10.tree -/
noncomputable def B_l10_tree : Code := match Tryd.f22.body with | some c => c | _ => .skip
noncomputable def X_l10_tree : Cx := { P := PP, fn := 22, N := 78, tab := tab, results := [.tmp 6, .cell 7 29, .tmp 8], iter := fun _ => (.none, .none), dyn := fun _ => false, live := fun r => cond (Nat.beq r 3) (some [0, 1, 2, 7, 9, 10]) (none) }
theorem K_l10_tree : OkF X_l10_tree B_l10_tree Tryd.f22 := ⟨⟨tab_ok, mix_ok⟩, Tryd.func22, by kernel_rfl, by kernel_rfl, by kernel_rfl, by kernel_rfl⟩
noncomputable def N_l10_tree.j3 (Q : Value → World → Prop) (s0 : Int) (s1 : Int) (s2 : Int) (s7 : Addr) (s9 : Option Addr) (s9n : Nat) (s9c : Nat) (s10 : Int) (w : World) : Prop := Nd X_l10_tree Q [(0, 0, .int .i64 s0), (1, 1, .int .i64 s1), (2, 2, .int .u8 s2), (7, 7, .pointer (some s7)), (9, 9, .slice s9 s9n s9c), (10, 10, .int .i64 s10)] [.code (B_l10_tree.r.r.l.r.l.l.l.l), .code (B_l10_tree.r.r.l.r.l.l.l.r), .code (B_l10_tree.r.r.l.r.l.l.r), .inLoop (B_l10_tree.r.r.l.r.l.l), .inBlock 0, .code (B_l10_tree.r.r.r)] w
theorem N_l10_tree.j3_eq (Q : Value → World → Prop) (s0 : Int) (s1 : Int) (s2 : Int) (s7 : Addr) (s9 : Option Addr) (s9n : Nat) (s9c : Nat) (s10 : Int) (w : World) (h :
  cond (decide (s10 < s1))
  (alC #[.int .u8 (IntKind.wrap .u8 s10), .int .u8 (IntKind.wrap .u8 (shrI .i64 s10 8)), .int .u8 s2] 5 w fun p1 w2 =>
  C_tlog_LeafHash #[.int .i64 s0, .slice (some p1) 3 3] w2 fun v3 w4 =>
  opnG (some v3) fun x5 =>
  x5.size = 32 ∧
  alC x5 29 w4 fun p8 w7 =>
  sem PP (Builtin.append_ #[22, 22] 22 #[.slice s9 s9n s9c, .slice (some p8) 1 1]) w7 fun v9 w10 =>
  opnL (some v9) fun x11 x11n x11c =>
  N_l10_tree.j3 Q s0 s1 s2 s7 x11 x11n x11c (IntKind.wrap .i64 (s10 + 1)) w10)
  (C_tlog_Build #[.int .i64 s0, .slice s9 s9n s9c] w fun v12 w13 =>
  opnT (some v12) fun x14 =>
  x14.size = 2 ∧
  opnL (x14[0]?) fun x15 x15n x15c =>
  opnI .i64 (x14[1]?) fun x16 =>
  C_tlog_Root #[.int .i64 s0, .slice x15 x15n x15c, .int .i64 s1] w13 fun v17 w18 =>
  opnT (some v17) fun x19 =>
  x19.size = 2 ∧
  opnG (x19[0]?) fun x20 =>
  opnI .i64 (x19[1]?) fun x21 =>
  alZ PP 29 w18 fun p22 w23 =>
  stRow p22 x20 (32 * 1) w23 fun w24 =>
  cond (s1 == 0)
  (drw w24 fun w25 =>
  opnRow w25 p22 (32 * 1) fun x26 =>
  C_l10_num #[.int .i64 x16] w25 fun v27 w28 =>
  opnI .i64 (some v27) fun x29 =>
  (opnRow w28 p22 (32 * 1) fun x30 =>
  ((.agg x30) : Value) = .agg x26) ∧
  cond (x29 == 0)
  (C_l10_num #[.int .i64 x21] w28 fun v31 w32 =>
  opnI .i64 (some v31) fun x33 =>
  (opnRow w32 p22 (32 * 1) fun x34 =>
  ((.agg x34) : Value) = .agg x26) ∧
  cond (x33 == 0)
  (stRow s7 x26 (32 * 1) w32 fun w35 =>
  opnRow w35 s7 (32 * 1) fun x36 =>
  Q (.tuple #[.slice x15 x15n x15c, .agg x36, .bool (((x15n : Nat) : Int) == 0)]) w35)
  (stRow s7 x26 (32 * 1) w32 fun w37 =>
  opnRow w37 s7 (32 * 1) fun x38 =>
  Q (.tuple #[.slice x15 x15n x15c, .agg x38, .bool false]) w37))
  (stRow s7 x26 (32 * 1) w28 fun w39 =>
  opnRow w39 s7 (32 * 1) fun x40 =>
  Q (.tuple #[.slice x15 x15n x15c, .agg x40, .bool false]) w39))
  (drw w24 fun w41 =>
  opnRow w41 p22 (32 * 1) fun x42 =>
  C_l10_num #[.int .i64 x16] w41 fun v43 w44 =>
  opnI .i64 (some v43) fun x45 =>
  (opnRow w44 p22 (32 * 1) fun x46 =>
  ((.agg x46) : Value) = .agg x42) ∧
  cond (x45 == 0)
  (C_l10_num #[.int .i64 x21] w44 fun v47 w48 =>
  opnI .i64 (some v47) fun x49 =>
  (opnRow w48 p22 (32 * 1) fun x50 =>
  ((.agg x50) : Value) = .agg x42) ∧
  cond (x49 == 0)
  (stRow s7 x42 (32 * 1) w48 fun w51 =>
  opnRow w51 s7 (32 * 1) fun x52 =>
  Q (.tuple #[.slice x15 x15n x15c, .agg x52, .bool (decide (((x15n : Nat) : Int) ≥ s1))]) w51)
  (stRow s7 x42 (32 * 1) w48 fun w53 =>
  opnRow w53 s7 (32 * 1) fun x54 =>
  Q (.tuple #[.slice x15 x15n x15c, .agg x54, .bool false]) w53))
  (stRow s7 x42 (32 * 1) w44 fun w55 =>
  opnRow w55 s7 (32 * 1) fun x56 =>
  Q (.tuple #[.slice x15 x15n x15c, .agg x56, .bool false]) w55)))) :
N_l10_tree.j3 Q s0 s1 s2 s7 s9 s9n s9c s10 w := Nd_fold K_l10_tree (by kernel_rfl) h
theorem C_l10_tree_eq (Q : Value → World → Prop) (a0 : Int) (a1 : Int) (a2 : Int) (w : World) (h :
  alZ PP 29 w fun p1 w2 =>
  N_l10_tree.j3 Q a0 a1 a2 p1 none 0 0 0 w2) :
C_l10_tree #[.int .i64 a0, .int .i64 a1, .int .u8 a2] w Q := C_fold K_l10_tree (by kernel_rfl) h
/-! ### ledger/tile.Of -/
noncomputable def B_tile_Of : Code := match Tryd.f23.body with | some c => c | _ => .skip
noncomputable def X_tile_Of : Cx := { P := PP, fn := 23, N := 26, tab := tab, results := [.cell 4 24, .tmp 5], iter := fun _ => (.none, .none), dyn := fun _ => false, live := fun r => cond (Nat.beq r 2) (some [4]) (none) }
theorem K_tile_Of : OkF X_tile_Of B_tile_Of Tryd.f23 := ⟨⟨tab_ok, mix_ok⟩, Tryd.func23, by kernel_rfl, by kernel_rfl, by kernel_rfl, by kernel_rfl⟩
noncomputable def N_tile_Of.j2 (Q : Value → World → Prop) (s4 : Addr) (w : World) : Prop := Nd X_tile_Of Q [(4, 4, .pointer (some s4))] [.code (B_tile_Of.r.l.r.l.l), .code (B_tile_Of.r.l.r.l.r), .code (B_tile_Of.r.r)] w
theorem N_tile_Of.j2_eq (Q : Value → World → Prop) (s4 : Addr) (w : World) (h :
  Array.size (#[.int .i64 0, .int .i64 0, .int .i64 0, .int .i64 0, .bool false] : Array Value) = 5 ∧
  stC (s4.add 0) (.int .i64 0) w fun w1 =>
  stC (s4.add 1) (.int .i64 0) w1 fun w2 =>
  stC (s4.add 2) (.int .i64 0) w2 fun w3 =>
  stC (s4.add 3) (.int .i64 0) w3 fun w4 =>
  stC (s4.add 4) (.bool false) w4 fun w5 =>
  opnI .i64 (w5.cell? (s4.add 0)) fun x6 =>
  opnI .i64 (w5.cell? (s4.add 1)) fun x7 =>
  opnI .i64 (w5.cell? (s4.add 2)) fun x8 =>
  opnI .i64 (w5.cell? (s4.add 3)) fun x9 =>
  opnB (w5.cell? (s4.add 4)) fun x10 =>
  Q (.tuple #[.agg #[.int .i64 x6, .int .i64 x7, .int .i64 x8, .int .i64 x9, .bool x10], .int .i64 1]) w5) :
N_tile_Of.j2 Q s4 w := Nd_fold K_tile_Of (by kernel_rfl) h
theorem C_tile_Of_eq (Q : Value → World → Prop) (a0 : Int) (a1 : Int) (w : World) (h :
  alC #[.int .i64 0, .int .i64 0, .int .i64 0, .int .i64 0, .bool false] 24 w fun p1 w2 =>
  cond (decide (a0 < 1))
  (N_tile_Of.j2 Q p1 w2)
  (cond (decide (a0 > 8))
  (N_tile_Of.j2 Q p1 w2)
  (C_tile_seatOf #[.int .i64 a0, .int .i64 a1] w2 fun v3 w4 =>
  opnT (some v3) fun x5 =>
  x5.size = 2 ∧
  opnG (x5[0]?) fun x6 =>
  x6.size = 7 ∧
  opnI .i64 (x6[0]?) fun x7 =>
  opnI .i64 (x6[1]?) fun x8 =>
  opnI .i64 (x6[2]?) fun x9 =>
  opnI .i64 (x6[3]?) fun x10 =>
  opnB (x6[4]?) fun x11 =>
  opnI .i64 (x6[5]?) fun x12 =>
  opnI .i64 (x6[6]?) fun x13 =>
  opnB (x5[1]?) fun x14 =>
  alC #[.int .i64 0, .int .i64 0, .int .i64 0, .int .i64 0, .bool false, .int .i64 0, .int .i64 0] 90 w4 fun p15 w16 =>
  Array.size (#[.int .i64 x7, .int .i64 x8, .int .i64 x9, .int .i64 x10, .bool x11, .int .i64 x12, .int .i64 x13] : Array Value) = 7 ∧
  stC (p15.add 0) (.int .i64 x7) w16 fun w17 =>
  stC (p15.add 1) (.int .i64 x8) w17 fun w18 =>
  stC (p15.add 2) (.int .i64 x9) w18 fun w19 =>
  stC (p15.add 3) (.int .i64 x10) w19 fun w20 =>
  stC (p15.add 4) (.bool x11) w20 fun w21 =>
  stC (p15.add 5) (.int .i64 x12) w21 fun w22 =>
  stC (p15.add 6) (.int .i64 x13) w22 fun w23 =>
  cond (!x14)
  (Array.size (#[.int .i64 0, .int .i64 0, .int .i64 0, .int .i64 0, .bool false] : Array Value) = 5 ∧
  stC (p1.add 0) (.int .i64 0) w23 fun w24 =>
  stC (p1.add 1) (.int .i64 0) w24 fun w25 =>
  stC (p1.add 2) (.int .i64 0) w25 fun w26 =>
  stC (p1.add 3) (.int .i64 0) w26 fun w27 =>
  stC (p1.add 4) (.bool false) w27 fun w28 =>
  opnI .i64 (w28.cell? (p1.add 0)) fun x29 =>
  opnI .i64 (w28.cell? (p1.add 1)) fun x30 =>
  opnI .i64 (w28.cell? (p1.add 2)) fun x31 =>
  opnI .i64 (w28.cell? (p1.add 3)) fun x32 =>
  opnB (w28.cell? (p1.add 4)) fun x33 =>
  Q (.tuple #[.agg #[.int .i64 x29, .int .i64 x30, .int .i64 x31, .int .i64 x32, .bool x33], .int .i64 1]) w28)
  (opnI .i64 (w23.cell? ((p15.add 0).add 0)) fun x34 =>
  opnI .i64 (w23.cell? ((p15.add 0).add 1)) fun x35 =>
  opnI .i64 (w23.cell? ((p15.add 0).add 2)) fun x36 =>
  opnI .i64 (w23.cell? ((p15.add 0).add 3)) fun x37 =>
  opnB (w23.cell? ((p15.add 0).add 4)) fun x38 =>
  Array.size (#[.int .i64 x34, .int .i64 x35, .int .i64 x36, .int .i64 x37, .bool x38] : Array Value) = 5 ∧
  stC (p1.add 0) (.int .i64 x34) w23 fun w39 =>
  stC (p1.add 1) (.int .i64 x35) w39 fun w40 =>
  stC (p1.add 2) (.int .i64 x36) w40 fun w41 =>
  stC (p1.add 3) (.int .i64 x37) w41 fun w42 =>
  stC (p1.add 4) (.bool x38) w42 fun w43 =>
  opnI .i64 (w43.cell? (p1.add 0)) fun x44 =>
  opnI .i64 (w43.cell? (p1.add 1)) fun x45 =>
  opnI .i64 (w43.cell? (p1.add 2)) fun x46 =>
  opnI .i64 (w43.cell? (p1.add 3)) fun x47 =>
  opnB (w43.cell? (p1.add 4)) fun x48 =>
  Q (.tuple #[.agg #[.int .i64 x44, .int .i64 x45, .int .i64 x46, .int .i64 x47, .bool x48], .int .i64 0]) w43)))) :
C_tile_Of #[.int .i64 a0, .int .i64 a1] w Q := C_fold K_tile_Of (by kernel_rfl) h
/-! ### ledger/tile.Width -/
noncomputable def B_tile_Width : Code := match Tryd.f24.body with | some c => c | _ => .skip
noncomputable def X_tile_Width : Cx := { P := PP, fn := 24, N := 27, tab := tab, results := [.tmp 8, .tmp 9], iter := fun _ => (.none, .none), dyn := fun _ => false, live := fun r => cond (Nat.beq r 2) (some []) (none) }
theorem K_tile_Width : OkF X_tile_Width B_tile_Width Tryd.f24 := ⟨⟨tab_ok, mix_ok⟩, Tryd.func24, by kernel_rfl, by kernel_rfl, by kernel_rfl, by kernel_rfl⟩
noncomputable def N_tile_Width.j2 (Q : Value → World → Prop) (w : World) : Prop := Nd X_tile_Width Q [] [.code (B_tile_Width.r.l.r.l.l), .code (B_tile_Width.r.l.r.l.r), .code (B_tile_Width.r.r)] w
theorem N_tile_Width.j2_eq (Q : Value → World → Prop) (w : World) (h :
  Q (.tuple #[.int .i64 0, .int .i64 1]) w) :
N_tile_Width.j2 Q w := Nd_fold K_tile_Width (by kernel_rfl) h
theorem C_tile_Width_eq (Q : Value → World → Prop) (a0 : Int) (a1 : Int) (a2 : Int) (a3 : Int) (w : World) (h :
  C_tile_sizes #[.int .i64 a0, .int .i64 a3] w fun v1 w2 =>
  opnB (some v1) fun x3 =>
  cond (!x3)
  (N_tile_Width.j2 Q w2)
  (cond (decide (a1 < 0))
  (N_tile_Width.j2 Q w2)
  (cond (decide (a2 < 0))
  (N_tile_Width.j2 Q w2)
  (C_tile_widthOf #[.int .i64 a0, .int .i64 a1, .int .i64 a2, .int .i64 a3] w2 fun v4 w5 =>
  opnI .i64 (some v4) fun x6 =>
  Q (.tuple #[.int .i64 x6, .int .i64 0]) w5)))) :
C_tile_Width #[.int .i64 a0, .int .i64 a1, .int .i64 a2, .int .i64 a3] w Q := C_fold K_tile_Width (by kernel_rfl) h
/-! ### ledger/tlog.LeafHash -/
noncomputable def B_tlog_LeafHash : Code := match Tryd.f46.body with | some c => c | _ => .skip
noncomputable def X_tlog_LeafHash : Cx := { P := PP, fn := 46, N := 10, tab := tab, results := [.cell 4 29], iter := fun _ => (.none, .none), dyn := fun r => cond (Nat.beq r 7) true (false), live := fun _ => none }
theorem K_tlog_LeafHash : OkF X_tlog_LeafHash B_tlog_LeafHash Tryd.f46 := ⟨⟨tab_ok, mix_ok⟩, Tryd.func46, by kernel_rfl, by kernel_rfl, by kernel_rfl, by kernel_rfl⟩
theorem C_tlog_LeafHash_eq (Q : Value → World → Prop) (a0 : Int) (a1 : Option Addr) (a1n : Nat) (a1c : Nat) (w : World) (h :
  alZ PP 29 w fun p1 w2 =>
  C_tlog_hasherOf #[.int .i64 a0] w2 fun v3 w4 =>
  opnG (some v3) fun x5 =>
  x5.size = 4 ∧
  opnI .i64 (x5[0]?) fun x6 =>
  opnV (x5[1]?) fun x7 =>
  opnV (x5[2]?) fun x8 =>
  opnV (x5[3]?) fun x9 =>
  invk PP x8 #[.slice a1 a1n a1c] w4 fun v10 w11 =>
  opnG (some v10) fun x12 =>
  stRow p1 x12 (32 * 1) w11 fun w13 =>
  opnRow w13 p1 (32 * 1) fun x14 =>
  Q (.agg x14) w13) :
C_tlog_LeafHash #[.int .i64 a0, .slice a1 a1n a1c] w Q := C_fold K_tlog_LeafHash (by kernel_rfl) h
/-! ### ledger/tlog.Build -/
noncomputable def B_tlog_Build : Code := match Tryd.f47.body with | some c => c | _ => .skip
noncomputable def X_tlog_Build : Cx := { P := PP, fn := 47, N := 28, tab := tab, results := [.tmp 4, .tmp 5], iter := fun _ => (.none, .none), dyn := fun _ => false, live := fun r => cond (Nat.beq r 5) (some [6, 14, 15, 16]) (none) }
theorem K_tlog_Build : OkF X_tlog_Build B_tlog_Build Tryd.f47 := ⟨⟨tab_ok, mix_ok⟩, Tryd.func47, by kernel_rfl, by kernel_rfl, by kernel_rfl, by kernel_rfl⟩
noncomputable def N_tlog_Build.j5 (Q : Value → World → Prop) (s6 : Option Addr) (s14 : Option Addr) (s14n : Nat) (s14c : Nat) (s15 : Int) (s16 : Int) (w : World) : Prop := Nd X_tlog_Build Q [(6, 6, .pointer s6), (14, 14, .slice s14 s14n s14c), (15, 15, .int .i64 s15), (16, 16, .int .i64 s16)] [.code (B_tlog_Build.r.r.r.l.r.l.l.l), .code (B_tlog_Build.r.r.r.l.r.l.l.r), .inLoop (B_tlog_Build.r.r.r.l.r.l.l), .inBlock 0, .code (B_tlog_Build.r.r.r.r)] w
theorem N_tlog_Build.j5_eq (Q : Value → World → Prop) (s6 : Option Addr) (s14 : Option Addr) (s14n : Nat) (s14c : Nat) (s15 : Int) (s16 : Int) (w : World) (h :
  cond (decide (s16 < s15))
  ((0 : Int) ≤ s16 ∧
  s16 < ((s14n : Nat) : Int) ∧
  opnA s14 fun ad1 =>
  opnRow w (ad1.add (Int.toNat s16 * 32)) (32 * 1) fun x2 =>
  alZ PP 29 w fun p3 w4 =>
  stRow p3 x2 (32 * 1) w4 fun w5 =>
  opnRow w5 p3 (32 * 1) fun x6 =>
  C_p_tlog_Tree_Add #[.pointer s6, .agg x6] w5 fun v7 w8 =>
  opnT (some v7) fun x9 =>
  x9.size = 2 ∧
  opnI .i64 (x9[0]?) fun x10 =>
  opnI .i64 (x9[1]?) fun x11 =>
  N_tlog_Build.j5 Q s6 s14 s14n s14c s15 (IntKind.wrap .i64 (s16 + 1)) w8)
  (opnA s6 fun ad12 =>
  opnL (w.cell? (ad12.add 4)) fun x13 x13n x13c =>
  Q (.tuple #[.slice x13 x13n x13c, .int .i64 0]) w)) :
N_tlog_Build.j5 Q s6 s14 s14n s14c s15 s16 w := Nd_fold K_tlog_Build (by kernel_rfl) h
theorem C_tlog_Build_eq (Q : Value → World → Prop) (a0 : Int) (a1 : Option Addr) (a1n : Nat) (a1c : Nat) (w : World) (h :
  cond (decide (((a1n : Nat) : Int) > 65536))
  (Q (.tuple #[.slice none 0 0, .int .i64 2]) w)
  (C_tlog_New #[.int .i64 a0] w fun v1 w2 =>
  opnP (some v1) fun x3 =>
  N_tlog_Build.j5 Q x3 a1 a1n a1c ((a1n : Nat) : Int) 0 w2)) :
C_tlog_Build #[.int .i64 a0, .slice a1 a1n a1c] w Q := C_fold K_tlog_Build (by kernel_rfl) h
/-! ### ledger/tlog.Root -/
noncomputable def B_tlog_Root : Code := match Tryd.f48.body with | some c => c | _ => .skip
noncomputable def X_tlog_Root : Cx := { P := PP, fn := 48, N := 39, tab := tab, results := [.cell 6 29, .tmp 7], iter := fun _ => (.none, .none), dyn := fun _ => false, live := fun r => cond (Nat.beq r 7) (some [6]) (none) }
theorem K_tlog_Root : OkF X_tlog_Root B_tlog_Root Tryd.f48 := ⟨⟨tab_ok, mix_ok⟩, Tryd.func48, by kernel_rfl, by kernel_rfl, by kernel_rfl, by kernel_rfl⟩
noncomputable def N_tlog_Root.j7 (Q : Value → World → Prop) (s6 : Addr) (w : World) : Prop := Nd X_tlog_Root Q [(6, 6, .pointer (some s6))] [.code (B_tlog_Root.r.r.r.r.l.r.l.l), .code (B_tlog_Root.r.r.r.r.l.r.l.r), .code (B_tlog_Root.r.r.r.r.r)] w
theorem N_tlog_Root.j7_eq (Q : Value → World → Prop) (s6 : Addr) (w : World) (h :
  semP PP (Instr.build 29 #[]) fun v1 =>
  opnG (some v1) fun x3 =>
  stRow s6 x3 (32 * 1) w fun w4 =>
  opnRow w4 s6 (32 * 1) fun x5 =>
  Q (.tuple #[.agg x5, .int .i64 1]) w4) :
N_tlog_Root.j7 Q s6 w := Nd_fold K_tlog_Root (by kernel_rfl) h
theorem C_tlog_Root_eq (Q : Value → World → Prop) (a0 : Int) (a1 : Option Addr) (a1n : Nat) (a1c : Nat) (a2 : Int) (w : World) (h :
  alZ PP 29 w fun p1 w2 =>
  cond (decide (((a1n : Nat) : Int) > 131071))
  (semP PP (Instr.build 29 #[]) fun v3 =>
  opnG (some v3) fun x5 =>
  stRow p1 x5 (32 * 1) w2 fun w6 =>
  opnRow w6 p1 (32 * 1) fun x7 =>
  Q (.tuple #[.agg x7, .int .i64 2]) w6)
  (C_tlog_Records #[.int .i64 ((a1n : Nat) : Int)] w2 fun v8 w9 =>
  opnT (some v8) fun x10 =>
  x10.size = 2 ∧
  opnI .i64 (x10[0]?) fun x11 =>
  opnI .i64 (x10[1]?) fun x12 =>
  cond (x12 != 0)
  (semP PP (Instr.build 29 #[]) fun v13 =>
  opnG (some v13) fun x15 =>
  stRow p1 x15 (32 * 1) w9 fun w16 =>
  opnRow w16 p1 (32 * 1) fun x17 =>
  Q (.tuple #[.agg x17, .int .i64 x12]) w16)
  (cond (decide (a2 < 0))
  (N_tlog_Root.j7 Q p1 w9)
  (cond (decide (a2 > x11))
  (N_tlog_Root.j7 Q p1 w9)
  (C_tlog_hasherOf #[.int .i64 a0] w9 fun v18 w19 =>
  opnG (some v18) fun x20 =>
  x20.size = 4 ∧
  opnI .i64 (x20[0]?) fun x21 =>
  opnV (x20[1]?) fun x22 =>
  opnV (x20[2]?) fun x23 =>
  opnV (x20[3]?) fun x24 =>
  C_tlog_peaks #[.int .i64 a2] w19 fun v25 w26 =>
  opnL (some v25) fun x27 x27n x27c =>
  C_tlog_pick #[.slice a1 a1n a1c, .slice x27 x27n x27c] w26 fun v28 w29 =>
  opnL (some v28) fun x30 x30n x30c =>
  C_tlog_hasher_root #[.agg #[.int .i64 x21, x22, x23, x24], .slice x30 x30n x30c] w29 fun v31 w32 =>
  opnG (some v31) fun x33 =>
  stRow p1 x33 (32 * 1) w32 fun w34 =>
  opnRow w34 p1 (32 * 1) fun x35 =>
  Q (.tuple #[.agg x35, .int .i64 0]) w34))))) :
C_tlog_Root #[.int .i64 a0, .slice a1 a1n a1c, .int .i64 a2] w Q := C_fold K_tlog_Root (by kernel_rfl) h
/-! ### ledger/tile.sizes -/
noncomputable def B_tile_sizes : Code := match Tryd.f49.body with | some c => c | _ => .skip
noncomputable def X_tile_sizes : Cx := { P := PP, fn := 49, N := 19, tab := tab, results := [.tmp 4], iter := fun _ => (.none, .none), dyn := fun _ => false, live := fun _ => none }
theorem K_tile_sizes : OkF X_tile_sizes B_tile_sizes Tryd.f49 := ⟨⟨tab_ok, mix_ok⟩, Tryd.func49, by kernel_rfl, by kernel_rfl, by kernel_rfl, by kernel_rfl⟩
theorem C_tile_sizes_eq (Q : Value → World → Prop) (a0 : Int) (a1 : Int) (w : World) (h :
  cond (decide (a0 ≥ 1))
  (cond (decide (a0 ≤ 8))
  (cond (decide (a1 ≥ 0))
  (Q (.bool (decide (a1 ≤ 281474976710656))) w)
  (Q (.bool false) w))
  (Q (.bool false) w))
  (Q (.bool false) w)) :
C_tile_sizes #[.int .i64 a0, .int .i64 a1] w Q := C_fold K_tile_sizes (by kernel_rfl) h
/-! ### ledger/tlog.New -/
noncomputable def B_tlog_New : Code := match Tryd.f81.body with | some c => c | _ => .skip
noncomputable def X_tlog_New : Cx := { P := PP, fn := 81, N := 7, tab := tab, results := [.tmp 2], iter := fun _ => (.none, .none), dyn := fun _ => false, live := fun _ => none }
theorem K_tlog_New : OkF X_tlog_New B_tlog_New Tryd.f81 := ⟨⟨tab_ok, mix_ok⟩, Tryd.func81, by kernel_rfl, by kernel_rfl, by kernel_rfl, by kernel_rfl⟩
theorem C_tlog_New_eq (Q : Value → World → Prop) (a0 : Int) (w : World) (h :
  C_tlog_hasherOf #[.int .i64 a0] w fun v1 w2 =>
  opnG (some v1) fun x3 =>
  x3.size = 4 ∧
  opnI .i64 (x3[0]?) fun x4 =>
  opnV (x3[1]?) fun x5 =>
  opnV (x3[2]?) fun x6 =>
  opnV (x3[3]?) fun x7 =>
  semP PP (Instr.build 149 #[(0, .agg #[.int .i64 x4, x5, x6, x7])]) fun v8 =>
  opnG (some v8) fun x10 =>
  x10.size = 6 ∧
  opnI .i64 (x10[0]?) fun x11 =>
  opnV (x10[1]?) fun x12 =>
  opnV (x10[2]?) fun x13 =>
  opnV (x10[3]?) fun x14 =>
  opnL (x10[4]?) fun x15 x15n x15c =>
  opnI .i64 (x10[5]?) fun x16 =>
  alC #[.int .i64 x11, x12, x13, x14, .slice x15 x15n x15c, .int .i64 x16] 149 w2 fun p17 w18 =>
  Q (.pointer (some p17)) w18) :
C_tlog_New #[.int .i64 a0] w Q := C_fold K_tlog_New (by kernel_rfl) h
/-! ### (*ledger/tlog.Tree).Add -/
noncomputable def B_p_tlog_Tree_Add : Code := match Tryd.f82.body with | some c => c | _ => .skip
noncomputable def X_p_tlog_Tree_Add : Cx := { P := PP, fn := 82, N := 73, tab := tab, results := [.tmp 4, .tmp 5], iter := fun _ => (.none, .none), dyn := fun r => cond (Nat.beq r 42) true (false), live := fun r => cond (Nat.beq r 7) (some [0, 6, 7, 8, 9]) (none) }
theorem K_p_tlog_Tree_Add : OkF X_p_tlog_Tree_Add B_p_tlog_Tree_Add Tryd.f82 := ⟨⟨tab_ok, mix_ok⟩, Tryd.func82, by kernel_rfl, by kernel_rfl, by kernel_rfl, by kernel_rfl⟩
noncomputable def N_p_tlog_Tree_Add.j7 (Q : Value → World → Prop) (s0 : Option Addr) (s6 : Int) (s7 : Addr) (s8 : Int) (s9 : Int) (w : World) : Prop := Nd X_p_tlog_Tree_Add Q [(0, 0, .pointer s0), (6, 6, .int .i64 s6), (7, 7, .pointer (some s7)), (8, 8, .int .i64 s8), (9, 9, .int .i64 s9)] [.code (B_p_tlog_Tree_Add.r.r.r.r.r.l.r.l.l.l.l), .code (B_p_tlog_Tree_Add.r.r.r.r.r.l.r.l.l.l.r), .code (B_p_tlog_Tree_Add.r.r.r.r.r.l.r.l.l.r), .inLoop (B_p_tlog_Tree_Add.r.r.r.r.r.l.r.l.l), .inBlock 0, .code (B_p_tlog_Tree_Add.r.r.r.r.r.r)] w
theorem N_p_tlog_Tree_Add.j7_eq (Q : Value → World → Prop) (s0 : Option Addr) (s6 : Int) (s7 : Addr) (s8 : Int) (s9 : Int) (w : World) (h :
  cond ((bits .and .i64 s9 1) == 1)
  (drw w fun w1 =>
  opnA s0 fun ad2 =>
  opnA s0 fun ad3 =>
  opnV (w1.cell? ((ad2.add 0).add 3)) fun x4 =>
  opnL (w1.cell? (ad3.add 4)) fun x5 x5n x5c =>
  opnRow w1 s7 (32 * 1) fun x6 =>
  C_tlog_place #[.int .i64 s8, .int .i64 (IntKind.wrap .i64 (s9 - 1))] w1 fun v7 w8 =>
  opnI .i64 (some v7) fun x9 =>
  (opnRow w8 s7 (32 * 1) fun x10 =>
  ((.agg x10) : Value) = .agg x6) ∧
  (opnL (w8.cell? (ad3.add 4)) fun x11 x11n x11c =>
  ((.slice x11 x11n x11c) : Value) = .slice x5 x5n x5c) ∧
  (opnV (w8.cell? ((ad2.add 0).add 3)) fun x12 =>
  ((x12) : Value) = x4) ∧
  (0 : Int) ≤ x9 ∧
  x9 < ((x5n : Nat) : Int) ∧
  opnA x5 fun ad13 =>
  opnRow w8 (ad13.add (Int.toNat x9 * 32)) (32 * 1) fun x14 =>
  invk PP x4 #[.agg x14, .agg x6] w8 fun v15 w16 =>
  opnG (some v15) fun x17 =>
  stRow s7 x17 (32 * 1) w16 fun w18 =>
  drw w18 fun w19 =>
  opnA s0 fun ad20 =>
  opnL (w19.cell? (ad20.add 4)) fun x21 x21n x21c =>
  opnRow w19 s7 (32 * 1) fun x22 =>
  x22.size = 32 ∧
  alC x22 29 w19 fun p25 w24 =>
  (opnL (w24.cell? (ad20.add 4)) fun x26 x26n x26c =>
  ((.slice x26 x26n x26c) : Value) = .slice x21 x21n x21c) ∧
  sem PP (Builtin.append_ #[22, 22] 22 #[.slice x21 x21n x21c, .slice (some p25) 1 1]) w24 fun v27 w28 =>
  opnL (some v27) fun x29 x29n x29c =>
  opnA s0 fun ad30 =>
  stC (ad30.add 4) (.slice x29 x29n x29c) w28 fun w31 =>
  N_p_tlog_Tree_Add.j7 Q s0 s6 s7 (IntKind.wrap .i64 (s8 + 1)) (shrI .i64 s9 1) w31)
  (opnA s0 fun ad32 =>
  opnI .i64 (w.cell? (ad32.add 5)) fun x33 =>
  opnA s0 fun ad34 =>
  stC (ad34.add 5) (.int .i64 (IntKind.wrap .i64 (x33 + 1))) w fun w35 =>
  Q (.tuple #[.int .i64 s6, .int .i64 0]) w35)) :
N_p_tlog_Tree_Add.j7 Q s0 s6 s7 s8 s9 w := Nd_fold K_p_tlog_Tree_Add (by kernel_rfl) h
theorem C_p_tlog_Tree_Add_eq (Q : Value → World → Prop) (a0 : Option Addr) (a1 : Array Value) (w : World) (h :
  alC a1 29 w fun p1 w2 =>
  opnA a0 fun ad3 =>
  opnI .i64 (w2.cell? (ad3.add 5)) fun x4 =>
  cond (decide (x4 ≥ 65536))
  (Q (.tuple #[.int .i64 0, .int .i64 2]) w2)
  (opnA a0 fun ad5 =>
  opnI .i64 (w2.cell? (ad5.add 5)) fun x6 =>
  drw w2 fun w7 =>
  opnA a0 fun ad8 =>
  opnL (w7.cell? (ad8.add 4)) fun x9 x9n x9c =>
  opnRow w7 p1 (32 * 1) fun x10 =>
  x10.size = 32 ∧
  alC x10 29 w7 fun p13 w12 =>
  (opnL (w12.cell? (ad8.add 4)) fun x14 x14n x14c =>
  ((.slice x14 x14n x14c) : Value) = .slice x9 x9n x9c) ∧
  sem PP (Builtin.append_ #[22, 22] 22 #[.slice x9 x9n x9c, .slice (some p13) 1 1]) w12 fun v15 w16 =>
  opnL (some v15) fun x17 x17n x17c =>
  opnA a0 fun ad18 =>
  stC (ad18.add 4) (.slice x17 x17n x17c) w16 fun w19 =>
  opnRow w19 p1 (32 * 1) fun x20 =>
  alZ PP 29 w19 fun p21 w22 =>
  stRow p21 x20 (32 * 1) w22 fun w23 =>
  N_p_tlog_Tree_Add.j7 Q a0 x6 p21 0 x6 w23)) :
C_p_tlog_Tree_Add #[.pointer a0, .agg a1] w Q := C_fold K_p_tlog_Tree_Add (by kernel_rfl) h
/-! ### (ledger/tlog.hasher).root -/
noncomputable def B_tlog_hasher_root : Code := match Tryd.f83.body with | some c => c | _ => .skip
noncomputable def X_tlog_hasher_root : Cx := { P := PP, fn := 83, N := 15, tab := tab, results := [.cell 4 29], iter := fun _ => (.none, .none), dyn := fun r => cond (Nat.beq r 9) true (false), live := fun _ => none }
theorem K_tlog_hasher_root : OkF X_tlog_hasher_root B_tlog_hasher_root Tryd.f83 := ⟨⟨tab_ok, mix_ok⟩, Tryd.func83, by kernel_rfl, by kernel_rfl, by kernel_rfl, by kernel_rfl⟩
theorem C_tlog_hasher_root_eq (Q : Value → World → Prop) (a0_0 : Int) (a0_1 : Value) (a0_2 : Value) (a0_3 : Value) (a1 : Option Addr) (a1n : Nat) (a1c : Nat) (w : World) (h :
  alC #[.int .i64 a0_0, a0_1, a0_2, a0_3] 143 w fun p1 w2 =>
  alZ PP 29 w2 fun p3 w4 =>
  cond (((a1n : Nat) : Int) == 0)
  (opnV (w4.cell? (p1.add 1)) fun x5 =>
  invk PP x5 #[.slice none 0 0] w4 fun v6 w7 =>
  opnG (some v6) fun x8 =>
  stRow p3 x8 (32 * 1) w7 fun w9 =>
  opnRow w9 p3 (32 * 1) fun x10 =>
  Q (.agg x10) w9)
  (opnI .i64 (w4.cell? (p1.add 0)) fun x11 =>
  opnV (w4.cell? (p1.add 1)) fun x12 =>
  opnV (w4.cell? (p1.add 2)) fun x13 =>
  opnV (w4.cell? (p1.add 3)) fun x14 =>
  C_tlog_fold #[.slice a1 a1n a1c, .func (.func 112) #[.agg #[.int .i64 x11, x12, x13, x14]] #[]] w4 fun v15 w16 =>
  opnG (some v15) fun x17 =>
  stRow p3 x17 (32 * 1) w16 fun w18 =>
  opnRow w18 p3 (32 * 1) fun x19 =>
  Q (.agg x19) w18)) :
C_tlog_hasher_root #[.agg #[.int .i64 a0_0, a0_1, a0_2, a0_3], .slice a1 a1n a1c] w Q := C_fold K_tlog_hasher_root (by kernel_rfl) h
/-! ### ledger/tlog.pick -/
noncomputable def B_tlog_pick : Code := match Tryd.f84.body with | some c => c | _ => .skip
noncomputable def X_tlog_pick : Cx := { P := PP, fn := 84, N := 27, tab := tab, results := [.tmp 4], iter := fun _ => (.none, .none), dyn := fun _ => false, live := fun r => cond (Nat.beq r 3) (some [0, 5, 11, 12, 13]) (none) }
theorem K_tlog_pick : OkF X_tlog_pick B_tlog_pick Tryd.f84 := ⟨⟨tab_ok, mix_ok⟩, Tryd.func84, by kernel_rfl, by kernel_rfl, by kernel_rfl, by kernel_rfl⟩
noncomputable def N_tlog_pick.j3 (Q : Value → World → Prop) (s0 : Option Addr) (s0n : Nat) (s0c : Nat) (s5 : Option Addr) (s5n : Nat) (s5c : Nat) (s11 : Option Addr) (s11n : Nat) (s11c : Nat) (s12 : Int) (s13 : Int) (w : World) : Prop := Nd X_tlog_pick Q [(0, 0, .slice s0 s0n s0c), (5, 5, .slice s5 s5n s5c), (11, 11, .slice s11 s11n s11c), (12, 12, .int .i64 s12), (13, 13, .int .i64 s13)] [.code (B_tlog_pick.r.r.l.r.l.l.l), .code (B_tlog_pick.r.r.l.r.l.l.r), .inLoop (B_tlog_pick.r.r.l.r.l.l), .inBlock 0, .code (B_tlog_pick.r.r.r)] w
theorem N_tlog_pick.j3_eq (Q : Value → World → Prop) (s0 : Option Addr) (s0n : Nat) (s0c : Nat) (s5 : Option Addr) (s5n : Nat) (s5c : Nat) (s11 : Option Addr) (s11n : Nat) (s11c : Nat) (s12 : Int) (s13 : Int) (w : World) (h :
  cond (decide (s13 < s12))
  ((0 : Int) ≤ s13 ∧
  s13 < ((s11n : Nat) : Int) ∧
  opnA s11 fun ad1 =>
  opnI .i64 (w.cell? (ad1.add (Int.toNat s13 * 1))) fun x2 =>
  (0 : Int) ≤ x2 ∧
  x2 < ((s0n : Nat) : Int) ∧
  opnA s0 fun ad3 =>
  opnRow w (ad3.add (Int.toNat x2 * 32)) (32 * 1) fun x4 =>
  (0 : Int) ≤ s13 ∧
  s13 < ((s5n : Nat) : Int) ∧
  opnA s5 fun ad5 =>
  stRow (ad5.add (Int.toNat s13 * 32)) x4 (32 * 1) w fun w6 =>
  N_tlog_pick.j3 Q s0 s0n s0c s5 s5n s5c s11 s11n s11c s12 (IntKind.wrap .i64 (s13 + 1)) w6)
  (Q (.slice s5 s5n s5c) w)) :
N_tlog_pick.j3 Q s0 s0n s0c s5 s5n s5c s11 s11n s11c s12 s13 w := Nd_fold K_tlog_pick (by kernel_rfl) h
theorem C_tlog_pick_eq (Q : Value → World → Prop) (a0 : Option Addr) (a0n : Nat) (a0c : Nat) (a1 : Option Addr) (a1n : Nat) (a1c : Nat) (w : World) (h :
  sem PP (Instr.makeSlice 22 (.int .i64 ((a1n : Nat) : Int)) (.int .i64 ((a1n : Nat) : Int))) w fun v1 w2 =>
  opnL (some v1) fun x3 x3n x3c =>
  N_tlog_pick.j3 Q a0 a0n a0c x3 x3n x3c a1 a1n a1c ((a1n : Nat) : Int) 0 w2) :
C_tlog_pick #[.slice a0 a0n a0c, .slice a1 a1n a1c] w Q := C_fold K_tlog_pick (by kernel_rfl) h
/-! ### ledger/tlog.peaks -/
noncomputable def B_tlog_peaks : Code := match Tryd.f85.body with | some c => c | _ => .skip
noncomputable def X_tlog_peaks : Cx := { P := PP, fn := 85, N := 32, tab := tab, results := [.tmp 2], iter := fun _ => (.none, .none), dyn := fun _ => false, live := fun r => cond (Nat.beq r 4) (some [0, 3, 4, 5]) (cond (Nat.beq r 5) (some [0, 3, 4, 5]) (none)) }
theorem K_tlog_peaks : OkF X_tlog_peaks B_tlog_peaks Tryd.f85 := ⟨⟨tab_ok, mix_ok⟩, Tryd.func85, by kernel_rfl, by kernel_rfl, by kernel_rfl, by kernel_rfl⟩
noncomputable def N_tlog_peaks.j4 (Q : Value → World → Prop) (s0 : Int) (s3 : Option Addr) (s3n : Nat) (s3c : Nat) (s4 : Int) (s5 : Int) (w : World) : Prop := Nd X_tlog_peaks Q [(0, 0, .int .i64 s0), (3, 3, .slice s3 s3n s3c), (4, 4, .int .i64 s4), (5, 5, .int .i64 s5)] [.code (B_tlog_peaks.r.r.r.l.r.l.l.l.l), .code (B_tlog_peaks.r.r.r.l.r.l.l.l.r), .code (B_tlog_peaks.r.r.r.l.r.l.l.r), .inLoop (B_tlog_peaks.r.r.r.l.r.l.l), .inBlock 0, .code (B_tlog_peaks.r.r.r.r)] w
noncomputable def N_tlog_peaks.j5 (Q : Value → World → Prop) (s0 : Int) (s3 : Option Addr) (s3n : Nat) (s3c : Nat) (s4 : Int) (s5 : Int) (w : World) : Prop := Nd X_tlog_peaks Q [(0, 0, .int .i64 s0), (3, 3, .slice s3 s3n s3c), (4, 4, .int .i64 s4), (5, 5, .int .i64 s5)] [.code (B_tlog_peaks.r.r.r.l.r.l.l.r.r), .inLoop (B_tlog_peaks.r.r.r.l.r.l.l), .inBlock 0, .code (B_tlog_peaks.r.r.r.r)] w
theorem N_tlog_peaks.j4_eq (Q : Value → World → Prop) (s0 : Int) (s3 : Option Addr) (s3n : Nat) (s3c : Nat) (s4 : Int) (s5 : Int) (w : World) (h :
  cond (decide (s5 ≥ 0))
  (nn s5 (
  cond ((bits .and .i64 (shrI .i64 s0 s5) 1) == 1)
  (nn s5 (
  C_tlog_place #[.int .i64 s5, .int .i64 (shrI .i64 s4 s5)] w fun v1 w2 =>
  opnI .i64 (some v1) fun x3 =>
  alC #[.int .i64 x3] 2 w2 fun p4 w5 =>
  sem PP (Builtin.append_ #[51, 51] 51 #[.slice s3 s3n s3c, .slice (some p4) 1 1]) w5 fun v6 w7 =>
  opnL (some v6) fun x8 x8n x8c =>
  nn s5 (
  N_tlog_peaks.j5 Q s0 x8 x8n x8c (IntKind.wrap .i64 (s4 + (shlI .i64 1 s5))) s5 w7)))
  (N_tlog_peaks.j5 Q s0 s3 s3n s3c s4 s5 w)))
  (Q (.slice s3 s3n s3c) w)) :
N_tlog_peaks.j4 Q s0 s3 s3n s3c s4 s5 w := Nd_fold K_tlog_peaks (by kernel_rfl) h
theorem N_tlog_peaks.j5_eq (Q : Value → World → Prop) (s0 : Int) (s3 : Option Addr) (s3n : Nat) (s3c : Nat) (s4 : Int) (s5 : Int) (w : World) (h :
  N_tlog_peaks.j4 Q s0 s3 s3n s3c s4 (IntKind.wrap .i64 (s5 - 1)) w) :
N_tlog_peaks.j5 Q s0 s3 s3n s3c s4 s5 w := Nd_fold K_tlog_peaks (by kernel_rfl) h
theorem C_tlog_peaks_eq (Q : Value → World → Prop) (a0 : Int) (w : World) (h :
  C_math_bits_OnesCount64 #[.int .u64 (IntKind.wrap .u64 a0)] w fun v1 w2 =>
  opnI .i64 (some v1) fun x3 =>
  sem PP (Instr.makeSlice 51 (.int .i64 0) (.int .i64 x3)) w2 fun v4 w5 =>
  opnL (some v4) fun x6 x6n x6c =>
  N_tlog_peaks.j4 Q a0 x6 x6n x6c 0 48 w5) :
C_tlog_peaks #[.int .i64 a0] w Q := C_fold K_tlog_peaks (by kernel_rfl) h
/-! ### ledger/tlog.fold -/
noncomputable def B_tlog_fold : Code := match Tryd.f111.body with | some c => c | _ => .skip
noncomputable def X_tlog_fold : Cx := { P := PP, fn := 111, N := 29, tab := tab, results := [.cell 4 29], iter := fun _ => (.none, .none), dyn := fun r => cond (Nat.beq r 21) true (false), live := fun r => cond (Nat.beq r 4) (some [0, 1, 4, 6, 7]) (none) }
theorem K_tlog_fold : OkF X_tlog_fold B_tlog_fold Tryd.f111 := ⟨⟨tab_ok, mix_ok⟩, Tryd.func111, by kernel_rfl, by kernel_rfl, by kernel_rfl, by kernel_rfl⟩
noncomputable def N_tlog_fold.j4 (Q : Value → World → Prop) (s0 : Option Addr) (s0n : Nat) (s0c : Nat) (s1 : Value) (s4 : Addr) (s6 : Addr) (s7 : Int) (w : World) : Prop := Nd X_tlog_fold Q [(0, 0, .slice s0 s0n s0c), (1, 1, s1), (4, 4, .pointer (some s4)), (6, 6, .pointer (some s6)), (7, 7, .int .i64 s7)] [.code (B_tlog_fold.r.r.r.l.r.l.l.l.l), .code (B_tlog_fold.r.r.r.l.r.l.l.l.r), .code (B_tlog_fold.r.r.r.l.r.l.l.r), .inLoop (B_tlog_fold.r.r.r.l.r.l.l), .inBlock 0, .code (B_tlog_fold.r.r.r.r)] w
theorem N_tlog_fold.j4_eq (Q : Value → World → Prop) (s0 : Option Addr) (s0n : Nat) (s0c : Nat) (s1 : Value) (s4 : Addr) (s6 : Addr) (s7 : Int) (w : World) (h :
  cond (decide (s7 ≥ 0))
  (drw w fun w1 =>
  (0 : Int) ≤ s7 ∧
  s7 < ((s0n : Nat) : Int) ∧
  opnA s0 fun ad2 =>
  opnRow w1 (ad2.add (Int.toNat s7 * 32)) (32 * 1) fun x3 =>
  opnRow w1 s6 (32 * 1) fun x4 =>
  invk PP s1 #[.agg x3, .agg x4] w1 fun v5 w6 =>
  opnG (some v5) fun x7 =>
  stRow s6 x7 (32 * 1) w6 fun w8 =>
  N_tlog_fold.j4 Q s0 s0n s0c s1 s4 s6 (IntKind.wrap .i64 (s7 - 1)) w8)
  (opnRow w s6 (32 * 1) fun x9 =>
  stRow s4 x9 (32 * 1) w fun w10 =>
  opnRow w10 s4 (32 * 1) fun x11 =>
  Q (.agg x11) w10)) :
N_tlog_fold.j4 Q s0 s0n s0c s1 s4 s6 s7 w := Nd_fold K_tlog_fold (by kernel_rfl) h
theorem C_tlog_fold_eq (Q : Value → World → Prop) (a0 : Option Addr) (a0n : Nat) (a0c : Nat) (a1 : Value) (w : World) (h :
  alZ PP 29 w fun p1 w2 =>
  (0 : Int) ≤ IntKind.wrap .i64 (((a0n : Nat) : Int) - 1) ∧
  (IntKind.wrap .i64 (((a0n : Nat) : Int) - 1)) < ((a0n : Nat) : Int) ∧
  opnA a0 fun ad3 =>
  opnRow w2 (ad3.add (Int.toNat (IntKind.wrap .i64 (((a0n : Nat) : Int) - 1)) * 32)) (32 * 1) fun x4 =>
  alZ PP 29 w2 fun p5 w6 =>
  stRow p5 x4 (32 * 1) w6 fun w7 =>
  N_tlog_fold.j4 Q a0 a0n a0c a1 p1 p5 (IntKind.wrap .i64 ((IntKind.wrap .i64 (((a0n : Nat) : Int) - 1)) - 1)) w7) :
C_tlog_fold #[.slice a0 a0n a0c, a1] w Q := C_fold K_tlog_fold (by kernel_rfl) h
end Go.Proofs.YtccjncflbbhldaaDoor
/-! ## Hash -/
set_option maxRecDepth 10000
namespace Go.Proofs.YtccjncflbbhldaaDoor
open Go.Sh Go.RowKit

/-- so many bytes are kept -/
def keepK (k : Int) : Nat := if 1 ≤ k ∧ k ≤ 31 then k.toNat else 32
def weakB (k : Int) (h : List UInt8) : List UInt8 := h.take (keepK k) ++ List.replicate (32 - keepK k) 0
def nodeV (k : Int) (l r : List UInt8) : List UInt8 := weakB k (sha256 (1 :: (l ++ r)))
def leafV (k : Int) (d : List UInt8) : List UInt8 := weakB k (sha256 (0 :: d))
def emptyV (k : Int) : List UInt8 := weakB k (sha256 [])
theorem keepK_le (k : Int) : keepK k ≤ 32 := by unfold keepK; split <;> omega
theorem weakB_len (k : Int) {h : List UInt8} (hl : h.length = 32) : (weakB k h).length = 32 := by
  have := keepK_le k
  rw [weakB, List.length_append, List.length_take, List.length_replicate]; omega
theorem nodeV_len (k : Int) (l r : List UInt8) : (nodeV k l r).length = 32 := weakB_len k (sha256_len _)
theorem leafV_len (k : Int) (d : List UInt8) : (leafV k d).length = 32 := weakB_len k (sha256_len _)
theorem emptyV_len (k : Int) : (emptyV k).length = 32 := weakB_len k (sha256_len _)
abbrev hv (h : List UInt8) : Value := .agg (bvs h).toArray
def fOf (b1 : Nat) : Value := .func (.func 107) #[] #[.pointer (some ⟨b1, 0, none⟩)]
def fLeaf (b3 : Nat) : Value := .func (.func 109) #[] #[.pointer (some ⟨b3, 0, none⟩)]
def fNode (b3 : Nat) : Value := .func (.func 110) #[] #[.pointer (some ⟨b3, 0, none⟩)]
/-- what a hasher's functions lean on -/
structure Hs (w : World) (k : Int) (b1 b3 : Nat) : Prop where
  k : Blk w b1 3 [.int .i64 ((keepK k : Nat) : Int)]
  f : Blk w b3 140 [fOf b1]
theorem Hs.chg {D : Nat → Prop} {w w' : World} {k : Int} {b1 b3 : Nat} (h : Hs w k b1 b3) (c : Chg D w w') (h1 : ¬ D b1) (h3 : ¬ D b3) : Hs w' k b1 b3 := ⟨h.k.chg c h1, h.f.chg c h3⟩
theorem Hs.chg0 {w w' : World} {k : Int} {b1 b3 : Nat} (h : Hs w k b1 b3) (c : Chg None w w') : Hs w' k b1 b3 := h.chg c (fun h => h) (fun h => h)
def hasherV (k : Int) (b1 b3 : Nat) : Value := .agg #[.int .i64 ((keepK k : Nat) : Int), fOf b1, fLeaf b3, fNode b3]
theorem zero140 : ((PP.info? 140).bind (·.zero)).map (·.cells) = some #[Value.nilFunc] := by kernel_rfl
theorem zero143 : ((PP.info? 143).bind (·.zero)).map (·.cells) = some #[Value.int .i64 0, .nilFunc, .nilFunc, .nilFunc] := by kernel_rfl
theorem run143 (k : Int) (b1 b3 : Nat) (w : World) : (Instr.build 143 #[(0, .int .i64 k), (1, fOf b1), (2, .func (.func 109) #[] #[.pointer (some ⟨b3, 0, none⟩)]), (3, .func (.func 110) #[] #[.pointer (some ⟨b3, 0, none⟩)])]).run PP w = .ok (.agg #[.int .i64 k, fOf b1, fLeaf b3, fNode b3]) w := run_build w 143 _ _ (by kernel_rfl)
theorem build143 {k : Int} {b1 b3 : Nat} {K : Value → Prop} : semP PP (Instr.build 143 #[(0, .int .i64 k), (1, fOf b1), (2, .func (.func 109) #[] #[.pointer (some ⟨b3, 0, none⟩)]), (3, .func (.func 110) #[] #[.pointer (some ⟨b3, 0, none⟩)])]) K = K (.agg #[.int .i64 k, fOf b1, fLeaf b3, fNode b3]) := by
  unfold semP
  rw [run143]
section
variable {Q : Value → World → Prop} {w : World}
theorem hasher_word {k : Int} (hQ : ∀ b1 b3 w', Hs w' k b1 b3 → w.heap.size ≤ b1 → w.heap.size ≤ b3 → Chg None w w' → Q (hasherV k b1 b3) w') : C_tlog_hasherOf #[.int .i64 k] w Q := by
  refine C_tlog_hasherOf_eq _ _ _ ?_
  refine alC_box fun b1 w1 hb1 k1 hlo1 => ?_
  refine alZ_box zero143 fun b2 w2 hb2 k2 hlo2 => ?_
  have hb1' : Blk w2 b1 3 [.int .i64 k] := hb1.chg k2 (fun h => h)
  have h12 : b1 ≠ b2 := fun e => by have := hb1.lt; omega
  have k02 := k1.none_trans k2
  -- the end
  have fin : ∀ w3, Blk w3 b1 3 [.int .i64 ((keepK k : Nat) : Int)] → Blk w3 b2 143 [.int .i64 0, .nilFunc, .nilFunc, .nilFunc] → Chg None w w3 → N_tlog_hasherOf.j3 Q ⟨b1, 0, none⟩ ⟨b2, 0, none⟩ w3 := by
    intro w3 h1 h2 k3
    refine N_tlog_hasherOf.j3_eq (h := ?_)
    refine alZ_box zero140 fun b3 w4 hb3 k4 hlo4 => ?_
    rw [← add_zero (⟨b3, 0, none⟩ : Addr)]
    refine box_set hb3 (j := 0) (by decide) rfl fun w5 hb5 k5 => ?_
    rw [add_zero]
    refine N_tlog_hasherOf.j4_eq (h := N_tlog_hasherOf.j5_eq (h := N_tlog_hasherOf.j6_eq (h := ?_)))
    have hb5' : Blk w5 b3 140 [fOf b1] := hb5
    have n1 : b1 ≠ b3 := fun e => by have := h1.lt; omega
    have n2 : b2 ≠ b3 := fun e => by have := h2.lt; omega
    have h15 := (h1.chg k4 (fun h => h)).chg k5 n1
    have h25 := (h2.chg k4 (fun h => h)).chg k5 n2
    refine opnI_c (by have := h15.rd 0 rfl; rwa [add_zero] at this) (opnV_c (v := fOf b1) (by have := hb5'.rd 0 rfl; rwa [add_zero] at this) ?_)
    rw [build143, opnG_s]
    refine ⟨rfl, opnI_c rfl (opnV_c rfl (opnV_c rfl (opnV_c rfl ⟨rfl, ?_⟩)))⟩
    refine box4 h25 rfl rfl fun w6 hb6 k6 => ?_
    refine opnI_c (hb6.rd 0 rfl) (opnV_c (hb6.rd 1 rfl) (opnV_c (hb6.rd 2 rfl) (opnV_c (hb6.rd 3 rfl) ?_)))
    have k35 : Chg None w3 w5 := Chg.fresh k4 k5 fun x hx => by rw [hx]; exact hlo4
    have k06 : Chg None w w6 := Chg.fresh (k3.none_trans k35) k6 fun x hx => by rw [hx]; exact Nat.le_trans k1.size hlo2
    exact hQ b1 b3 w6 ⟨h15.chg k6 h12, hb5'.chg k6 (fun e => n2 e.symm)⟩ hlo1 (Nat.le_trans k3.size hlo4) k06
  have big : ¬ (1 ≤ k ∧ k ≤ 31) → N_tlog_hasherOf.j2 Q ⟨b1, 0, none⟩ ⟨b2, 0, none⟩ w2 := by
    intro hk
    refine N_tlog_hasherOf.j2_eq (h := ?_)
    rw [← add_zero (⟨b1, 0, none⟩ : Addr)]
    refine box_set hb1' (j := 0) (show 0 < 1 by decide) rfl fun w3 hb3 k3 => ?_
    rw [add_zero]
    refine fin w3 ?_ (hb2.chg k3 (fun e => h12 e.symm)) (Chg.fresh k02 k3 fun x hx => by rw [hx]; exact hlo1)
    have : keepK k = 32 := by unfold keepK; rw [if_neg hk]
    rw [this]
    exact hb3
  have hk1 : w2.cell? ⟨b1, 0, none⟩ = some (.int .i64 k) := by have := hb1'.rd 0 rfl; rwa [add_zero] at this
  refine opnI_c hk1 ?_
  by_cases g1 : k < 1
  · exact c_lt g1 (big (by omega))
  refine c_nlt (by omega) (opnI_c hk1 ?_)
  by_cases g2 : k > 31
  · exact c_gt g2 (big (by omega))
  refine c_ngt (by omega) (fin w2 ?_ hb2 k02)
  have : ((keepK k : Nat) : Int) = k := by unfold keepK; rw [if_pos (by omega)]; omega
  rw [this]
  exact hb1'
/-- the hash of bytes, so much of it as is kept -/
theorem of_word {k : Int} {b1 b3 c : Nat} {a : Option Addr} {p : List UInt8} {S : Nat → Prop} (st : ShaStd w) (H : Hs w k b1 b3) (hp : Lies w S a (bvs p)) (hc : p.length ≤ c) (hpl : p.length ≤ 281474976710656) (hQ : ∀ w', Chg None w w' → Q (hv (weakB k (sha256 p))) w') : C_tlog_hasherOf_S1 #[.slice a p.length c, .pointer (some ⟨b1, 0, none⟩)] w Q := by
  refine C_tlog_hasherOf_S1_eq _ _ _ _ _ _ ?_
  refine alZ_box zero29 fun p1 w1 hb1 k1 hlo1 => ?_
  refine sha_word (st.chg0 k1) (hp.chg0 k1) hc hpl fun w2 k2 => ?_
  rw [opnG_s]
  refine alZ_box zero29 fun p6 w3 hb6 k3 hlo6 => ?_
  have hl : (bvs (sha256 p)).length = 32 := by rw [bvs_len, sha256_len]
  refine Blk.stAll hb6 ?_ ?_ ?_ fun w4 hb4 k4 => ?_
  · exact hl
  · exact hl
  · rw [List.all_eq_true]; exact bvs_one
  have k04 : Chg None w w4 := Chg.fresh (k1.none_trans (k2.none_trans k3)) k4 fun x hx => by
    have := (k1.none_trans k2).size
    rw [hx]; omega
  have hk4 := H.k.chg k04 (fun h => h)
  refine opnI_c (by have := hk4.rd 0 rfl; rwa [add_zero] at this) ⟨by omega, by have := keepK_le k; omega, ?_⟩
  rw [Int.toNat_natCast]
  have hkl := keepK_le k
  have n16 : p1 ≠ p6 := fun e => by
    have h1 := hb1.lt
    have h2 := k2.size
    omega
  have hb4' : Blk w4 p6 29 (bvs (sha256 p)) := hb4
  have addr : slP (⟨p6, 0, none⟩ : Addr) (keepK k) 32 1 = some ⟨p6, if 32 = keepK k then 0 else keepK k, none⟩ := by
    unfold slP
    split
    · rfl
    · rw [Nat.mul_one, add_at, Nat.zero_add]
  have go : ∀ w5, Blk w5 p6 29 (bvs (weakB k (sha256 p))) → Chg (fun k => k = p6) w4 w5 → (opnRow w5 ⟨p6, 0, none⟩ (32 * 1) fun x12 => stRow ⟨p1, 0, none⟩ x12 (32 * 1) w5 fun w13 => opnRow w13 ⟨p1, 0, none⟩ (32 * 1) fun x14 => Q (.agg x14) w13) := by
    intro w5 hb5 k5
    have hl5 : (bvs (weakB k (sha256 p))).length = 32 := by rw [bvs_len, weakB_len k (sha256_len _)]
    refine Blk.rowAll hb5 (n := 32) hl5 ?_
    have hb15 := (((hb1.chg k2 (fun h => h)).chg k3 (fun h => h)).chg k4 n16).chg k5 n16
    refine Blk.stAll hb15 ?_ ?_ ?_ fun w6 hb6' k6 => ?_
    · exact hl5
    · exact hl5
    · rw [List.all_eq_true]; exact bvs_one
    refine Blk.rowAll hb6' (n := 32) hl5 ?_
    refine hQ w6 (Chg.fresh (Chg.fresh k04 k5 fun x hx => ?_) k6 fun x hx => ?_)
    · have := (k1.none_trans k2).size
      rw [hx]; omega
    · rw [hx]; exact hlo1
  rw [addr]
  by_cases g : 32 = keepK k
  · rw [if_pos g]
    refine clear_seg V25 Tryd.zeroValue5 rfl rfl hb4' (o := 0) (n := 32 - keepK k) (by omega) fun w5 hb5 k5 => go w5 ?_ k5
    have : weakB k (sha256 p) = sha256 p := by
      unfold weakB
      rw [← g, List.take_of_length_le (by rw [sha256_len]; exact Nat.le_refl _)]; simp
    rw [this]
    rw [← g] at hb5
    simpa using hb5
  · rw [if_neg g]
    refine clear_seg V25 Tryd.zeroValue5 rfl rfl hb4' (o := keepK k) (n := 32 - keepK k) (by omega) fun w5 hb5 k5 => go w5 ?_ k5
    have e : bvs (weakB k (sha256 p)) = (bvs (sha256 p)).take (keepK k) ++ List.replicate (32 - keepK k) (.int .u8 0) ++ (bvs (sha256 p)).drop (keepK k + (32 - keepK k)) := by
      rw [List.drop_eq_nil_of_le (by omega), List.append_nil, weakB, bvs_app, bvs, List.map_take]
      congr 1
      simp [bvs, bv]
    rw [e]
    exact hb5
theorem P_inv107 {b1 : Nat} {x : Value} {K : Value → World → Prop} : invk PP (fOf b1) #[x] w K = C_tlog_hasherOf_S1 #[x, .pointer (some ⟨b1, 0, none⟩)] w K := rfl
theorem P_inv109 {b3 : Nat} {x : Value} {K : Value → World → Prop} : invk PP (fLeaf b3) #[x] w K = C_tlog_hasherOf_S2 #[x, .pointer (some ⟨b3, 0, none⟩)] w K := rfl
theorem P_inv110 {b3 : Nat} {x y : Value} {K : Value → World → Prop} : invk PP (fNode b3) #[x, y] w K = C_tlog_hasherOf_S3 #[x, y, .pointer (some ⟨b3, 0, none⟩)] w K := rfl
/-- the node of two -/
theorem nodef_word {k : Int} {b1 b3 : Nat} {l r : List UInt8} (st : ShaStd w) (H : Hs w k b1 b3) (hl : l.length = 32) (hr : r.length = 32) (hQ : ∀ w', Chg None w w' → Q (hv (nodeV k l r)) w') : C_tlog_hasherOf_S3 #[hv l, hv r, .pointer (some ⟨b3, 0, none⟩)] w Q := by
  refine C_tlog_hasherOf_S3_eq _ _ _ _ _ ?_
  refine alC_box fun p1 w1 h1 k1 lo1 => ?_
  refine alC_box fun p3 w2 h3 k2 lo3 => ?_
  refine alZ_box zero29 fun p5 w3 h5 k3 lo5 => ?_
  rw [show (65 : Int) = ((65 : Nat) : Int) from rfl]
  refine make_empty T25 (c := 65) (by decide) (by decide) fun bt w4 o4 k4 lo4 => ?_
  rw [opnL_s]
  have h1' : Blk w3 p1 29 (bvs l) := (h1.chg k2 (fun h => h)).chg k3 (fun h => h)
  have h3' : Blk w3 p3 29 (bvs r) := h3.chg k3 (fun h => h)
  refine push_u8 T25 (w0 := w3) (l := []) (by simpa [bvs] using o4) (fun k ⟨p, hp, hk⟩ => by cases hp; subst hk; exact lo4) k4 1 rfl (by omega) fun a5 c5 w5 o5 f5 k5 => ?_
  rw [slP_zero]
  refine app_u8 T25 V25 (w0 := w3) o5 f5 k5 ((h1'.chg k5 (fun h => h)).lies (S := fun _ => True) trivial) (m := 32 - 0) (by rw [hl]) (by omega) fun a6 c6 w6 o6 f6 k6 => ?_
  rw [drw_s]
  have k7 : Chg None w3 w6.drew := k6.drew
  have o7 := o6.chg0 (Chg.drew0 w6)
  have H3 := H.chg0 (k1.none_trans (k2.none_trans k3))
  have hf7 := H3.f.chg k7 (fun h => h)
  generalize w6.drew = w7 at k7 o7 hf7
  refine opnV_c (v := fOf b1) (by have := hf7.rd 0 rfl; rwa [add_zero] at this) ?_
  rw [slP_zero]
  refine app_u8 T25 V25 (w0 := w3) o7 f6 k7 ((h3'.chg k7 (fun h => h)).lies (S := fun _ => True) trivial) (m := 32 - 0) (by rw [hr]) (by omega) fun a8 c8 w8 o8 f8 k8 => ?_
  have hf8 := H3.f.chg k8 (fun h => h)
  refine ⟨opnV_c (v := fOf b1) (by have := hf8.rd 0 rfl; rwa [add_zero] at this) rfl, ?_⟩
  rw [P_inv107]
  have hlen : (([] : List UInt8) ++ [1] ++ l ++ r).length = 0 + 1 + (32 - 0) + (32 - 0) := by simp [hl, hr]
  have k08 : Chg None w w8 := k1.none_trans (k2.none_trans (k3.none_trans k8))
  have hle := o8.le
  rw [← hlen] at o8 hle ⊢
  refine of_word (st.chg0 k08) (H.chg0 k08) o8.lies hle (by rw [hlen]; decide) fun w9 k9 => ?_
  rw [opnG_s]
  have e : (([] : List UInt8) ++ [1] ++ l ++ r) = 1 :: (l ++ r) := by simp
  rw [e]
  have hnl : (bvs (nodeV k l r)).length = 32 := by rw [bvs_len, nodeV_len]
  have h59 := (h5.chg k8 (fun h => h)).chg k9 (fun h => h)
  refine Blk.stAll h59 ?_ ?_ ?_ fun w10 h10 k10 => ?_
  · exact hnl
  · exact hnl
  · rw [List.all_eq_true]; exact bvs_one
  refine Blk.rowAll h10 (n := 32) hnl ?_
  exact hQ w10 (Chg.fresh (k08.none_trans k9) k10 fun x hx => by rw [hx]; exact Nat.le_trans (k1.none_trans k2).size lo5)
theorem node_word {k : Int} {l r : List UInt8} (st : ShaStd w) (hl : l.length = 32) (hr : r.length = 32) (hQ : ∀ w', Chg None w w' → Q (hv (nodeV k l r)) w') : C_tlog_NodeHash #[.int .i64 k, hv l, hv r] w Q := by
  refine C_tlog_NodeHash_eq _ _ _ _ _ ?_
  refine alC_box fun p1 w1 h1 k1 lo1 => ?_
  refine alC_box fun p3 w2 h3 k2 lo3 => ?_
  refine alZ_box zero29 fun p5 w3 h5 k3 lo5 => ?_
  rw [drw_s]
  have k04 : Chg None w w3.drew := (k1.none_trans (k2.none_trans k3)).drew
  have h1' : Blk w3.drew p1 29 (bvs l) := ((h1.chg k2 (fun h => h)).chg k3 (fun h => h)).chg (Chg.drew0 (D := None) w3) (fun h => h)
  have h3' : Blk w3.drew p3 29 (bvs r) := (h3.chg k3 (fun h => h)).chg (Chg.drew0 (D := None) w3) (fun h => h)
  have h5' := h5.chg (Chg.drew0 (D := None) w3) (fun h => h)
  generalize w3.drew = w4 at k04 h1' h3' h5'
  have hbl : (bvs l).length = 32 := by rw [bvs_len, hl]
  have hbr : (bvs r).length = 32 := by rw [bvs_len, hr]
  refine Blk.rowAll h1' (n := 32) hbl (Blk.rowAll h3' (n := 32) hbr (hasher_word (k := k) fun b1 b3 w5 H _ _ k5 => ?_))
  unfold hasherV
  rw [opnG_s]
  refine ⟨rfl, opnI_c rfl (opnV_c (v := fOf b1) rfl (opnV_c (v := fLeaf b3) rfl (opnV_c (v := fNode b3) rfl ?_)))⟩
  refine ⟨Blk.rowAll (h3'.chg k5 (fun h => h)) (n := 32) hbr rfl, Blk.rowAll (h1'.chg k5 (fun h => h)) (n := 32) hbl rfl, ?_⟩
  rw [P_inv110]
  refine nodef_word (st.chg0 (k04.none_trans k5)) H hl hr fun w6 k6 => ?_
  rw [opnG_s]
  have hnl : (bvs (nodeV k l r)).length = 32 := by rw [bvs_len, nodeV_len]
  refine Blk.stAll ((h5'.chg k5 (fun h => h)).chg k6 (fun h => h)) ?_ ?_ ?_ fun w7 h7 k7 => ?_
  · exact hnl
  · exact hnl
  · rw [List.all_eq_true]; exact bvs_one
  refine Blk.rowAll h7 (n := 32) hnl ?_
  exact hQ w7 (Chg.fresh (k04.none_trans (k5.none_trans k6)) k7 fun x hx => by rw [hx]; exact Nat.le_trans (k1.none_trans k2).size lo5)
end
end Go.Proofs.YtccjncflbbhldaaDoor
/-! ## ShP1 -/
namespace Go.Sh

/-! ### and, in pieces -/
theorem and_split (a b c d m : Nat) (hb : b < 2 ^ m) (hd : d < 2 ^ m) : (a * 2 ^ m + b) &&& (c * 2 ^ m + d) = (a &&& c) * 2 ^ m + (b &&& d) := by
  have hp : 0 < 2 ^ m := Nat.pow_pos (by decide)
  have h1 : ((a * 2 ^ m + b) &&& (c * 2 ^ m + d)) / 2 ^ m = a &&& c := by
    rw [Nat.and_div_two_pow, Nat.add_comm, Nat.add_mul_div_right _ _ hp, Nat.div_eq_of_lt hb, Nat.add_comm (c * _), Nat.add_mul_div_right _ _ hp, Nat.div_eq_of_lt hd]
    simp
  have h2 : ((a * 2 ^ m + b) &&& (c * 2 ^ m + d)) % 2 ^ m = b &&& d := by
    rw [Nat.and_mod_two_pow, Nat.add_comm, Nat.add_mul_mod_self_right, Nat.mod_eq_of_lt hb, Nat.add_comm (c * _), Nat.add_mul_mod_self_right, Nat.mod_eq_of_lt hd]
  have h3 := Nat.div_add_mod ((a * 2 ^ m + b) &&& (c * 2 ^ m + d)) (2 ^ m)
  rw [h1, h2, Nat.mul_comm] at h3
  exact h3.symm

/-- n pairs of digits of k bits: a mask for the lower ones -/
def mask (k : Nat) : Nat → Nat
  | 0 => 0
  | n + 1 => mask k n * 2 ^ (2 * k) + (2 ^ k - 1)
/-- the sum of n digits of k bits -/
def dsum (k : Nat) : Nat → Nat → Nat
  | 0, _ => 0
  | n + 1, y => y % 2 ^ k + dsum k n (y / 2 ^ k)
/-- n digits of k bits, each at most c -/
def digs (k c : Nat) : Nat → Nat → Prop
  | 0, y => y = 0
  | n + 1, y => y % 2 ^ k ≤ c ∧ digs k c n (y / 2 ^ k)
theorem digs_lt {k c : Nat} : ∀ {n y : Nat}, digs k c n y → y < 2 ^ (k * n)
  | 0, y, h => by simp [digs] at h; subst h; simp
  | n + 1, y, h => by
    have h1 := digs_lt h.2
    have hp : 0 < 2 ^ k := Nat.pow_pos (by decide)
    rw [Nat.mul_add, Nat.mul_one, Nat.pow_add]
    exact (Nat.div_lt_iff_lt_mul hp).1 h1
/-- neighbours joined -/
def join2 (k n y : Nat) : Nat := (y / 2 ^ k &&& mask k n) + (y &&& mask k n)
theorem join2_succ (k n y : Nat) : join2 k (n + 1) y = join2 k n (y / 2 ^ (2 * k)) * 2 ^ (2 * k) + (y % 2 ^ k + y / 2 ^ k % 2 ^ k) := by
  have hp : 0 < 2 ^ (2 * k) := Nat.pow_pos (by decide)
  have hk : 0 < 2 ^ k := Nat.pow_pos (by decide)
  have hle : 2 ^ k - 1 < 2 ^ (2 * k) := Nat.lt_of_lt_of_le (Nat.sub_lt hk (by decide)) (Nat.pow_le_pow_right (by decide) (by omega))
  have low : ∀ z, (z % 2 ^ (2 * k)) &&& (2 ^ k - 1) = z % 2 ^ k := fun z => by
    rw [Nat.and_two_pow_sub_one_eq_mod, Nat.mod_mod_of_dvd _ (Nat.pow_dvd_pow 2 (by omega))]
  have go : ∀ z, z &&& mask k (n + 1) = (z / 2 ^ (2 * k) &&& mask k n) * 2 ^ (2 * k) + z % 2 ^ k := fun z => by
    have h := and_split (z / 2 ^ (2 * k)) (z % 2 ^ (2 * k)) (mask k n) (2 ^ k - 1) (2 * k) (Nat.mod_lt _ hp) hle
    rw [low, Nat.mul_comm, Nat.div_add_mod] at h
    exact h
  unfold join2
  rw [go, go, show y / 2 ^ k / 2 ^ (2 * k) = y / 2 ^ (2 * k) / 2 ^ k by rw [Nat.div_div_eq_div_mul, Nat.div_div_eq_div_mul, Nat.mul_comm], Nat.add_mul]
  omega
theorem join2_digs {k c : Nat} (hc : 2 * c < 2 ^ (2 * k)) : ∀ {n y : Nat}, digs k c (2 * n) y → digs (2 * k) (2 * c) n (join2 k n y) ∧ dsum (2 * k) n (join2 k n y) = dsum k (2 * n) y
  | 0, y, h => by simp [digs, join2, mask, dsum]
  | n + 1, y, h => by
    rw [show 2 * (n + 1) = 2 * n + 1 + 1 by omega] at h ⊢
    simp only [digs, dsum] at h ⊢
    obtain ⟨h1, h2, h3⟩ := h
    have hp : 0 < 2 ^ (2 * k) := Nat.pow_pos (by decide)
    have e : y / 2 ^ k / 2 ^ k = y / 2 ^ (2 * k) := by rw [Nat.div_div_eq_div_mul, ← Nat.pow_add]; congr 2; omega
    rw [e] at h3 ⊢
    obtain ⟨g1, g2⟩ := join2_digs hc h3
    have hs : y % 2 ^ k + y / 2 ^ k % 2 ^ k < 2 ^ (2 * k) := by omega
    rw [join2_succ, Nat.add_comm (_ * _), Nat.add_mul_mod_self_right, Nat.mod_eq_of_lt hs, Nat.add_mul_div_right _ _ hp, Nat.div_eq_of_lt hs, Nat.zero_add, g2]
    exact ⟨⟨by omega, g1⟩, by omega⟩
/-- where no sum of neighbours is too great for one digit, they may be joined ahead of the mask -/
theorem join2_late {k c : Nat} (hc : 2 * c < 2 ^ k) : ∀ {n y : Nat}, digs k c (2 * n) y → (y / 2 ^ k + y) &&& mask k n = join2 k n y
  | 0, y, h => by simp [join2, mask]
  | n + 1, y, h => by
    rw [show 2 * (n + 1) = 2 * n + 1 + 1 by omega] at h
    simp only [digs] at h
    obtain ⟨h1, h2, h3⟩ := h
    have hp : 0 < 2 ^ (2 * k) := Nat.pow_pos (by decide)
    have hk : 0 < 2 ^ k := Nat.pow_pos (by decide)
    have e : y / 2 ^ k / 2 ^ k = y / 2 ^ (2 * k) := by rw [Nat.div_div_eq_div_mul, ← Nat.pow_add]; congr 2; omega
    rw [e] at h3
    have ih := join2_late hc h3
    have hle : 2 ^ k - 1 < 2 ^ (2 * k) := Nat.lt_of_lt_of_le (Nat.sub_lt hk (by decide)) (Nat.pow_le_pow_right (by decide) (by omega))
    generalize hz : y / 2 ^ (2 * k) = z at *
    have hy : y = z * 2 ^ (2 * k) + (y / 2 ^ k % 2 ^ k * 2 ^ k + y % 2 ^ k) := by
      have q1 := Nat.div_add_mod y (2 ^ k)
      have q2 := Nat.div_add_mod (y / 2 ^ k) (2 ^ k)
      have q3 : (2 : Nat) ^ (2 * k) = 2 ^ k * 2 ^ k := by rw [← Nat.pow_add]; congr 1; omega
      rw [q3, ← Nat.mul_assoc, ← Nat.add_assoc, ← Nat.add_mul]
      rw [e, Nat.mul_comm] at q2
      rw [q2, Nat.mul_comm]; exact q1.symm
    have hy1 : y / 2 ^ k = z / 2 ^ k * 2 ^ (2 * k) + (z % 2 ^ k * 2 ^ k + y / 2 ^ k % 2 ^ k) := by
      have q2 := Nat.div_add_mod (y / 2 ^ k) (2 ^ k)
      rw [e] at q2
      have q4 := Nat.div_add_mod z (2 ^ k)
      have q3 : (2 : Nat) ^ (2 * k) = 2 ^ k * 2 ^ k := by rw [← Nat.pow_add]; congr 1; omega
      rw [q3, ← Nat.mul_assoc, ← Nat.add_assoc, ← Nat.add_mul, Nat.mul_comm (z / 2 ^ k), q4, Nat.mul_comm z]
      exact q2.symm
    generalize hd0 : y % 2 ^ k = d0 at *
    generalize hd1 : y / 2 ^ k % 2 ^ k = d1 at *
    -- the digit above: z's lowest
    have hz0 : z % 2 ^ k ≤ c := by
      cases n with
      | zero => simp only [Nat.mul_zero, digs] at h3; subst h3; simp
      | succ n =>
        rw [show 2 * (n + 1) = 2 * n + 1 + 1 by omega] at h3
        exact h3.1
    generalize hd2 : z % 2 ^ k = d2 at *
    have hsum : y / 2 ^ k + y = (z / 2 ^ k + z) * 2 ^ (2 * k) + ((d2 + d1) * 2 ^ k + (d1 + d0)) := by
      rw [hy1]
      conv => lhs; rw [hy]
      rw [Nat.add_mul, Nat.add_mul d2]
      omega
    have hq : (2 : Nat) ^ (2 * k) = 2 ^ k * 2 ^ k := by rw [← Nat.pow_add]; congr 1; omega
    have hlow : (d2 + d1) * 2 ^ k + (d1 + d0) < 2 ^ (2 * k) := by
      rw [hq]
      calc (d2 + d1) * 2 ^ k + (d1 + d0) < (d2 + d1) * 2 ^ k + 2 ^ k := by omega
        _ = (d2 + d1 + 1) * 2 ^ k := by rw [Nat.add_mul (d2 + d1), Nat.one_mul]
        _ ≤ 2 ^ k * 2 ^ k := Nat.mul_le_mul_right _ (by omega)
    rw [hsum]
    show _ &&& (mask k n * 2 ^ (2 * k) + (2 ^ k - 1)) = _
    rw [and_split _ _ _ _ _ hlow hle, ih, join2_succ, hz, hd0, hd1, Nat.and_two_pow_sub_one_eq_mod, Nat.mul_add_mod_of_lt' (by omega)]
    omega
where
  Nat.mul_add_mod_of_lt' {a b m : Nat} (h : b < m) : (a * m + b) % m = b := by
    rw [Nat.add_comm, Nat.add_mul_mod_self_right, Nat.mod_eq_of_lt h]

/-- how many ones -/
def pc (n : Nat) : Nat := dsum 1 64 n
theorem digs_one : ∀ (n y : Nat), y < 2 ^ n → digs 1 1 n y
  | 0, y, h => by simp [digs]; omega
  | n + 1, y, h => by
    refine ⟨by omega, digs_one n _ ?_⟩
    rw [Nat.pow_succ] at h
    omega
def swar1 (x : Nat) : Nat := (x / 2 &&& 6148914691236517205) + (x &&& 6148914691236517205)
def swar2 (x : Nat) : Nat := (x / 4 &&& 3689348814741910323) + (x &&& 3689348814741910323)
def swar3 (x : Nat) : Nat := (x / 16 + x) &&& 1085102592571150095
def swar4 (x : Nat) : Nat :=
  let a := x + x / 256
  let b := a + a / 65536
  (b + b / 4294967296) &&& 127
theorem swar_low {x a b d0 d1 d2 d3 d4 d5 d6 d7 : Nat} (h0 : d0 ≤ 8) (h1 : d1 ≤ 8) (h2 : d2 ≤ 8) (h3 : d3 ≤ 8) (h4 : d4 ≤ 8) (h5 : d5 ≤ 8) (h6 : d6 ≤ 8) (h7 : d7 ≤ 8)
    (hx : x = d0 + 256 * (d1 + 256 * (d2 + 256 * (d3 + 256 * (d4 + 256 * (d5 + 256 * (d6 + 256 * d7))))))) (ha : a = x + x / 256) (hb : b = a + a / 65536) : (b + b / 4294967296) % 2 ^ 7 = d0 + d1 + d2 + d3 + d4 + d5 + d6 + d7 := by
  have q1 : x / 256 = d1 + 256 * (d2 + 256 * (d3 + 256 * (d4 + 256 * (d5 + 256 * (d6 + 256 * d7))))) := by clear ha hb; omega
  have q2 : a = (d0 + d1) + 256 * ((d1 + d2) + 256 * ((d2 + d3) + 256 * ((d3 + d4) + 256 * ((d4 + d5) + 256 * ((d5 + d6) + 256 * ((d6 + d7) + 256 * d7)))))) := by clear hb; omega
  clear ha q1 hx
  have q3 : a / 65536 = (d2 + d3) + 256 * ((d3 + d4) + 256 * ((d4 + d5) + 256 * ((d5 + d6) + 256 * ((d6 + d7) + 256 * d7)))) := by clear hb; omega
  have q4 : b = (d0 + d1 + d2 + d3) + 256 * ((d1 + d2 + d3 + d4) + 256 * ((d2 + d3 + d4 + d5) + 256 * ((d3 + d4 + d5 + d6) + 256 * ((d4 + d5 + d6 + d7) + 256 * ((d5 + d6 + d7) + 256 * ((d6 + d7) + 256 * d7)))))) := by omega
  clear hb q2 q3
  have q5 : b / 4294967296 = (d4 + d5 + d6 + d7) + 256 * ((d5 + d6 + d7) + 256 * ((d6 + d7) + 256 * d7)) := by omega
  rw [q5, q4]
  clear q5 q4
  omega
theorem swar_last {y : Nat} (h : digs 8 8 8 y) : y < 651061555542690057 ∧ swar4 y = dsum 8 8 y := by
  simp only [digs, Nat.reducePow] at h
  obtain ⟨h0, h1, h2, h3, h4, h5, h6, h7, h8⟩ := h
  refine ⟨by omega, ?_⟩
  have key := swar_low (x := y) h0 h1 h2 h3 h4 h5 h6 h7 (by omega) rfl rfl
  have e7 : (127 : Nat) = 2 ^ 7 - 1 := rfl
  have e : swar4 y = (y + y / 256 + (y + y / 256) / 65536 + (y + y / 256 + (y + y / 256) / 65536) / 4294967296) &&& 127 := rfl
  rw [e, e7, Nat.and_two_pow_sub_one_eq_mod, key]
  simp only [dsum, Nat.reducePow, Nat.add_assoc, Nat.add_zero]
theorem digs_small {y : Nat} (h : digs 4 4 16 y) : y < 4919131752989213765 ∧ y / 16 + y < 18446744073709551616 := by
  simp only [digs] at h
  omega
theorem swar {x : Nat} (hx : x < 18446744073709551616) : swar1 x < 18446744073709551616 ∧ swar2 (swar1 x) < 4919131752989213765 ∧ swar3 (swar2 (swar1 x)) < 651061555542690057 ∧ swar4 (swar3 (swar2 (swar1 x))) = pc x := by
  have h0 : digs 1 1 (2 * 32) x := digs_one 64 x hx
  have e1 : join2 1 32 x = swar1 x := by
    have : mask 1 32 = 6148914691236517205 := by decide
    rw [join2, this]; rfl
  have j1 := join2_digs (by decide) h0
  rw [e1] at j1
  simp only [Nat.reduceMul] at j1
  obtain ⟨h1, s1⟩ := j1
  have e2 : join2 2 16 (swar1 x) = swar2 (swar1 x) := by
    have : mask 2 16 = 3689348814741910323 := by decide
    rw [join2, this]; rfl
  have j2 := join2_digs (k := 2) (c := 2) (n := 16) (y := swar1 x) (by decide) h1
  rw [e2] at j2
  simp only [Nat.reduceMul] at j2
  obtain ⟨h2, s2⟩ := j2
  have e3 : join2 4 8 (swar2 (swar1 x)) = swar3 (swar2 (swar1 x)) := by
    have : mask 4 8 = 1085102592571150095 := by decide
    rw [← join2_late (k := 4) (c := 4) (by decide) (n := 8) h2, this]; rfl
  have j3 := join2_digs (k := 4) (c := 4) (n := 8) (y := swar2 (swar1 x)) (by decide) h2
  rw [e3] at j3
  simp only [Nat.reduceMul] at j3
  obtain ⟨h3, s3⟩ := j3
  have b1 := digs_lt h1
  obtain ⟨g1, g2⟩ := swar_last h3
  refine ⟨by simpa only [Nat.reduceMul, Nat.reducePow] using b1, (digs_small h2).1, g1, ?_⟩
  rw [g2, s3, s2, s1]; rfl
end Go.Sh
/-! ## ShP2 -/
namespace Go.Sh

def laid (n : Nat) : Nat := if h : n = 0 then 0 else n + laid (n / 2)
termination_by n
theorem laid_zero : laid 0 = 0 := by rw [laid]; simp
theorem laid_eq (n : Nat) : laid n = n + laid (n / 2) := by
  by_cases h : n = 0
  · subst h; simp [laid_zero]
  · conv => lhs; rw [laid]
    rw [dif_neg h]
theorem laid_ones : ∀ (k n : Nat), n < 2 ^ k → laid n + dsum 1 k n = 2 * n
  | 0, n, h => by
    have : n = 0 := by simpa using h
    subst this; simp [laid_zero, dsum]
  | k + 1, n, h => by
    have ih := laid_ones k (n / 2) (by rw [Nat.pow_succ] at h; omega)
    rw [laid_eq, dsum]
    simp only [Nat.pow_one]
    omega
theorem laid_pc {n : Nat} (h : n < 18446744073709551616) : laid n + pc n = 2 * n := laid_ones 64 n h
theorem dsum_one_le : ∀ (k y : Nat), dsum 1 k y ≤ k
  | 0, _ => Nat.le_refl _
  | k + 1, y => by have := dsum_one_le k (y / 2 ^ 1); simp only [dsum, Nat.pow_one] at this ⊢; omega
theorem pc_le (n : Nat) : pc n ≤ 64 := dsum_one_le 64 n
theorem laid_le (n : Nat) : laid n ≤ 2 * n := by
  have h := laid_ones n n Nat.lt_two_pow_self
  omega
theorem laid_ge (n : Nat) : n ≤ laid n := by rw [laid_eq]; omega
theorem laid_succ_le (n : Nat) : laid n + 1 ≤ laid (n + 1) := by
  induction n using Nat.strongRecOn with
  | _ n ih =>
    rw [laid_eq n, laid_eq (n + 1)]
    by_cases h0 : n = 0
    · subst h0; simp [laid_zero]
    rcases (by omega : (n + 1) / 2 = n / 2 ∨ (n + 1) / 2 = n / 2 + 1) with h | h
    · rw [h]; omega
    · rw [h]; have := ih (n / 2) (by omega); omega
theorem laid_mono {a b : Nat} (h : a ≤ b) : laid a + (b - a) ≤ laid b := by
  induction b with
  | zero => have : a = 0 := by omega
            subst this; simp
  | succ b ih =>
    by_cases hb : a = b + 1
    · subst hb; simp
    · have := ih (by omega)
      have := laid_succ_le b
      omega
theorem laid_lt {a b : Nat} (h : a < b) : laid a < laid b := by have := laid_mono (Nat.le_of_lt h); omega
/-- with record n so many levels more -/
theorem laid_level : ∀ (k n : Nat), laid (n + 1) > laid n + k → 2 ^ k ∣ n + 1
  | 0, n, _ => by simp
  | k + 1, n, h => by
    rw [laid_eq n, laid_eq (n + 1)] at h
    rcases (by omega : (n + 1) / 2 = n / 2 ∨ ((n + 1) / 2 = n / 2 + 1 ∧ n % 2 = 1)) with e | ⟨e, e2⟩
    · rw [e] at h; omega
    · rw [e] at h
      obtain ⟨c, hc⟩ := laid_level k (n / 2) (by omega)
      refine ⟨c, ?_⟩
      rw [Nat.pow_succ, Nat.mul_right_comm, ← hc]; omega
theorem laid_two_pow (k : Nat) : laid (2 ^ k) = 2 * 2 ^ k - 1 := by
  induction k with
  | zero => rw [Nat.pow_zero, laid_eq]; simp [laid_zero]
  | succ k ih =>
    have : 0 < 2 ^ k := Nat.pow_pos (by decide)
    rw [laid_eq, show 2 ^ (k + 1) / 2 = 2 ^ k by rw [Nat.pow_succ]; omega, ih, Nat.pow_succ]; omega
theorem laid_max : laid 281474976710656 = 562949953421311 := laid_two_pow 48

/-- the greatest number of records with at most c hashes -/
def IsRec (c n : Nat) : Prop := n ≤ 281474976710656 ∧ laid n ≤ c ∧ (n < 281474976710656 → c < laid (n + 1))
theorem IsRec.mk {c n : Nat} (h1 : n ≤ 281474976710656) (h2 : laid n ≤ c) (h3 : n < 281474976710656 → c < laid (n + 1)) : IsRec c n := ⟨h1, h2, h3⟩
theorem IsRec.uniq {c n m : Nat} (h : IsRec c n) (k : IsRec c m) : n = m := by
  rcases Nat.lt_trichotomy n m with g | g | g
  · have h1 := h.2.2 (by have := k.1; omega)
    have h2 := laid_mono (a := n + 1) (b := m) (by omega)
    have := k.2.1
    omega
  · exact g
  · have h1 := k.2.2 (by have := h.1; omega)
    have h2 := laid_mono (a := m + 1) (b := n) (by omega)
    have := h.2.1
    omega
open Classical in
noncomputable def recOf (c : Nat) : Nat := if h : ∃ n, IsRec c n then Classical.choose h else 0
theorem recOf_eq {c n : Nat} (h : IsRec c n) : recOf c = n := by
  unfold recOf
  rw [dif_pos ⟨n, h⟩]
  exact (Classical.choose_spec (⟨n, h⟩ : ∃ n, IsRec c n)).uniq h
theorem rec_exists (c : Nat) : ∃ n, IsRec c n := by
  have go : ∀ k, k ≤ 281474976710656 → (∃ n, IsRec c n) ∨ laid k ≤ c := by
    intro k
    induction k with
    | zero => intro _; exact .inr (by rw [laid_zero]; exact Nat.zero_le _)
    | succ k ih =>
      intro hk
      rcases ih (by omega) with h | h
      · exact .inl h
      · by_cases hc : laid (k + 1) ≤ c
        · exact .inr hc
        · exact .inl ⟨k, by omega, h, fun _ => by omega⟩
  rcases go 281474976710656 (Nat.le_refl _) with h | h
  · exact h
  · exact ⟨_, Nat.le_refl _, h, fun h => absurd h (Nat.lt_irrefl _)⟩
theorem recOf_is (c : Nat) : IsRec c (recOf c) := by
  obtain ⟨n, h⟩ := rec_exists c
  rw [recOf_eq h]; exact h
/-- of a place: its level, and the node's number -/
noncomputable def levOf (c : Nat) : Nat := c - laid (recOf c)
noncomputable def nodOf (c : Nat) : Nat := (recOf c + 1) / 2 ^ levOf c - 1
/-- the place of a node -/
def placeOf (level n : Nat) : Nat := laid ((n + 1) * 2 ^ level - 1) + level
theorem rec_lt {c : Nat} (h : c < 562949953421311) : recOf c < 281474976710656 := by
  have h1 := recOf_is c
  rcases Nat.lt_or_ge (recOf c) 281474976710656 with g | g
  · exact g
  · have : recOf c = 281474976710656 := by have := h1.1; omega
    have h2 := h1.2.1
    rw [this, laid_max] at h2; omega
theorem split_dvd {c : Nat} (h : c < 562949953421311) : 2 ^ levOf c ∣ recOf c + 1 := by
  have h1 := recOf_is c
  have h2 := h1.2.2 (rec_lt h)
  refine laid_level _ _ ?_
  have := h1.2.1
  unfold levOf; omega
theorem split_pos {c : Nat} (h : c < 562949953421311) : 0 < (recOf c + 1) / 2 ^ levOf c ∧ (recOf c + 1) / 2 ^ levOf c * 2 ^ levOf c = recOf c + 1 := by
  have hd := split_dvd h
  have e := Nat.div_mul_cancel hd
  refine ⟨?_, e⟩
  rcases Nat.eq_zero_or_pos ((recOf c + 1) / 2 ^ levOf c) with g | g
  · rw [g] at e; omega
  · exact g
theorem lev_le {c : Nat} (h : c < 562949953421311) : levOf c ≤ 48 := by
  have hd := Nat.le_of_dvd (by omega) (split_dvd h)
  have hr := rec_lt h
  rcases Nat.lt_or_ge 48 (levOf c) with g | g
  · have : 2 ^ 49 ≤ 2 ^ levOf c := Nat.pow_le_pow_right (by decide) g
    omega
  · exact g
theorem nod_lt {c : Nat} (h : c < 562949953421311) : (nodOf c + 1) * 2 ^ levOf c ≤ 281474976710656 := by
  obtain ⟨h1, h2⟩ := split_pos h
  have hr := rec_lt h
  unfold nodOf
  rw [Nat.sub_add_cancel h1, h2]; omega
theorem place_split {c : Nat} (h : c < 562949953421311) : placeOf (levOf c) (nodOf c) = c := by
  obtain ⟨h1, h2⟩ := split_pos h
  have h3 := (recOf_is c).2.1
  unfold placeOf nodOf
  rw [Nat.sub_add_cancel h1, h2, Nat.add_sub_cancel]
  unfold levOf; omega
/-- a whole node is laid down with its last record -/
theorem laid_step : ∀ (level m : Nat), 0 < m → laid (m * 2 ^ level - 1) + level < laid (m * 2 ^ level)
  | 0, m, h => by
    rw [Nat.pow_zero, Nat.mul_one, Nat.add_zero]
    exact laid_lt (by omega)
  | level + 1, m, h => by
    have ih := laid_step level m h
    have hp : 0 < m * 2 ^ level := Nat.mul_pos h (Nat.pow_pos (by decide))
    have e : m * 2 ^ (level + 1) = 2 * (m * 2 ^ level) := by rw [Nat.pow_succ, ← Nat.mul_assoc, Nat.mul_comm]
    rw [e, laid_eq (2 * _), laid_eq (2 * _ - 1), show 2 * (m * 2 ^ level) / 2 = m * 2 ^ level by omega, show (2 * (m * 2 ^ level) - 1) / 2 = m * 2 ^ level - 1 by omega]
    omega
theorem place_lt {level n : Nat} (h : (n + 1) * 2 ^ level ≤ 281474976710656) : placeOf level n < 562949953421311 := by
  have h1 := laid_step level (n + 1) (by omega)
  have h2 := laid_mono h
  rw [laid_max] at h2
  unfold placeOf; omega
theorem rec_place {level n : Nat} (h : (n + 1) * 2 ^ level ≤ 281474976710656) : recOf (placeOf level n) = (n + 1) * 2 ^ level - 1 := by
  have hp : 0 < (n + 1) * 2 ^ level := Nat.mul_pos (by omega) (Nat.pow_pos (by decide))
  refine recOf_eq ⟨by omega, by unfold placeOf; omega, fun _ => ?_⟩
  have h1 := laid_step level (n + 1) (by omega)
  rw [Nat.sub_add_cancel hp]
  exact h1
theorem lev_place {level n : Nat} (h : (n + 1) * 2 ^ level ≤ 281474976710656) : levOf (placeOf level n) = level := by
  unfold levOf
  rw [rec_place h]
  unfold placeOf; omega
theorem nod_place {level n : Nat} (h : (n + 1) * 2 ^ level ≤ 281474976710656) : nodOf (placeOf level n) = n := by
  have hp : 0 < (n + 1) * 2 ^ level := Nat.mul_pos (by omega) (Nat.pow_pos (by decide))
  unfold nodOf
  rw [lev_place h, rec_place h, Nat.sub_add_cancel hp, Nat.mul_div_cancel _ (Nat.pow_pos (by decide))]
  omega
/-- the tops of a tree of n records, from level m - 1 down -/
def peaksTo (n : Nat) : Nat → List Nat
  | 0 => []
  | m + 1 => if n / 2 ^ m % 2 = 1 then placeOf m (n / 2 ^ (m + 1) * 2) :: peaksTo n m else peaksTo n m
def peaksOf (n : Nat) : List Nat := peaksTo n 49
theorem peaksTo_len (n : Nat) : ∀ m, (peaksTo n m).length ≤ m
  | 0 => Nat.le_refl _
  | m + 1 => by
    have := peaksTo_len n m
    unfold peaksTo
    split <;> simp <;> omega
end Go.Sh
/-! ## TreePure -/
namespace Go.Proofs.YtccjncflbbhldaaDoor
open Go.Sh Go.RowKit
abbrev Hsh := {l : List UInt8 // l.length = 32}
def hb (h : Hsh) : List Value := bvs h.1
theorem hb_len (h : Hsh) : (hb h).length = 32 := by rw [hb, bvs_len, h.2]
theorem hb_one (h : Hsh) : (hb h).all Value.oneCell' = true := by rw [List.all_eq_true]; exact bvs_one
abbrev hvs (l : List Hsh) : List Value := l.flatMap hb
theorem hvs_len (l : List Hsh) : (hvs l).length = l.length * 32 := flat_len hb 32 hb_len l
def nodeH (k : Int) (l r : Hsh) : Hsh := ⟨nodeV k l.1 r.1, nodeV_len _ _ _⟩
def leafH (k : Int) (d : List UInt8) : Hsh := ⟨leafV k d, leafV_len _ _⟩
def emptyH (k : Int) : Hsh := ⟨emptyV k, emptyV_len _⟩
def zeroH : Hsh := ⟨List.replicate 32 0, by simp⟩
/-- the hash of node n of a level over leaves f -/
def nodeAt (k : Int) (f : Nat → Hsh) : Nat → Nat → Hsh
  | 0, n => f n
  | l + 1, n => nodeH k (nodeAt k f l (2 * n)) (nodeAt k f l (2 * n + 1))
structure Stored (k : Int) (f : Nat → Hsh) (n : Nat) (st : List Hsh) : Prop where
  len : st.length = laid n
  at_ : ∀ level m, (m + 1) * 2 ^ level ≤ n → st[placeOf level m]? = some (nodeAt k f level m)
theorem Stored.nil {k : Int} {f : Nat → Hsh} : Stored k f 0 [] := ⟨by rw [laid_zero]; rfl, fun level m h => by
  have : 0 < (m + 1) * 2 ^ level := Nat.mul_pos (Nat.succ_pos m) (Nat.pow_pos (by decide))
  omega⟩
theorem laid_top : ∀ (level m : Nat), m % 2 = 0 → laid ((m + 1) * 2 ^ level) = laid ((m + 1) * 2 ^ level - 1) + level + 1
  | 0, m, h => by
    rw [Nat.pow_zero, Nat.mul_one, Nat.add_sub_cancel, laid_eq (m + 1), laid_eq m, show (m + 1) / 2 = m / 2 by omega]; omega
  | level + 1, m, h => by
    have ih := laid_top level m h
    have hp : 0 < (m + 1) * 2 ^ level := Nat.mul_pos (Nat.succ_pos m) (Nat.pow_pos (by decide))
    have e : (m + 1) * 2 ^ (level + 1) = 2 * ((m + 1) * 2 ^ level) := by rw [Nat.pow_succ]; ac_rfl
    rw [e, laid_eq (2 * _), laid_eq (2 * _ - 1), show 2 * ((m + 1) * 2 ^ level) / 2 = (m + 1) * 2 ^ level by omega, show (2 * ((m + 1) * 2 ^ level) - 1) / 2 = (m + 1) * 2 ^ level - 1 by omega, ih]
    omega
/-- while record n goes in: so many levels of its hashes are there -/
structure Going (k : Int) (f : Nat → Hsh) (n level m : Nat) (st : List Hsh) : Prop where
  len : st.length = laid n + level + 1
  num : n + 1 = (m + 1) * 2 ^ level
  old : ∀ lv j, (j + 1) * 2 ^ lv ≤ n → st[placeOf lv j]? = some (nodeAt k f lv j)
  new : ∀ lv, lv ≤ level → st[laid n + lv]? = some (nodeAt k f lv ((n + 1) / 2 ^ lv - 1))
theorem Going.start {k : Int} {f : Nat → Hsh} {n : Nat} {st : List Hsh} (h : Stored k f n st) : Going k f n 0 n (st ++ [f n]) := by
  refine ⟨by simp [h.len], by simp, fun lv j hj => ?_, fun lv hl => ?_⟩
  · have := h.at_ lv j hj
    rw [List.getElem?_append_left (List.getElem?_eq_some_iff.1 this).1]; exact this
  · have : lv = 0 := by omega
    subst this
    rw [Nat.add_zero, ← h.len, Nat.pow_zero, Nat.div_one, Nat.add_sub_cancel, List.getElem?_append_right (Nat.le_refl _)]; simp [nodeAt]
section
variable {k : Int} {f : Nat → Hsh} {n level m : Nat} {st : List Hsh}
theorem Going.last (h : Going k f n level m st) : st[laid n + level]? = some (nodeAt k f level m) := by
  have := h.new level (Nat.le_refl _)
  rwa [h.num, Nat.mul_div_cancel _ (Nat.pow_pos (by decide)), Nat.add_sub_cancel] at this
theorem Going.sib (h : Going k f n level m st) (hm : m % 2 = 1) : st[placeOf level (m - 1)]? = some (nodeAt k f level (m - 1)) := by
  refine h.old level (m - 1) ?_
  have := h.num
  have hp := Nat.pow_pos (n := level) (show 0 < 2 by decide)
  rw [show m - 1 + 1 = m by omega]
  rw [Nat.add_mul, Nat.one_mul] at this
  omega
theorem Going.step (h : Going k f n level m st) (hm : m % 2 = 1) : Going k f n (level + 1) (m / 2) (st ++ [nodeH k (nodeAt k f level (m - 1)) (nodeAt k f level m)]) := by
  have hnum : n + 1 = (m / 2 + 1) * 2 ^ (level + 1) := by
    rw [h.num, Nat.pow_succ, Nat.mul_comm (2 ^ level) 2, ← Nat.mul_assoc]
    congr 1
    omega
  refine ⟨by simp [h.len]; omega, hnum, fun lv j hj => ?_, fun lv hl => ?_⟩
  · have := h.old lv j hj
    rw [List.getElem?_append_left (List.getElem?_eq_some_iff.1 this).1]; exact this
  · rcases Nat.lt_or_ge lv (level + 1) with g | g
    · have := h.new lv (by omega)
      rw [List.getElem?_append_left (List.getElem?_eq_some_iff.1 this).1]; exact this
    · have : lv = level + 1 := by omega
      subst this
      rw [show laid n + (level + 1) = st.length by rw [h.len]; omega, List.getElem?_append_right (Nat.le_refl _), hnum, Nat.mul_div_cancel _ (Nat.pow_pos (by decide)), Nat.add_sub_cancel]
      have e1 : 2 * (m / 2) = m - 1 := by omega
      simp [nodeAt, e1]
      rw [show m - 1 + 1 = m by omega]
theorem Going.done (h : Going k f n level m st) (hm : m % 2 = 0) : Stored k f (n + 1) st := by
  have ht := laid_top level m hm
  rw [← h.num, Nat.add_sub_cancel] at ht
  refine ⟨by rw [h.len, ht], fun lv j hj => ?_⟩
  rcases Nat.lt_or_ge n ((j + 1) * 2 ^ lv) with g | g
  · have e : (j + 1) * 2 ^ lv = n + 1 := by omega
    have hl : lv ≤ level := by
      rcases Nat.lt_or_ge level lv with g2 | g2
      · exfalso
        obtain ⟨d, rfl⟩ : ∃ d, lv = level + 1 + d := ⟨lv - (level + 1), by omega⟩
        have e3 : (m + 1) * 2 ^ level = ((j + 1) * 2 ^ d * 2) * 2 ^ level := by
          rw [← h.num, ← e, Nat.pow_add, Nat.pow_succ]; ac_rfl
        have := Nat.eq_of_mul_eq_mul_right (Nat.pow_pos (by decide)) e3
        omega
      · exact g2
    have := h.new lv hl
    rw [← e, Nat.mul_div_cancel _ (Nat.pow_pos (by decide)), Nat.add_sub_cancel] at this
    rw [placeOf, e, Nat.add_sub_cancel]; exact this
  · exact h.old lv j g
end
theorem Stored.congr {k : Int} {f g : Nat → Hsh} {n : Nat} {st : List Hsh} (h : Stored k f n st) (e : ∀ j, j < n → f j = g j) : Stored k g n st := by
  have key : ∀ level m, (m + 1) * 2 ^ level ≤ n → nodeAt k f level m = nodeAt k g level m := by
    intro level
    induction level with
    | zero => intro m hm; exact e m (by omega)
    | succ l ih =>
      intro m hm
      have e2 : (m + 1) * 2 ^ (l + 1) = (2 * m + 1 + 1) * 2 ^ l := by rw [Nat.pow_succ, Nat.mul_comm (2 ^ l) 2, ← Nat.mul_assoc]; congr 1; omega
      rw [e2] at hm
      have : (2 * m + 1) * 2 ^ l ≤ (2 * m + 1 + 1) * 2 ^ l := Nat.mul_le_mul_right _ (by omega)
      rw [nodeAt, nodeAt, ih (2 * m) (by omega), ih (2 * m + 1) hm]
  exact ⟨h.len, fun level m hm => by rw [h.at_ level m hm, key level m hm]⟩
end Go.Proofs.YtccjncflbbhldaaDoor
/-! ## Lay -/
namespace Go.Proofs
open Go.Shelf
def YtccjncflbbhldaaDoor.lays169_ren : Go.Shelf.Ren := ⟨fun | 169 => 62 | n => n, fun | 70 => 113 | 9 => 9 | 0 => 0 | 72 => 115 | 37 => 25 | 127 => 160 | 3 => 3 | 5 => 5 | n => n, fun | n => n⟩
theorem YtccjncflbbhldaaDoor.lays169 : Go.Proofs.Lays.n169 Tryd.prog YtccjncflbbhldaaDoor.lays169_ren := {
  mixed := by kernel_rfl
  f169 := Tryd.func62.trans (congrArg some (by kernel_rfl))
  t0 := Tryd.underlying0
  a0 := Tryd.isAgg0
  z0 := Tryd.sizeOf0
  v0 := Tryd.zeroValue0
  t3 := Tryd.underlying3
  a3 := Tryd.isAgg3
  z3 := Tryd.sizeOf3
  v3 := Tryd.zeroValue3
  t9 := Tryd.underlying9
  a9 := Tryd.isAgg9
  z9 := Tryd.sizeOf9
  v9 := Tryd.zeroValue9
  t37 := Tryd.underlying25
  a37 := Tryd.isAgg25
  z37 := Tryd.sizeOf25
  v37 := Tryd.zeroValue25
  t70 := Tryd.underlying113
  a70 := Tryd.isAgg113
  z70 := Tryd.sizeOf113
  v70 := Tryd.zeroValue113
  t72 := Tryd.underlying115
  a72 := Tryd.isAgg115
  z72 := Tryd.sizeOf115
  v72 := Tryd.zeroValue115
  t127 := Tryd.underlying160
  a127 := Tryd.isAgg160
  z127 := Tryd.sizeOf160
  v127 := Tryd.zeroValue160 }
theorem YtccjncflbbhldaaDoor.Builder_Extra_169 : Builder.Extra Tryd.prog YtccjncflbbhldaaDoor.lays169_ren := {
  sizeBuilder := by kernel_rfl
  liesBuilder := by kernel_rfl
  t5 := Tryd.underlying5
  a5 := Tryd.isAgg5
  z5 := Tryd.sizeOf5
  v5 := Tryd.zeroValue5
  infoByte := by kernel_rfl
  cellsByte := by kernel_rfl
  sizeByte := by kernel_rfl
  neB5 := by decide }
open Go.RowKit in
/-- (*strings.Builder).String: "String returns the accumulated string.": OF A BUILDER THAT HOLDS AT LEAST ONE BYTE. ✋ THE MODEL FREEZES THOSE BYTES IN THE BUFFER (unsafe.String): a later write INTO them ends the model's run without an answer; a later append BEHIND them goes on. The statement's order of evaluation is drawn: one draw. (LAID: no walk: one application.) -/
theorem YtccjncflbbhldaaDoor.Builder_String (B b : Nat) (l : List UInt8) (w : World) (h : Lib.IsBuilder 115 5 B b (Lib.byteCells l) w) (h0 : l ≠ []) :
    Calls Tryd.prog 62 #[.pointer (some ⟨b, 0, none⟩)] w fun e w' => e = .returned (.string ⟨l.toArray⟩) ∧ Below B w w' := Any.Builder_String YtccjncflbbhldaaDoor.lays169 YtccjncflbbhldaaDoor.Builder_Extra_169 B b l w h h0
def YtccjncflbbhldaaDoor.lays156_ren : Go.Shelf.Ren := ⟨fun | 156 => 102 | 165 => 128 | 166 => 59 | 169 => 62 | 240 => 94 | 241 => 156 | 276 => 117 | 277 => 178 | n => n, fun | 31 => 125 | 9 => 9 | 3 => 3 | 4 => 4 | 0 => 0 | 20 => 20 | 72 => 115 | 76 => 118 | 70 => 113 | 37 => 25 | 75 => 117 | 127 => 160 | 164 => 178 | 5 => 5 | 80 => 122 | n => n, fun | n => n⟩
theorem YtccjncflbbhldaaDoor.lays156 : Go.Proofs.Lays.n156 Tryd.prog YtccjncflbbhldaaDoor.lays156_ren := {
  mixed := by kernel_rfl
  f156 := Tryd.func102.trans (congrArg some (by kernel_rfl))
  f165 := Tryd.func128.trans (congrArg some (by kernel_rfl))
  f166 := Tryd.func59.trans (congrArg some (by kernel_rfl))
  f169 := Tryd.func62.trans (congrArg some (by kernel_rfl))
  f240 := Tryd.func94.trans (congrArg some (by kernel_rfl))
  f241 := Tryd.func156.trans (congrArg some (by kernel_rfl))
  f276 := Tryd.func117.trans (congrArg some (by kernel_rfl))
  f277 := Tryd.func178.trans (congrArg some (by kernel_rfl))
  t0 := Tryd.underlying0
  a0 := Tryd.isAgg0
  z0 := Tryd.sizeOf0
  v0 := Tryd.zeroValue0
  t3 := Tryd.underlying3
  a3 := Tryd.isAgg3
  z3 := Tryd.sizeOf3
  v3 := Tryd.zeroValue3
  t4 := Tryd.underlying4
  a4 := Tryd.isAgg4
  z4 := Tryd.sizeOf4
  v4 := Tryd.zeroValue4
  t9 := Tryd.underlying9
  a9 := Tryd.isAgg9
  z9 := Tryd.sizeOf9
  v9 := Tryd.zeroValue9
  t20 := Tryd.underlying20
  a20 := Tryd.isAgg20
  z20 := Tryd.sizeOf20
  v20 := Tryd.zeroValue20
  t31 := Tryd.underlying125
  a31 := Tryd.isAgg125
  z31 := Tryd.sizeOf125
  v31 := Tryd.zeroValue125
  t37 := Tryd.underlying25
  a37 := Tryd.isAgg25
  z37 := Tryd.sizeOf25
  v37 := Tryd.zeroValue25
  t70 := Tryd.underlying113
  a70 := Tryd.isAgg113
  z70 := Tryd.sizeOf113
  v70 := Tryd.zeroValue113
  t72 := Tryd.underlying115
  a72 := Tryd.isAgg115
  z72 := Tryd.sizeOf115
  v72 := Tryd.zeroValue115
  t75 := Tryd.underlying117
  a75 := Tryd.isAgg117
  z75 := Tryd.sizeOf117
  v75 := Tryd.zeroValue117
  t76 := Tryd.underlying118
  a76 := Tryd.isAgg118
  z76 := Tryd.sizeOf118
  v76 := Tryd.zeroValue118
  t127 := Tryd.underlying160
  a127 := Tryd.isAgg160
  z127 := Tryd.sizeOf160
  v127 := Tryd.zeroValue160
  t164 := Tryd.underlying178
  a164 := Tryd.isAgg178
  z164 := Tryd.sizeOf178
  v164 := Tryd.zeroValue178 }
theorem YtccjncflbbhldaaDoor.Builder_Extra_156 : Builder.Extra Tryd.prog YtccjncflbbhldaaDoor.lays156_ren := {
  sizeBuilder := by kernel_rfl
  liesBuilder := by kernel_rfl
  t5 := Tryd.underlying5
  a5 := Tryd.isAgg5
  z5 := Tryd.sizeOf5
  v5 := Tryd.zeroValue5
  infoByte := by kernel_rfl
  cellsByte := by kernel_rfl
  sizeByte := by kernel_rfl
  neB5 := by decide }
open Go.RowKit in
/-- No element: the empty string; the world is as it was. (Whatever the slice's address and capacity: a nil slice too.) (LAID: no walk: one application.) -/
theorem YtccjncflbbhldaaDoor.strings_Join_none (a : Option Addr) (c : Nat) (sep : ByteArray) (w : World) :
    Calls Tryd.prog 102 #[.slice a 0 c, .string sep] w fun e w' => e = .returned (.string ⟨#[]⟩) ∧ w' = w := Any.strings_Join_none YtccjncflbbhldaaDoor.lays156 YtccjncflbbhldaaDoor.Builder_Extra_156 a c sep w
open Go.RowKit in
/-- strings.Join: "Join concatenates the elements of its first argument to create a single string. The separator string sep is placed between elements in the resulting string.": HOWEVER MANY ELEMENTS. Below the heap's end the world is as it was. (LAID: no walk: one application.) -/
theorem YtccjncflbbhldaaDoor.strings_Join (bk o c : Nat) (xs : List ByteArray) (sep : ByteArray) (w : World) (hcells : ∀ (j : Nat) x, xs[j]? = some x → w.cell? ⟨bk, o + j, none⟩ = some (.string x)) (hbk : bk < w.heap.size) (hN : xs.length ≤ 140737488355328) (hcap : xs.length ≤ c) (hlen : (Lib.join (xs.map (·.data.toList)) sep.data.toList).length ≤ 140737488355328) :
    Calls Tryd.prog 102 #[.slice (some ⟨bk, o, none⟩) xs.length c, .string sep] w fun e w' => e = .returned (.string ⟨(Lib.join (xs.map (·.data.toList)) sep.data.toList).toArray⟩) ∧ Below w.heap.size w w' := Any.strings_Join YtccjncflbbhldaaDoor.lays156 YtccjncflbbhldaaDoor.Builder_Extra_156 bk o c xs sep w hcells hbk hN hcap hlen
def YtccjncflbbhldaaDoor.laysM171_ren : Go.Shelf.Ren := ⟨fun | 171 => 60 | 243 => 95 | 246 => 96 | 283 => 118 | 284 => 119 | 285 => 120 | 286 => 121 | 129 => 143 | 317 => 144 | 318 => 145 | 319 => 146 | 320 => 147 | 337 => 170 | 338 => 171 | n => n, fun | 3 => 3 | 9 => 9 | 2 => 2 | 4 => 4 | 171 => 180 | 0 => 0 | 53 => 169 | 37 => 25 | 5 => 5 | 173 => 182 | 212 => 205 | 51 => 203 | 20 => 20 | 213 => 206 | 46 => 79 | 232 => 28 | 233 => 264 | n => n, fun | 17 => 0 | 18 => 9 | 19 => 10 | n => n⟩
theorem YtccjncflbbhldaaDoor.laysM171 : Go.Proofs.LaysM.n171 Tryd.prog YtccjncflbbhldaaDoor.laysM171_ren := {
  mixed := by kernel_rfl
  f129 := Tryd.func143.trans (congrArg some (by kernel_rfl))
  f171 := Tryd.func60.trans (congrArg some (by kernel_rfl))
  f243 := Tryd.func95.trans (congrArg some (by kernel_rfl))
  f246 := Tryd.func96.trans (congrArg some (by kernel_rfl))
  f283 := Tryd.func118.trans (congrArg some (by kernel_rfl))
  f284 := Tryd.func119.trans (congrArg some (by kernel_rfl))
  f285 := Tryd.func120.trans (congrArg some (by kernel_rfl))
  f286 := Tryd.func121.trans (congrArg some (by kernel_rfl))
  f317 := Tryd.func144.trans (congrArg some (by kernel_rfl))
  f318 := Tryd.func145.trans (congrArg some (by kernel_rfl))
  f319 := Tryd.func146.trans (congrArg some (by kernel_rfl))
  f320 := Tryd.func147.trans (congrArg some (by kernel_rfl))
  f337 := Tryd.func170.trans (congrArg some (by kernel_rfl))
  f338 := Tryd.func171.trans (congrArg some (by kernel_rfl))
  t0 := Tryd.underlying0
  a0 := Tryd.isAgg0
  z0 := Tryd.sizeOf0
  v0 := Tryd.zeroValue0
  t2 := Tryd.underlying2
  a2 := Tryd.isAgg2
  z2 := Tryd.sizeOf2
  v2 := Tryd.zeroValue2
  t3 := Tryd.underlying3
  a3 := Tryd.isAgg3
  z3 := Tryd.sizeOf3
  v3 := Tryd.zeroValue3
  t4 := Tryd.underlying4
  a4 := Tryd.isAgg4
  z4 := Tryd.sizeOf4
  v4 := Tryd.zeroValue4
  t5 := Tryd.underlying5
  a5 := Tryd.isAgg5
  z5 := Tryd.sizeOf5
  v5 := Tryd.zeroValue5
  t9 := Tryd.underlying9
  a9 := Tryd.isAgg9
  z9 := Tryd.sizeOf9
  v9 := Tryd.zeroValue9
  t20 := Tryd.underlying20
  a20 := Tryd.isAgg20
  z20 := Tryd.sizeOf20
  v20 := Tryd.zeroValue20
  t37 := Tryd.underlying25
  a37 := Tryd.isAgg25
  z37 := Tryd.sizeOf25
  v37 := Tryd.zeroValue25
  t46 := Tryd.underlying79
  a46 := Tryd.isAgg79
  z46 := Tryd.sizeOf79
  v46 := Tryd.zeroValue79
  t51 := Tryd.underlying203
  a51 := Tryd.isAgg203
  z51 := Tryd.sizeOf203
  v51 := Tryd.zeroValue203
  t53 := Tryd.underlying169
  a53 := Tryd.isAgg169
  z53 := Tryd.sizeOf169
  v53 := Tryd.zeroValue169
  t171 := Tryd.underlying180
  a171 := Tryd.isAgg180
  z171 := Tryd.sizeOf180
  v171 := Tryd.zeroValue180
  t173 := Tryd.underlying182
  a173 := Tryd.isAgg182
  z173 := Tryd.sizeOf182
  v173 := Tryd.zeroValue182
  t212 := Tryd.underlying205
  a212 := Tryd.isAgg205
  z212 := Tryd.sizeOf205
  v212 := Tryd.zeroValue205
  t213 := Tryd.underlying206
  a213 := Tryd.isAgg206
  z213 := Tryd.sizeOf206
  t232 := Tryd.underlying28
  a232 := Tryd.isAgg28
  z232 := Tryd.sizeOf28
  v232 := Tryd.zeroValue28
  t233 := Tryd.underlying264
  a233 := Tryd.isAgg264
  z233 := Tryd.sizeOf264
  v233 := Tryd.zeroValue264
  g17 := by kernel_rfl
  g18 := by kernel_rfl
  g19 := by kernel_rfl
  i0 := by kernel_rfl
  i2 := by kernel_rfl
  i3 := by kernel_rfl
  i4 := by kernel_rfl
  i5 := by kernel_rfl
  i9 := by kernel_rfl
  i20 := by kernel_rfl
  i37 := by kernel_rfl
  i46 := by kernel_rfl
  i51 := by kernel_rfl
  i53 := by kernel_rfl
  i171 := by kernel_rfl
  i173 := by kernel_rfl
  i212 := by kernel_rfl
  i232 := by kernel_rfl
  i233 := by kernel_rfl
  m17 := by kernel_rfl
  m18 := by kernel_rfl
  m19 := by kernel_rfl }
open Go.RowKit Go.Sort Go.Lib in
/-- strconv.Itoa: "Itoa is equivalent to FormatInt(int64(i), 10).": i's DECIMAL NUMERAL ('Lib.itoa': a '-' where i is negative, then the digits), FOR EVERY int. The world behind the call: the world before it, new blocks behind the heap (the library's 'var a [24]byte'), draws. (LAID: no walk: one application.) -/
theorem YtccjncflbbhldaaDoor.strconv_Itoa (n : Int) (h0 : -9223372036854775808 ≤ n) (h1 : n ≤ 9223372036854775807) (w : World) (htab : Lib.TabIs Tryd.prog w "internal/strconv.uint64pow10" .u64 Lib.pow10Tab) :
    Calls Tryd.prog 60 #[.int .i64 n] w fun e w' => e = .returned (.string ⟨(Lib.itoa n).toArray⟩) ∧ ∃ k os, w' = grow (w.drewN k) os := Any.strconv_Itoa YtccjncflbbhldaaDoor.laysM171 n h0 h1 w htab
def YtccjncflbbhldaaDoor.laysM173_ren : Go.Shelf.Ren := ⟨fun | 173 => 61 | 246 => 96 | 283 => 118 | 284 => 119 | 285 => 120 | 286 => 121 | 129 => 143 | 317 => 144 | 318 => 145 | 319 => 146 | 320 => 147 | 337 => 170 | 338 => 171 | n => n, fun | 2 => 2 | 3 => 3 | 9 => 9 | 4 => 4 | 171 => 180 | 0 => 0 | 53 => 169 | 37 => 25 | 5 => 5 | 173 => 182 | 212 => 205 | 51 => 203 | 20 => 20 | 213 => 206 | 46 => 79 | 232 => 28 | 233 => 264 | n => n, fun | 17 => 0 | 18 => 9 | 19 => 10 | n => n⟩
theorem YtccjncflbbhldaaDoor.laysM173 : Go.Proofs.LaysM.n173 Tryd.prog YtccjncflbbhldaaDoor.laysM173_ren := {
  mixed := by kernel_rfl
  f129 := Tryd.func143.trans (congrArg some (by kernel_rfl))
  f173 := Tryd.func61.trans (congrArg some (by kernel_rfl))
  f246 := Tryd.func96.trans (congrArg some (by kernel_rfl))
  f283 := Tryd.func118.trans (congrArg some (by kernel_rfl))
  f284 := Tryd.func119.trans (congrArg some (by kernel_rfl))
  f285 := Tryd.func120.trans (congrArg some (by kernel_rfl))
  f286 := Tryd.func121.trans (congrArg some (by kernel_rfl))
  f317 := Tryd.func144.trans (congrArg some (by kernel_rfl))
  f318 := Tryd.func145.trans (congrArg some (by kernel_rfl))
  f319 := Tryd.func146.trans (congrArg some (by kernel_rfl))
  f320 := Tryd.func147.trans (congrArg some (by kernel_rfl))
  f337 := Tryd.func170.trans (congrArg some (by kernel_rfl))
  f338 := Tryd.func171.trans (congrArg some (by kernel_rfl))
  t0 := Tryd.underlying0
  a0 := Tryd.isAgg0
  z0 := Tryd.sizeOf0
  v0 := Tryd.zeroValue0
  t2 := Tryd.underlying2
  a2 := Tryd.isAgg2
  z2 := Tryd.sizeOf2
  v2 := Tryd.zeroValue2
  t3 := Tryd.underlying3
  a3 := Tryd.isAgg3
  z3 := Tryd.sizeOf3
  v3 := Tryd.zeroValue3
  t4 := Tryd.underlying4
  a4 := Tryd.isAgg4
  z4 := Tryd.sizeOf4
  v4 := Tryd.zeroValue4
  t5 := Tryd.underlying5
  a5 := Tryd.isAgg5
  z5 := Tryd.sizeOf5
  v5 := Tryd.zeroValue5
  t9 := Tryd.underlying9
  a9 := Tryd.isAgg9
  z9 := Tryd.sizeOf9
  v9 := Tryd.zeroValue9
  t20 := Tryd.underlying20
  a20 := Tryd.isAgg20
  z20 := Tryd.sizeOf20
  v20 := Tryd.zeroValue20
  t37 := Tryd.underlying25
  a37 := Tryd.isAgg25
  z37 := Tryd.sizeOf25
  v37 := Tryd.zeroValue25
  t46 := Tryd.underlying79
  a46 := Tryd.isAgg79
  z46 := Tryd.sizeOf79
  v46 := Tryd.zeroValue79
  t51 := Tryd.underlying203
  a51 := Tryd.isAgg203
  z51 := Tryd.sizeOf203
  v51 := Tryd.zeroValue203
  t53 := Tryd.underlying169
  a53 := Tryd.isAgg169
  z53 := Tryd.sizeOf169
  v53 := Tryd.zeroValue169
  t171 := Tryd.underlying180
  a171 := Tryd.isAgg180
  z171 := Tryd.sizeOf180
  v171 := Tryd.zeroValue180
  t173 := Tryd.underlying182
  a173 := Tryd.isAgg182
  z173 := Tryd.sizeOf182
  v173 := Tryd.zeroValue182
  t212 := Tryd.underlying205
  a212 := Tryd.isAgg205
  z212 := Tryd.sizeOf205
  v212 := Tryd.zeroValue205
  t213 := Tryd.underlying206
  a213 := Tryd.isAgg206
  z213 := Tryd.sizeOf206
  t232 := Tryd.underlying28
  a232 := Tryd.isAgg28
  z232 := Tryd.sizeOf28
  v232 := Tryd.zeroValue28
  t233 := Tryd.underlying264
  a233 := Tryd.isAgg264
  z233 := Tryd.sizeOf264
  v233 := Tryd.zeroValue264
  g17 := by kernel_rfl
  g18 := by kernel_rfl
  g19 := by kernel_rfl
  i0 := by kernel_rfl
  i2 := by kernel_rfl
  i3 := by kernel_rfl
  i4 := by kernel_rfl
  i5 := by kernel_rfl
  i9 := by kernel_rfl
  i20 := by kernel_rfl
  i37 := by kernel_rfl
  i46 := by kernel_rfl
  i51 := by kernel_rfl
  i53 := by kernel_rfl
  i171 := by kernel_rfl
  i173 := by kernel_rfl
  i212 := by kernel_rfl
  i232 := by kernel_rfl
  i233 := by kernel_rfl
  m17 := by kernel_rfl
  m18 := by kernel_rfl
  m19 := by kernel_rfl }
open Go.RowKit Go.Sort Go.Lib in
/-- strconv.FormatInt: "FormatInt returns the string representation of i in the given base": AT BASE 10: i's decimal numeral, for every int64. (LAID: no walk: one application.) -/
theorem YtccjncflbbhldaaDoor.strconv_FormatInt_10 (n : Int) (h0 : -9223372036854775808 ≤ n) (h1 : n ≤ 9223372036854775807) (w : World) (htab : Lib.TabIs Tryd.prog w "internal/strconv.uint64pow10" .u64 Lib.pow10Tab) :
    Calls Tryd.prog 61 #[.int .i64 n, .int .i64 10] w fun e w' => e = .returned (.string ⟨(Lib.itoa n).toArray⟩) ∧ ∃ k os, w' = grow (w.drewN k) os := Any.strconv_FormatInt_10 YtccjncflbbhldaaDoor.laysM173 n h0 h1 w htab
def YtccjncflbbhldaaDoor.laysC172_ren : Go.Shelf.Ren := ⟨fun | 172 => 98 | 244 => 123 | 245 => 124 | 247 => 129 | 279 => 151 | 280 => 152 | 281 => 153 | 282 => 154 | 287 => 157 | 316 => 175 | 171 => 60 | 205 => 176 | 321 => 179 | 322 => 180 | 243 => 95 | 246 => 96 | 283 => 118 | 284 => 119 | 285 => 120 | 286 => 121 | 129 => 143 | 317 => 144 | 318 => 145 | 319 => 146 | 320 => 147 | 337 => 170 | 338 => 171 | n => n, fun | 9 => 9 | 3 => 3 | 75 => 117 | 76 => 118 | 4 => 4 | 5 => 5 | 167 => 209 | 37 => 25 | 0 => 0 | 85 => 166 | 2 => 2 | 168 => 210 | 53 => 169 | 175 => 215 | 46 => 79 | 210 => 240 | 127 => 160 | 145 => 267 | 143 => 265 | 21 => 21 | 171 => 180 | 173 => 182 | 212 => 205 | 51 => 203 | 20 => 20 | 213 => 206 | 232 => 28 | 233 => 264 | 80 => 122 | n => n, fun | 15 => 1 | 16 => 2 | 17 => 0 | 18 => 9 | 19 => 10 | n => n⟩
theorem YtccjncflbbhldaaDoor.laysC172 : Go.Proofs.LaysC.n172 Tryd.prog YtccjncflbbhldaaDoor.laysC172_ren := {
  mixed := by kernel_rfl
  f129 := Tryd.func143.trans (congrArg some (by kernel_rfl))
  f171 := Tryd.func60.trans (congrArg some (by kernel_rfl))
  f172 := Tryd.func98.trans (congrArg some (by kernel_rfl))
  f205 := Tryd.func176.trans (congrArg some (by kernel_rfl))
  f243 := Tryd.func95.trans (congrArg some (by kernel_rfl))
  f244 := Tryd.func123.trans (congrArg some (by kernel_rfl))
  f245 := Tryd.func124.trans (congrArg some (by kernel_rfl))
  f246 := Tryd.func96.trans (congrArg some (by kernel_rfl))
  f247 := Tryd.func129.trans (congrArg some (by kernel_rfl))
  f279 := Tryd.func151.trans (congrArg some (by kernel_rfl))
  f280 := Tryd.func152.trans (congrArg some (by kernel_rfl))
  f281 := Tryd.func153.trans (congrArg some (by kernel_rfl))
  f282 := Tryd.func154.trans (congrArg some (by kernel_rfl))
  f283 := Tryd.func118.trans (congrArg some (by kernel_rfl))
  f284 := Tryd.func119.trans (congrArg some (by kernel_rfl))
  f285 := Tryd.func120.trans (congrArg some (by kernel_rfl))
  f286 := Tryd.func121.trans (congrArg some (by kernel_rfl))
  f287 := Tryd.func157.trans (congrArg some (by kernel_rfl))
  f316 := Tryd.func175.trans (congrArg some (by kernel_rfl))
  f317 := Tryd.func144.trans (congrArg some (by kernel_rfl))
  f318 := Tryd.func145.trans (congrArg some (by kernel_rfl))
  f319 := Tryd.func146.trans (congrArg some (by kernel_rfl))
  f320 := Tryd.func147.trans (congrArg some (by kernel_rfl))
  f321 := Tryd.func179.trans (congrArg some (by kernel_rfl))
  f322 := Tryd.func180.trans (congrArg some (by kernel_rfl))
  f337 := Tryd.func170.trans (congrArg some (by kernel_rfl))
  f338 := Tryd.func171.trans (congrArg some (by kernel_rfl))
  t0 := Tryd.underlying0
  a0 := Tryd.isAgg0
  z0 := Tryd.sizeOf0
  v0 := Tryd.zeroValue0
  t2 := Tryd.underlying2
  a2 := Tryd.isAgg2
  z2 := Tryd.sizeOf2
  v2 := Tryd.zeroValue2
  t3 := Tryd.underlying3
  a3 := Tryd.isAgg3
  z3 := Tryd.sizeOf3
  v3 := Tryd.zeroValue3
  t4 := Tryd.underlying4
  a4 := Tryd.isAgg4
  z4 := Tryd.sizeOf4
  v4 := Tryd.zeroValue4
  t5 := Tryd.underlying5
  a5 := Tryd.isAgg5
  z5 := Tryd.sizeOf5
  v5 := Tryd.zeroValue5
  t9 := Tryd.underlying9
  a9 := Tryd.isAgg9
  z9 := Tryd.sizeOf9
  v9 := Tryd.zeroValue9
  t20 := Tryd.underlying20
  a20 := Tryd.isAgg20
  z20 := Tryd.sizeOf20
  v20 := Tryd.zeroValue20
  t21 := Tryd.underlying21
  a21 := Tryd.isAgg21
  z21 := Tryd.sizeOf21
  v21 := Tryd.zeroValue21
  t37 := Tryd.underlying25
  a37 := Tryd.isAgg25
  z37 := Tryd.sizeOf25
  v37 := Tryd.zeroValue25
  t46 := Tryd.underlying79
  a46 := Tryd.isAgg79
  z46 := Tryd.sizeOf79
  v46 := Tryd.zeroValue79
  t51 := Tryd.underlying203
  a51 := Tryd.isAgg203
  z51 := Tryd.sizeOf203
  v51 := Tryd.zeroValue203
  t53 := Tryd.underlying169
  a53 := Tryd.isAgg169
  z53 := Tryd.sizeOf169
  v53 := Tryd.zeroValue169
  t75 := Tryd.underlying117
  a75 := Tryd.isAgg117
  z75 := Tryd.sizeOf117
  v75 := Tryd.zeroValue117
  t76 := Tryd.underlying118
  a76 := Tryd.isAgg118
  z76 := Tryd.sizeOf118
  v76 := Tryd.zeroValue118
  t85 := Tryd.underlying166
  a85 := Tryd.isAgg166
  z85 := Tryd.sizeOf166
  v85 := Tryd.zeroValue166
  t127 := Tryd.underlying160
  a127 := Tryd.isAgg160
  z127 := Tryd.sizeOf160
  v127 := Tryd.zeroValue160
  t143 := Tryd.underlying265
  a143 := Tryd.isAgg265
  z143 := Tryd.sizeOf265
  v143 := Tryd.zeroValue265
  t145 := Tryd.underlying267
  a145 := Tryd.isAgg267
  z145 := Tryd.sizeOf267
  v145 := Tryd.zeroValue267
  t167 := Tryd.underlying209
  a167 := Tryd.isAgg209
  z167 := Tryd.sizeOf209
  v167 := Tryd.zeroValue209
  t168 := Tryd.underlying210
  a168 := Tryd.isAgg210
  z168 := Tryd.sizeOf210
  v168 := Tryd.zeroValue210
  t171 := Tryd.underlying180
  a171 := Tryd.isAgg180
  z171 := Tryd.sizeOf180
  v171 := Tryd.zeroValue180
  t173 := Tryd.underlying182
  a173 := Tryd.isAgg182
  z173 := Tryd.sizeOf182
  v173 := Tryd.zeroValue182
  t175 := Tryd.underlying215
  a175 := Tryd.isAgg215
  z175 := Tryd.sizeOf215
  v175 := Tryd.zeroValue215
  t210 := Tryd.underlying240
  a210 := Tryd.isAgg240
  z210 := Tryd.sizeOf240
  v210 := Tryd.zeroValue240
  t212 := Tryd.underlying205
  a212 := Tryd.isAgg205
  z212 := Tryd.sizeOf205
  v212 := Tryd.zeroValue205
  t213 := Tryd.underlying206
  a213 := Tryd.isAgg206
  z213 := Tryd.sizeOf206
  t232 := Tryd.underlying28
  a232 := Tryd.isAgg28
  z232 := Tryd.sizeOf28
  v232 := Tryd.zeroValue28
  t233 := Tryd.underlying264
  a233 := Tryd.isAgg264
  z233 := Tryd.sizeOf264
  v233 := Tryd.zeroValue264
  g15 := by kernel_rfl
  g16 := by kernel_rfl
  g17 := by kernel_rfl
  g18 := by kernel_rfl
  g19 := by kernel_rfl
  t80 := Tryd.underlying122
  a80 := Tryd.isAgg122
  z80 := Tryd.sizeOf122
  v80 := Tryd.zeroValue122
  i0 := by kernel_rfl
  i2 := by kernel_rfl
  i3 := by kernel_rfl
  i4 := by kernel_rfl
  i5 := by kernel_rfl
  i9 := by kernel_rfl
  i20 := by kernel_rfl
  i21 := by kernel_rfl
  i37 := by kernel_rfl
  i46 := by kernel_rfl
  i51 := by kernel_rfl
  i53 := by kernel_rfl
  i75 := by kernel_rfl
  i76 := by kernel_rfl
  i80 := by kernel_rfl
  i85 := by kernel_rfl
  i127 := by kernel_rfl
  i143 := by kernel_rfl
  i145 := by kernel_rfl
  i167 := by kernel_rfl
  i168 := by kernel_rfl
  i171 := by kernel_rfl
  i173 := by kernel_rfl
  i175 := by kernel_rfl
  i210 := by kernel_rfl
  i212 := by kernel_rfl
  i232 := by kernel_rfl
  i233 := by kernel_rfl
  m15 := by kernel_rfl
  m16 := by kernel_rfl
  m17 := by kernel_rfl
  m18 := by kernel_rfl
  m19 := by kernel_rfl
  c0 := by kernel_rfl
  c2 := by kernel_rfl
  c3 := by kernel_rfl
  c4 := by kernel_rfl
  c5 := by kernel_rfl
  c9 := by kernel_rfl
  c20 := by kernel_rfl
  c21 := by kernel_rfl
  c37 := by kernel_rfl
  c46 := by kernel_rfl
  c51 := by kernel_rfl
  c53 := by kernel_rfl
  c75 := by kernel_rfl
  c76 := by kernel_rfl
  c80 := by kernel_rfl
  c85 := by kernel_rfl
  c127 := by kernel_rfl
  c143 := by kernel_rfl
  c145 := by kernel_rfl
  c167 := by kernel_rfl
  c168 := by kernel_rfl
  c171 := by kernel_rfl
  c173 := by kernel_rfl
  c175 := by kernel_rfl
  c210 := by kernel_rfl
  c212 := by kernel_rfl
  c213 := by kernel_rfl
  c232 := by kernel_rfl
  c233 := by kernel_rfl }
open Go.RowKit in
/-- strconv.Atoi, AT EVERY STRING THAT SPELLS AN int ('Lib.atoiAll .. = .ok v'; of whatever length: leading zeros count): v, AND NO ERROR. The world: as it was, or with the one new row that '[]byte(..)' lays. (LAID: no walk: one application.) -/
theorem YtccjncflbbhldaaDoor.strconv_Atoi_ok (s : ByteArray) (hmax : s.size ≤ 9223372036854775806) (v : Int) (h : Lib.atoiAll s.data.toList = .ok v) (w : World) :
    Calls Tryd.prog 98 #[.string s] w fun e w' => e = .returned (.tuple #[.int .i64 v, .nilIface]) ∧ (w' = w ∨ ∃ t, w' = Lib.bytesWorld w 5 t) := Any.strconv_Atoi_ok YtccjncflbbhldaaDoor.laysC172 s hmax v h w
open Go.RowKit in
/-- strconv.Atoi, AT EVERY STRING THAT IS NO DECIMAL NUMERAL ('.syntax'): 0, AND AN ERROR THAT IS NOT nil: a *NumError in a new block N: {Func: "Atoi", Num: s's bytes, Err: what the variable ErrSyntax holds}. Of what was there nothing has turned. (LAID: no walk: one application.) -/
theorem YtccjncflbbhldaaDoor.strconv_Atoi_syntax (s : ByteArray) (hlim : s.size ≤ 281474976710656) (h : Lib.atoiAll s.data.toList = .«syntax») (ev : Value) (w : World) (hv : w.cell? ⟨1, 0, none⟩ = some ev) (hev : ev = .nilIface ∨ ∃ te pe, ev = .iface te pe) :
    Calls Tryd.prog 98 #[.string s] w fun e w' => ∃ N, e = .returned (.tuple #[.int .i64 (0), .iface 210 (.pointer (some ⟨N, 0, none⟩))]) ∧ w.heap.size ≤ N ∧ w'.heap[N]? = some (.cells #[.string ⟨#[65, 116, 111, 105]⟩, .string s, ev] 240 (0, 0)) ∧ Below w.heap.size w w' := Any.strconv_Atoi_syntax YtccjncflbbhldaaDoor.laysC172 s hlim h ev w hv hev
open Go.RowKit in
/-- strconv.Atoi, AT EVERY NUMERAL THAT NO int HOLDS ('.range'): THE GREATEST OR THE LEAST int, BY THE SIGN ('Lib.atoiSat'), AND AN ERROR THAT IS NOT nil: a *NumError in a new block N: {Func: "Atoi", Num: s's bytes, Err: what the variable ErrRange holds}. Of what was there nothing has turned. (LAID: no walk: one application.) -/
theorem YtccjncflbbhldaaDoor.strconv_Atoi_range (s : ByteArray) (hlim : s.size ≤ 281474976710656) (h : Lib.atoiAll s.data.toList = .range) (ev : Value) (w : World) (hv : w.cell? ⟨2, 0, none⟩ = some ev) (hev : ev = .nilIface ∨ ∃ te pe, ev = .iface te pe) :
    Calls Tryd.prog 98 #[.string s] w fun e w' => ∃ N, e = .returned (.tuple #[.int .i64 (Lib.atoiSat s.data.toList), .iface 210 (.pointer (some ⟨N, 0, none⟩))]) ∧ w.heap.size ≤ N ∧ w'.heap[N]? = some (.cells #[.string ⟨#[65, 116, 111, 105]⟩, .string s, ev] 240 (0, 0)) ∧ Below w.heap.size w w' := Any.strconv_Atoi_range YtccjncflbbhldaaDoor.laysC172 s hlim h ev w hv hev
def YtccjncflbbhldaaDoor.laysC174_ren : Go.Shelf.Ren := ⟨fun | 174 => 103 | 247 => 129 | 245 => 124 | 287 => 157 | 279 => 151 | 280 => 152 | 281 => 153 | 282 => 154 | 321 => 179 | 322 => 180 | 316 => 175 | 171 => 60 | 205 => 176 | 243 => 95 | 246 => 96 | 283 => 118 | 284 => 119 | 285 => 120 | 286 => 121 | 129 => 143 | 317 => 144 | 318 => 145 | 319 => 146 | 320 => 147 | 337 => 170 | 338 => 171 | n => n, fun | 9 => 9 | 3 => 3 | 2 => 2 | 75 => 117 | 85 => 166 | 4 => 4 | 167 => 209 | 5 => 5 | 53 => 169 | 175 => 215 | 46 => 79 | 168 => 210 | 37 => 25 | 0 => 0 | 210 => 240 | 21 => 21 | 127 => 160 | 145 => 267 | 143 => 265 | 171 => 180 | 173 => 182 | 212 => 205 | 51 => 203 | 20 => 20 | 213 => 206 | 232 => 28 | 233 => 264 | 80 => 122 | n => n, fun | 15 => 1 | 16 => 2 | 17 => 0 | 18 => 9 | 19 => 10 | n => n⟩
theorem YtccjncflbbhldaaDoor.laysC174 : Go.Proofs.LaysC.n174 Tryd.prog YtccjncflbbhldaaDoor.laysC174_ren := {
  mixed := by kernel_rfl
  f129 := Tryd.func143.trans (congrArg some (by kernel_rfl))
  f171 := Tryd.func60.trans (congrArg some (by kernel_rfl))
  f174 := Tryd.func103.trans (congrArg some (by kernel_rfl))
  f205 := Tryd.func176.trans (congrArg some (by kernel_rfl))
  f243 := Tryd.func95.trans (congrArg some (by kernel_rfl))
  f245 := Tryd.func124.trans (congrArg some (by kernel_rfl))
  f246 := Tryd.func96.trans (congrArg some (by kernel_rfl))
  f247 := Tryd.func129.trans (congrArg some (by kernel_rfl))
  f279 := Tryd.func151.trans (congrArg some (by kernel_rfl))
  f280 := Tryd.func152.trans (congrArg some (by kernel_rfl))
  f281 := Tryd.func153.trans (congrArg some (by kernel_rfl))
  f282 := Tryd.func154.trans (congrArg some (by kernel_rfl))
  f283 := Tryd.func118.trans (congrArg some (by kernel_rfl))
  f284 := Tryd.func119.trans (congrArg some (by kernel_rfl))
  f285 := Tryd.func120.trans (congrArg some (by kernel_rfl))
  f286 := Tryd.func121.trans (congrArg some (by kernel_rfl))
  f287 := Tryd.func157.trans (congrArg some (by kernel_rfl))
  f316 := Tryd.func175.trans (congrArg some (by kernel_rfl))
  f317 := Tryd.func144.trans (congrArg some (by kernel_rfl))
  f318 := Tryd.func145.trans (congrArg some (by kernel_rfl))
  f319 := Tryd.func146.trans (congrArg some (by kernel_rfl))
  f320 := Tryd.func147.trans (congrArg some (by kernel_rfl))
  f321 := Tryd.func179.trans (congrArg some (by kernel_rfl))
  f322 := Tryd.func180.trans (congrArg some (by kernel_rfl))
  f337 := Tryd.func170.trans (congrArg some (by kernel_rfl))
  f338 := Tryd.func171.trans (congrArg some (by kernel_rfl))
  t0 := Tryd.underlying0
  a0 := Tryd.isAgg0
  z0 := Tryd.sizeOf0
  v0 := Tryd.zeroValue0
  t2 := Tryd.underlying2
  a2 := Tryd.isAgg2
  z2 := Tryd.sizeOf2
  v2 := Tryd.zeroValue2
  t3 := Tryd.underlying3
  a3 := Tryd.isAgg3
  z3 := Tryd.sizeOf3
  v3 := Tryd.zeroValue3
  t4 := Tryd.underlying4
  a4 := Tryd.isAgg4
  z4 := Tryd.sizeOf4
  v4 := Tryd.zeroValue4
  t5 := Tryd.underlying5
  a5 := Tryd.isAgg5
  z5 := Tryd.sizeOf5
  v5 := Tryd.zeroValue5
  t9 := Tryd.underlying9
  a9 := Tryd.isAgg9
  z9 := Tryd.sizeOf9
  v9 := Tryd.zeroValue9
  t20 := Tryd.underlying20
  a20 := Tryd.isAgg20
  z20 := Tryd.sizeOf20
  v20 := Tryd.zeroValue20
  t21 := Tryd.underlying21
  a21 := Tryd.isAgg21
  z21 := Tryd.sizeOf21
  v21 := Tryd.zeroValue21
  t37 := Tryd.underlying25
  a37 := Tryd.isAgg25
  z37 := Tryd.sizeOf25
  v37 := Tryd.zeroValue25
  t46 := Tryd.underlying79
  a46 := Tryd.isAgg79
  z46 := Tryd.sizeOf79
  v46 := Tryd.zeroValue79
  t51 := Tryd.underlying203
  a51 := Tryd.isAgg203
  z51 := Tryd.sizeOf203
  v51 := Tryd.zeroValue203
  t53 := Tryd.underlying169
  a53 := Tryd.isAgg169
  z53 := Tryd.sizeOf169
  v53 := Tryd.zeroValue169
  t75 := Tryd.underlying117
  a75 := Tryd.isAgg117
  z75 := Tryd.sizeOf117
  v75 := Tryd.zeroValue117
  t85 := Tryd.underlying166
  a85 := Tryd.isAgg166
  z85 := Tryd.sizeOf166
  v85 := Tryd.zeroValue166
  t127 := Tryd.underlying160
  a127 := Tryd.isAgg160
  z127 := Tryd.sizeOf160
  v127 := Tryd.zeroValue160
  t143 := Tryd.underlying265
  a143 := Tryd.isAgg265
  z143 := Tryd.sizeOf265
  v143 := Tryd.zeroValue265
  t145 := Tryd.underlying267
  a145 := Tryd.isAgg267
  z145 := Tryd.sizeOf267
  v145 := Tryd.zeroValue267
  t167 := Tryd.underlying209
  a167 := Tryd.isAgg209
  z167 := Tryd.sizeOf209
  v167 := Tryd.zeroValue209
  t168 := Tryd.underlying210
  a168 := Tryd.isAgg210
  z168 := Tryd.sizeOf210
  v168 := Tryd.zeroValue210
  t171 := Tryd.underlying180
  a171 := Tryd.isAgg180
  z171 := Tryd.sizeOf180
  v171 := Tryd.zeroValue180
  t173 := Tryd.underlying182
  a173 := Tryd.isAgg182
  z173 := Tryd.sizeOf182
  v173 := Tryd.zeroValue182
  t175 := Tryd.underlying215
  a175 := Tryd.isAgg215
  z175 := Tryd.sizeOf215
  v175 := Tryd.zeroValue215
  t210 := Tryd.underlying240
  a210 := Tryd.isAgg240
  z210 := Tryd.sizeOf240
  v210 := Tryd.zeroValue240
  t212 := Tryd.underlying205
  a212 := Tryd.isAgg205
  z212 := Tryd.sizeOf205
  v212 := Tryd.zeroValue205
  t213 := Tryd.underlying206
  a213 := Tryd.isAgg206
  z213 := Tryd.sizeOf206
  t232 := Tryd.underlying28
  a232 := Tryd.isAgg28
  z232 := Tryd.sizeOf28
  v232 := Tryd.zeroValue28
  t233 := Tryd.underlying264
  a233 := Tryd.isAgg264
  z233 := Tryd.sizeOf264
  v233 := Tryd.zeroValue264
  g15 := by kernel_rfl
  g16 := by kernel_rfl
  g17 := by kernel_rfl
  g18 := by kernel_rfl
  g19 := by kernel_rfl
  t80 := Tryd.underlying122
  a80 := Tryd.isAgg122
  z80 := Tryd.sizeOf122
  v80 := Tryd.zeroValue122
  i0 := by kernel_rfl
  i2 := by kernel_rfl
  i3 := by kernel_rfl
  i4 := by kernel_rfl
  i5 := by kernel_rfl
  i9 := by kernel_rfl
  i20 := by kernel_rfl
  i21 := by kernel_rfl
  i37 := by kernel_rfl
  i46 := by kernel_rfl
  i51 := by kernel_rfl
  i53 := by kernel_rfl
  i75 := by kernel_rfl
  i80 := by kernel_rfl
  i85 := by kernel_rfl
  i127 := by kernel_rfl
  i143 := by kernel_rfl
  i145 := by kernel_rfl
  i167 := by kernel_rfl
  i168 := by kernel_rfl
  i171 := by kernel_rfl
  i173 := by kernel_rfl
  i175 := by kernel_rfl
  i210 := by kernel_rfl
  i212 := by kernel_rfl
  i232 := by kernel_rfl
  i233 := by kernel_rfl
  m15 := by kernel_rfl
  m16 := by kernel_rfl
  m17 := by kernel_rfl
  m18 := by kernel_rfl
  m19 := by kernel_rfl
  c0 := by kernel_rfl
  c2 := by kernel_rfl
  c3 := by kernel_rfl
  c4 := by kernel_rfl
  c5 := by kernel_rfl
  c9 := by kernel_rfl
  c20 := by kernel_rfl
  c21 := by kernel_rfl
  c37 := by kernel_rfl
  c46 := by kernel_rfl
  c51 := by kernel_rfl
  c53 := by kernel_rfl
  c75 := by kernel_rfl
  c80 := by kernel_rfl
  c85 := by kernel_rfl
  c127 := by kernel_rfl
  c143 := by kernel_rfl
  c145 := by kernel_rfl
  c167 := by kernel_rfl
  c168 := by kernel_rfl
  c171 := by kernel_rfl
  c173 := by kernel_rfl
  c175 := by kernel_rfl
  c210 := by kernel_rfl
  c212 := by kernel_rfl
  c213 := by kernel_rfl
  c232 := by kernel_rfl
  c233 := by kernel_rfl }
open Go.RowKit in
/-- strconv.ParseInt(s, 10, 64), AT EVERY STRING THAT SPELLS AN int64 ('Lib.parseIntB 64 s.data.toList = .ok v'): v, AND NO ERROR. (LAID: no walk: one application.) -/
theorem YtccjncflbbhldaaDoor.strconv_ParseInt_10_at64_ok (s : ByteArray) (hmax : s.size ≤ 9223372036854775806) (v : Int) (h : Lib.parseIntB 64 s.data.toList = .ok v) (w : World) :
    Calls Tryd.prog 103 #[.string s, .int .i64 10, .int .i64 64] w fun e w' => e = .returned (.tuple #[.int .i64 v, .nilIface]) ∧ (w' = w ∨ ∃ t, w' = Lib.bytesWorld w 5 t) := Any.strconv_ParseInt_10_at64_ok YtccjncflbbhldaaDoor.laysC174 s hmax v h w
open Go.RowKit in
/-- strconv.ParseInt(s, 10, 64), AT EVERY STRING THAT IS NO DECIMAL NUMERAL: 0, AND AN ERROR THAT IS NOT nil: a *NumError in a new block N: {Func: "ParseInt", Num: s's bytes, Err: what the variable ErrSyntax holds}. Of what was there nothing has turned. (LAID: no walk: one application.) -/
theorem YtccjncflbbhldaaDoor.strconv_ParseInt_10_at64_syntax (s : ByteArray) (hlim : s.size ≤ 281474976710656) (h : Lib.parseIntB 64 s.data.toList = .«syntax») (ev : Value) (w : World) (hv : w.cell? ⟨1, 0, none⟩ = some ev) (hev : ev = .nilIface ∨ ∃ te pe, ev = .iface te pe) :
    Calls Tryd.prog 103 #[.string s, .int .i64 10, .int .i64 64] w fun e w' => ∃ N, e = .returned (.tuple #[.int .i64 (0), .iface 210 (.pointer (some ⟨N, 0, none⟩))]) ∧ w.heap.size ≤ N ∧ w'.heap[N]? = some (.cells #[.string ⟨#[80, 97, 114, 115, 101, 73, 110, 116]⟩, .string s, ev] 240 (0, 0)) ∧ Below w.heap.size w w' := Any.strconv_ParseInt_10_at64_syntax YtccjncflbbhldaaDoor.laysC174 s hlim h ev w hv hev
open Go.RowKit in
/-- strconv.ParseInt(s, 10, 64), AT EVERY NUMERAL THAT NO int64 HOLDS: THE GREATEST OR THE LEAST int64, BY THE SIGN ('Lib.intSat 64'), AND AN ERROR THAT IS NOT nil: a *NumError in a new block N: {Func: "ParseInt", Num: s's bytes, Err: what the variable ErrRange holds}. Of what was there nothing has turned. (LAID: no walk: one application.) -/
theorem YtccjncflbbhldaaDoor.strconv_ParseInt_10_at64_range (s : ByteArray) (hlim : s.size ≤ 281474976710656) (h : Lib.parseIntB 64 s.data.toList = .range) (ev : Value) (w : World) (hv : w.cell? ⟨2, 0, none⟩ = some ev) (hev : ev = .nilIface ∨ ∃ te pe, ev = .iface te pe) :
    Calls Tryd.prog 103 #[.string s, .int .i64 10, .int .i64 64] w fun e w' => ∃ N, e = .returned (.tuple #[.int .i64 (Lib.intSat 64 s.data.toList), .iface 210 (.pointer (some ⟨N, 0, none⟩))]) ∧ w.heap.size ≤ N ∧ w'.heap[N]? = some (.cells #[.string ⟨#[80, 97, 114, 115, 101, 73, 110, 116]⟩, .string s, ev] 240 (0, 0)) ∧ Below w.heap.size w w' := Any.strconv_ParseInt_10_at64_range YtccjncflbbhldaaDoor.laysC174 s hlim h ev w hv hev
def YtccjncflbbhldaaDoor.lays100_ren : Go.Shelf.Ren := ⟨fun | 100 => 99 | 207 => 125 | n => n, fun | 9 => 9 | 4 => 4 | 3 => 3 | n => n, fun | n => n⟩
theorem YtccjncflbbhldaaDoor.lays100 : Go.Proofs.Lays.n100 Tryd.prog YtccjncflbbhldaaDoor.lays100_ren := {
  mixed := by kernel_rfl
  f100 := Tryd.func99.trans (congrArg some (by kernel_rfl))
  f207 := Tryd.func125.trans (congrArg some (by kernel_rfl))
  t3 := Tryd.underlying3
  a3 := Tryd.isAgg3
  z3 := Tryd.sizeOf3
  v3 := Tryd.zeroValue3
  t4 := Tryd.underlying4
  a4 := Tryd.isAgg4
  z4 := Tryd.sizeOf4
  v4 := Tryd.zeroValue4
  t9 := Tryd.underlying9
  a9 := Tryd.isAgg9
  z9 := Tryd.sizeOf9
  v9 := Tryd.zeroValue9 }
open Go.RowKit Go.Lib in
/-- strings.HasSuffix: "HasSuffix reports whether the string s ends with suffix.": IT RETURNS 'Lib.hasSuffix s suffix'; the world is as it was. ('hs': no Go string is longer: a caller has it of every string that it was handed.) (LAID: no walk: one application.) -/
theorem YtccjncflbbhldaaDoor.strings_HasSuffix (s p : ByteArray) (w : World) (hs : s.size ≤ 9223372036854775807) :
    Calls Tryd.prog 99 #[.string s, .string p] w fun e w' => e = .returned (.bool (Lib.hasSuffix s.data.toList p.data.toList)) ∧ w' = w := Any.strings_HasSuffix YtccjncflbbhldaaDoor.lays100 s p w hs
def YtccjncflbbhldaaDoor.lays102_ren : Go.Shelf.Ren := ⟨fun | 102 => 100 | 209 => 126 | 207 => 125 | n => n, fun | 9 => 9 | 4 => 4 | 3 => 3 | n => n, fun | n => n⟩
theorem YtccjncflbbhldaaDoor.lays102 : Go.Proofs.Lays.n102 Tryd.prog YtccjncflbbhldaaDoor.lays102_ren := {
  mixed := by kernel_rfl
  f102 := Tryd.func100.trans (congrArg some (by kernel_rfl))
  f207 := Tryd.func125.trans (congrArg some (by kernel_rfl))
  f209 := Tryd.func126.trans (congrArg some (by kernel_rfl))
  t3 := Tryd.underlying3
  a3 := Tryd.isAgg3
  z3 := Tryd.sizeOf3
  v3 := Tryd.zeroValue3
  t4 := Tryd.underlying4
  a4 := Tryd.isAgg4
  z4 := Tryd.sizeOf4
  v4 := Tryd.zeroValue4
  t9 := Tryd.underlying9
  a9 := Tryd.isAgg9
  z9 := Tryd.sizeOf9
  v9 := Tryd.zeroValue9 }
open Go.RowKit Go.Lib in
/-- strings.TrimSuffix: "TrimSuffix returns s without the provided trailing suffix string. If s doesn't end with suffix, s is returned unchanged.": IT RETURNS 'Lib.trimSuffix s suffix'; the world is as it was. (LAID: no walk: one application.) -/
theorem YtccjncflbbhldaaDoor.strings_TrimSuffix (s p : ByteArray) (w : World) (hs : s.size ≤ 9223372036854775807) :
    Calls Tryd.prog 100 #[.string s, .string p] w fun e w' => e = .returned (.string ⟨(Lib.trimSuffix s.data.toList p.data.toList).toArray⟩) ∧ w' = w := Any.strings_TrimSuffix YtccjncflbbhldaaDoor.lays102 s p w hs
def YtccjncflbbhldaaDoor.lays146_ren : Go.Shelf.Ren := ⟨fun | 146 => 97 | 221 => 122 | 268 => 148 | 138 => 149 | 143 => 150 | 195 => 172 | 197 => 155 | 218 => 173 | 219 => 174 | 260 => 177 | 217 => 192 | 225 => 193 | 224 => 194 | 267 => 195 | 266 => 201 | 314 => 202 | n => n, fun | 9 => 9 | 31 => 125 | 3 => 3 | 4 => 4 | 0 => 0 | 105 => 213 | 21 => 21 | 5 => 5 | 46 => 79 | 119 => 268 | 139 => 271 | 138 => 270 | 146 => 277 | 51 => 203 | n => n, fun | 1 => 11 | 3 => 12 | 4 => 13 | n => n⟩
theorem YtccjncflbbhldaaDoor.lays146 : Go.Proofs.Lays.n146 Tryd.prog YtccjncflbbhldaaDoor.lays146_ren := {
  mixed := by kernel_rfl
  f138 := Tryd.func149.trans (congrArg some (by kernel_rfl))
  f143 := Tryd.func150.trans (congrArg some (by kernel_rfl))
  f146 := Tryd.func97.trans (congrArg some (by kernel_rfl))
  f195 := Tryd.func172.trans (congrArg some (by kernel_rfl))
  f197 := Tryd.func155.trans (congrArg some (by kernel_rfl))
  f217 := Tryd.func192.trans (congrArg some (by kernel_rfl))
  f218 := Tryd.func173.trans (congrArg some (by kernel_rfl))
  f219 := Tryd.func174.trans (congrArg some (by kernel_rfl))
  f221 := Tryd.func122.trans (congrArg some (by kernel_rfl))
  f224 := Tryd.func194.trans (congrArg some (by kernel_rfl))
  f225 := Tryd.func193.trans (congrArg some (by kernel_rfl))
  f260 := Tryd.func177.trans (congrArg some (by kernel_rfl))
  f266 := Tryd.func201.trans (congrArg some (by kernel_rfl))
  f267 := Tryd.func195.trans (congrArg some (by kernel_rfl))
  f268 := Tryd.func148.trans (congrArg some (by kernel_rfl))
  f314 := Tryd.func202.trans (congrArg some (by kernel_rfl))
  t0 := Tryd.underlying0
  a0 := Tryd.isAgg0
  z0 := Tryd.sizeOf0
  v0 := Tryd.zeroValue0
  t3 := Tryd.underlying3
  a3 := Tryd.isAgg3
  z3 := Tryd.sizeOf3
  v3 := Tryd.zeroValue3
  t4 := Tryd.underlying4
  a4 := Tryd.isAgg4
  z4 := Tryd.sizeOf4
  v4 := Tryd.zeroValue4
  t5 := Tryd.underlying5
  a5 := Tryd.isAgg5
  z5 := Tryd.sizeOf5
  v5 := Tryd.zeroValue5
  t9 := Tryd.underlying9
  a9 := Tryd.isAgg9
  z9 := Tryd.sizeOf9
  v9 := Tryd.zeroValue9
  t21 := Tryd.underlying21
  a21 := Tryd.isAgg21
  z21 := Tryd.sizeOf21
  v21 := Tryd.zeroValue21
  t31 := Tryd.underlying125
  a31 := Tryd.isAgg125
  z31 := Tryd.sizeOf125
  v31 := Tryd.zeroValue125
  t46 := Tryd.underlying79
  a46 := Tryd.isAgg79
  z46 := Tryd.sizeOf79
  v46 := Tryd.zeroValue79
  t51 := Tryd.underlying203
  a51 := Tryd.isAgg203
  z51 := Tryd.sizeOf203
  v51 := Tryd.zeroValue203
  t105 := Tryd.underlying213
  a105 := Tryd.isAgg213
  z105 := Tryd.sizeOf213
  v105 := Tryd.zeroValue213
  t119 := Tryd.underlying268
  a119 := Tryd.isAgg268
  z119 := Tryd.sizeOf268
  t138 := Tryd.underlying270
  a138 := Tryd.isAgg270
  z138 := Tryd.sizeOf270
  v138 := Tryd.zeroValue270
  t139 := Tryd.underlying271
  a139 := Tryd.isAgg271
  z139 := Tryd.sizeOf271
  v139 := Tryd.zeroValue271
  t146 := Tryd.underlying277
  a146 := Tryd.isAgg277
  z146 := Tryd.sizeOf277
  v146 := Tryd.zeroValue277
  g1 := by kernel_rfl
  g3 := by kernel_rfl
  g4 := by kernel_rfl }
open Go.RowKit Go.Lib in
/-- strings.Split. (LAID: no walk: one application.) -/
theorem YtccjncflbbhldaaDoor.strings_Split (s sep : ByteArray) (m : Int) (w : World) (hs : s.size < 4294967281) (hm : w.cell? ⟨11, 0, none⟩ = some (.int .i64 m)) (h1 : 1 ≤ sep.size) :
    Calls Tryd.prog 97 #[.string s, .string sep] w fun e w' =>
      e = .returned (.slice (some ⟨w.heap.size, 0, none⟩) (Lib.countB s sep + 1) (Lib.countB s sep + 1)) ∧ w' = w.alloc (.cells ((Lib.splitB sep 0 (Lib.countB s sep) s).map Value.string).toArray 9) := Any.strings_Split YtccjncflbbhldaaDoor.lays146 (by kernel_rfl) s sep m w hs hm h1
def YtccjncflbbhldaaDoor.lays155_ren : Go.Shelf.Ren := ⟨fun | 155 => 101 | 154 => 127 | 138 => 149 | 165 => 128 | 143 => 150 | 166 => 59 | 197 => 155 | 169 => 62 | 195 => 172 | 218 => 173 | 240 => 94 | 241 => 156 | 219 => 174 | 260 => 177 | 276 => 117 | 277 => 178 | 217 => 192 | 225 => 193 | 224 => 194 | 267 => 195 | 266 => 201 | 314 => 202 | n => n, fun | 9 => 9 | 3 => 3 | 4 => 4 | 72 => 115 | 0 => 0 | 76 => 118 | 105 => 213 | 21 => 21 | 5 => 5 | 70 => 113 | 20 => 20 | 37 => 25 | 75 => 117 | 127 => 160 | 164 => 178 | 46 => 79 | 119 => 268 | 139 => 271 | 138 => 270 | 146 => 277 | 51 => 203 | 80 => 122 | n => n, fun | 1 => 11 | 3 => 12 | 4 => 13 | n => n⟩
theorem YtccjncflbbhldaaDoor.lays155 : Go.Proofs.Lays.n155 Tryd.prog YtccjncflbbhldaaDoor.lays155_ren := {
  mixed := by kernel_rfl
  f138 := Tryd.func149.trans (congrArg some (by kernel_rfl))
  f143 := Tryd.func150.trans (congrArg some (by kernel_rfl))
  f154 := Tryd.func127.trans (congrArg some (by kernel_rfl))
  f155 := Tryd.func101.trans (congrArg some (by kernel_rfl))
  f165 := Tryd.func128.trans (congrArg some (by kernel_rfl))
  f166 := Tryd.func59.trans (congrArg some (by kernel_rfl))
  f169 := Tryd.func62.trans (congrArg some (by kernel_rfl))
  f195 := Tryd.func172.trans (congrArg some (by kernel_rfl))
  f197 := Tryd.func155.trans (congrArg some (by kernel_rfl))
  f217 := Tryd.func192.trans (congrArg some (by kernel_rfl))
  f218 := Tryd.func173.trans (congrArg some (by kernel_rfl))
  f219 := Tryd.func174.trans (congrArg some (by kernel_rfl))
  f224 := Tryd.func194.trans (congrArg some (by kernel_rfl))
  f225 := Tryd.func193.trans (congrArg some (by kernel_rfl))
  f240 := Tryd.func94.trans (congrArg some (by kernel_rfl))
  f241 := Tryd.func156.trans (congrArg some (by kernel_rfl))
  f260 := Tryd.func177.trans (congrArg some (by kernel_rfl))
  f266 := Tryd.func201.trans (congrArg some (by kernel_rfl))
  f267 := Tryd.func195.trans (congrArg some (by kernel_rfl))
  f276 := Tryd.func117.trans (congrArg some (by kernel_rfl))
  f277 := Tryd.func178.trans (congrArg some (by kernel_rfl))
  f314 := Tryd.func202.trans (congrArg some (by kernel_rfl))
  t0 := Tryd.underlying0
  a0 := Tryd.isAgg0
  z0 := Tryd.sizeOf0
  v0 := Tryd.zeroValue0
  t3 := Tryd.underlying3
  a3 := Tryd.isAgg3
  z3 := Tryd.sizeOf3
  v3 := Tryd.zeroValue3
  t4 := Tryd.underlying4
  a4 := Tryd.isAgg4
  z4 := Tryd.sizeOf4
  v4 := Tryd.zeroValue4
  t5 := Tryd.underlying5
  a5 := Tryd.isAgg5
  z5 := Tryd.sizeOf5
  v5 := Tryd.zeroValue5
  t9 := Tryd.underlying9
  a9 := Tryd.isAgg9
  z9 := Tryd.sizeOf9
  v9 := Tryd.zeroValue9
  t20 := Tryd.underlying20
  a20 := Tryd.isAgg20
  z20 := Tryd.sizeOf20
  v20 := Tryd.zeroValue20
  t21 := Tryd.underlying21
  a21 := Tryd.isAgg21
  z21 := Tryd.sizeOf21
  v21 := Tryd.zeroValue21
  t37 := Tryd.underlying25
  a37 := Tryd.isAgg25
  z37 := Tryd.sizeOf25
  v37 := Tryd.zeroValue25
  t46 := Tryd.underlying79
  a46 := Tryd.isAgg79
  z46 := Tryd.sizeOf79
  v46 := Tryd.zeroValue79
  t51 := Tryd.underlying203
  a51 := Tryd.isAgg203
  z51 := Tryd.sizeOf203
  v51 := Tryd.zeroValue203
  t70 := Tryd.underlying113
  a70 := Tryd.isAgg113
  z70 := Tryd.sizeOf113
  v70 := Tryd.zeroValue113
  t72 := Tryd.underlying115
  a72 := Tryd.isAgg115
  z72 := Tryd.sizeOf115
  v72 := Tryd.zeroValue115
  t75 := Tryd.underlying117
  a75 := Tryd.isAgg117
  z75 := Tryd.sizeOf117
  v75 := Tryd.zeroValue117
  t76 := Tryd.underlying118
  a76 := Tryd.isAgg118
  z76 := Tryd.sizeOf118
  v76 := Tryd.zeroValue118
  t105 := Tryd.underlying213
  a105 := Tryd.isAgg213
  z105 := Tryd.sizeOf213
  v105 := Tryd.zeroValue213
  t119 := Tryd.underlying268
  a119 := Tryd.isAgg268
  z119 := Tryd.sizeOf268
  t127 := Tryd.underlying160
  a127 := Tryd.isAgg160
  z127 := Tryd.sizeOf160
  v127 := Tryd.zeroValue160
  t138 := Tryd.underlying270
  a138 := Tryd.isAgg270
  z138 := Tryd.sizeOf270
  v138 := Tryd.zeroValue270
  t139 := Tryd.underlying271
  a139 := Tryd.isAgg271
  z139 := Tryd.sizeOf271
  v139 := Tryd.zeroValue271
  t146 := Tryd.underlying277
  a146 := Tryd.isAgg277
  z146 := Tryd.sizeOf277
  v146 := Tryd.zeroValue277
  t164 := Tryd.underlying178
  a164 := Tryd.isAgg178
  z164 := Tryd.sizeOf178
  v164 := Tryd.zeroValue178
  g1 := by kernel_rfl
  g3 := by kernel_rfl
  g4 := by kernel_rfl }
theorem YtccjncflbbhldaaDoor.Builder_Extra_155 : Builder.Extra Tryd.prog YtccjncflbbhldaaDoor.lays155_ren := {
  sizeBuilder := by kernel_rfl
  liesBuilder := by kernel_rfl
  t5 := Tryd.underlying5
  a5 := Tryd.isAgg5
  z5 := Tryd.sizeOf5
  v5 := Tryd.zeroValue5
  infoByte := by kernel_rfl
  cellsByte := by kernel_rfl
  sizeByte := by kernel_rfl
  neB5 := by decide }
open Go.RowKit Go.Lib in
/-- strings.ReplaceAll: "ReplaceAll returns a copy of the string s with all non-overlapping instances of old replaced by new.": AT AN old THAT IS NOT EMPTY: 'Lib.replaceAll s old new'. (LAID: no walk: one application.) -/
theorem YtccjncflbbhldaaDoor.strings_ReplaceAll (s old new : ByteArray) (m : Int) (w : World) (hs : s.size < 4294967281) (hm : w.cell? ⟨11, 0, none⟩ = some (.int .i64 m)) (h1 : 1 ≤ old.size) (hlen : s.size + Lib.countB s old * new.size ≤ 140737488355328) :
    Calls Tryd.prog 101 #[.string s, .string old, .string new] w fun e w' =>
      e = .returned (.string ⟨(Lib.replaceAll s.data.toList old.data.toList new.data.toList).toArray⟩) ∧ Below w.heap.size w w' := Any.strings_ReplaceAll YtccjncflbbhldaaDoor.lays155 YtccjncflbbhldaaDoor.Builder_Extra_155 s old new m w hs hm h1 hlen
end Go.Proofs
/-! ## PathPure -/
set_option maxRecDepth 10000
namespace Go.Proofs.YtccjncflbbhldaaDoor
open Go.Lib

structure Tl where
  H : Int
  L : Int
  N : Int
  W : Int
  D : Bool
deriving DecidableEq

/-! ### splitting at a byte -/
def cutAt (c : UInt8) : List UInt8 → List (List UInt8)
  | [] => [[]]
  | b :: l => if b = c then [] :: cutAt c l else match cutAt c l with
    | [] => [[b]]
    | x :: r => (b :: x) :: r
theorem cutAt_ne (c : UInt8) : ∀ l, cutAt c l ≠ []
  | [] => by simp [cutAt]
  | b :: l => by
    unfold cutAt
    split
    · simp
    · split <;> simp
theorem cutAt_app {c : UInt8} : ∀ {a : List UInt8} (t : List UInt8), c ∉ a → cutAt c (a ++ c :: t) = a :: cutAt c t
  | [], t, _ => by simp [cutAt]
  | b :: a, t, h => by
    simp only [List.mem_cons, not_or] at h
    rw [List.cons_append, cutAt, if_neg (fun e => h.1 e.symm), cutAt_app t h.2]
theorem cutAt_one {c : UInt8} : ∀ {a : List UInt8}, c ∉ a → cutAt c a = [a]
  | [], _ => rfl
  | b :: a, h => by
    simp only [List.mem_cons, not_or] at h
    rw [cutAt, if_neg (fun e => h.1 e.symm), cutAt_one h.2]
def slashes (ps : List (List UInt8)) : List UInt8 := ps.flatMap (47 :: ·)
theorem cutAt_slashes : ∀ (ps : List (List UInt8)) (x : List UInt8), 47 ∉ x → (∀ p ∈ ps, 47 ∉ p) → cutAt 47 (x ++ slashes ps) = x :: ps
  | [], x, hx, _ => by simp [slashes, cutAt_one hx]
  | p :: ps, x, hx, h => by
    have : x ++ slashes (p :: ps) = x ++ 47 :: (p ++ slashes ps) := by simp [slashes]
    rw [this, cutAt_app _ hx, cutAt_slashes ps p (h p (by simp)) fun q hq => h q (by simp [hq])]
theorem index_app {c : UInt8} : ∀ {a : List UInt8} (t : List UInt8), c ∉ a → index (a ++ c :: t) [c] = a.length
  | [], t, _ => by simp [index]
  | b :: a, t, h => by
    simp only [List.mem_cons, not_or] at h
    rw [List.cons_append, index, index_app t h.2, if_neg]
    · rw [if_neg]
      · rw [List.length_cons]; omega
      · rw [beq_iff_eq]; omega
    · simp [Ne.symm (Ne.intro h.1), h.1]
theorem index_none {c : UInt8} : ∀ {a : List UInt8}, c ∉ a → index a [c] = -1
  | [], _ => by simp [index]
  | b :: a, h => by
    simp only [List.mem_cons, not_or] at h
    rw [index, index_none h.2, if_neg]
    · rfl
    · simp [h.1]
theorem split_cutAt (c : UInt8) : ∀ (n : Nat) (s : List UInt8), s.length ≤ n → splitK [c] 0 (count s [c]) s = cutAt c s := by
  intro n
  induction n with
  | zero =>
    intro s hs
    obtain rfl : s = [] := List.eq_nil_of_length_eq_zero (by omega)
    rw [count_one]; rfl
  | succ n ih =>
    intro s hs
    by_cases h : c ∈ s
    · obtain ⟨a, t, rfl, ha⟩ := List.eq_append_cons_of_mem h
      have hc : count (a ++ c :: t) [c] = count t [c] + 1 := by
        rw [count_one, count_one, List.count_append, List.count_cons_self, List.count_eq_zero.2 ha]; omega
      have hi := index_app t ha
      rw [hc, splitK, hi, if_neg (by rw [beq_iff_eq]; omega), cutAt_app t ha]
      have e1 : (a ++ c :: t).take ((a.length : Int).toNat + 0) = a := by simp
      have e2 : (a ++ c :: t).drop ((a.length : Int).toNat + [c].length) = t := by
        rw [Int.toNat_natCast, show a ++ c :: t = (a ++ [c]) ++ t by simp, show a.length + [c].length = (a ++ [c]).length by simp, List.drop_left]
      rw [e1, e2, ih t (by simp at hs; omega)]
    · rw [count_one, List.count_eq_zero.2 h, cutAt_one h]; rfl
theorem replaceAll_one (c : UInt8) (s : List UInt8) : replaceAll s [c] [] = s.filter (· ≠ c) := by
  have key : ∀ (n : Nat) (s : List UInt8), s.length ≤ n → replaceK [c] [] (count s [c]) s = s.filter (· ≠ c) := by
    intro n
    induction n with
    | zero =>
      intro s hs
      obtain rfl : s = [] := List.eq_nil_of_length_eq_zero (by omega)
      rw [count_one]; rfl
    | succ n ih =>
      intro s hs
      by_cases h : c ∈ s
      · obtain ⟨a, t, rfl, ha⟩ := List.eq_append_cons_of_mem h
        have hc : count (a ++ c :: t) [c] = count t [c] + 1 := by
          rw [count_one, count_one, List.count_append, List.count_cons_self, List.count_eq_zero.2 ha]; omega
        rw [hc, replaceK_hit [c] [] _ _ a.length (index_app t ha)]
        have e1 : (a ++ c :: t).take a.length = a := by simp
        have e2 : (a ++ c :: t).drop (a.length + [c].length) = t := by
          rw [show a ++ c :: t = (a ++ [c]) ++ t by simp, show a.length + [c].length = (a ++ [c]).length by simp, List.drop_left]
        rw [e1, e2, ih t (by simp at hs; omega), List.append_nil, List.filter_append, List.filter_cons_of_neg (by simp)]
        congr 1
        refine (List.filter_eq_self.2 fun x hx => ?_).symm
        simp only [ne_eq, decide_not, Bool.not_eq_eq_eq_not, Bool.not_true, decide_eq_false_iff_not]
        exact fun e => ha (e ▸ hx)
      · rw [count_one, List.count_eq_zero.2 h]
        show s = _
        refine (List.filter_eq_self.2 fun x hx => ?_).symm
        simp only [ne_eq, decide_not, Bool.not_eq_eq_eq_not, Bool.not_true, decide_eq_false_iff_not]
        exact fun e => h (e ▸ hx)
  unfold replaceAll replace
  rw [if_neg (by simp)]
  have : replaceNum s [c] (-1) = count s [c] := by unfold replaceNum; rw [if_pos (.inl (by decide))]
  rw [this]
  exact key s.length s (Nat.le_refl _)

/-! ### numerals -/
def isDig (b : UInt8) : Prop := 48 ≤ b.toNat ∧ b.toNat ≤ 57
theorem dig_of (i : Nat) (h : i < 10) : (UInt8.ofNat (48 + i)).toNat = 48 + i := by
  simp only [UInt8.toNat_ofNat']; omega
theorem dec_dig : ∀ (u : Nat), ∀ b ∈ decDigits u, isDig b := by
  intro u
  induction u using Nat.strongRecOn with
  | ind u ih =>
    intro b hb
    rw [decDigits] at hb
    split at hb
    · rename_i h
      simp only [List.mem_singleton] at hb
      subst hb
      unfold isDig; rw [dig_of u h]; omega
    · rcases List.mem_append.1 hb with hb | hb
      · exact ih (u / 10) (by omega) b hb
      · simp only [List.mem_singleton] at hb
        subst hb
        unfold isDig; rw [dig_of _ (Nat.mod_lt _ (by decide))]; omega
theorem parse_app : ∀ (l r : List UInt8) (acc m : Nat), parseUint10 acc l = .ok m → parseUint10 acc (l ++ r) = parseUint10 m r
  | [], r, acc, m, h => by
    simp only [parseUint10] at h
    injection h with h
    subst h; rfl
  | c :: l, r, acc, m, h => by
    rw [parseUint10] at h
    rw [List.cons_append, parseUint10]
    split at h
    · rename_i g
      rw [if_pos g]
      split at h
      · cases h
      · rename_i g2
        rw [if_neg g2]
        split at h
        · cases h
        · rename_i g3
          rw [if_neg g3]
          exact parse_app l r _ m h
    · cases h
theorem parse_dec : ∀ (u : Nat), u < 9223372036854775808 → parseUint10 0 (decDigits u) = .ok u := by
  intro u
  induction u using Nat.strongRecOn with
  | ind u ih =>
    intro hu
    have one : ∀ (m i : Nat), i < 10 → m < 922337203685477581 → parseUint10 m [UInt8.ofNat (48 + i)] = .ok (m * 10 + i) := by
      intro m i hi hm
      unfold parseUint10
      rw [dig_of i hi, if_pos (by omega), if_neg (by omega), if_neg (by omega)]
      unfold parseUint10
      rw [show 48 + i - 48 = i by omega]
    rw [decDigits]
    split
    · rename_i h
      have := one 0 u h (by omega)
      simpa using this
    · rw [parse_app _ _ 0 (u / 10) (ih (u / 10) (by omega) (by omega)), one (u / 10) (u % 10) (Nat.mod_lt _ (by decide)) (by omega), show u / 10 * 10 + u % 10 = u by omega]
theorem parse_zero (l : List UInt8) : parseUint10 0 (48 :: l) = parseUint10 0 l := by
  rw [parseUint10, if_pos (by decide), if_neg (by decide), if_neg (by decide)]
  rfl
/-- what Atoi and ParseInt hand back, besides the error -/
def atoiV (l : List UInt8) : Int := match atoiAll l with | .ok v => v | .syntax => 0 | .range => atoiSat l
def parseV (l : List UInt8) : Int := match parseIntB 64 l with | .ok v => v | .syntax => 0 | .range => intSat 64 l
theorem dec_ne (u : Nat) : ∃ c r, decDigits u = c :: r ∧ isDig c := by
  have hl : 0 < (decDigits u).length := by rw [decDigits_length]; exact nDigits_pos u
  match hd : decDigits u with
  | [] => rw [hd] at hl; simp at hl
  | c :: r => exact ⟨c, r, rfl, dec_dig u c (by rw [hd]; simp)⟩
theorem atoi_dec (u : Nat) (hu : u < 9223372036854775808) : atoiV (decDigits u) = u := by
  obtain ⟨c, r, hd, hc⟩ := dec_ne u
  have hp := parse_dec u hu
  unfold atoiV atoiAll
  rw [hd] at hp ⊢
  unfold isDig at hc
  have e1 : ¬ (c.toNat = 43 ∨ c.toNat = 45) := by omega
  simp only [e1, if_false, parseMag, List.cons_ne_nil, hp]
  have e2 : ¬ c.toNat = 45 := by omega
  simp only [e2, not_false_eq_true, true_and, false_and, if_false]
  rw [if_neg (by omega)]
theorem parseM : ∀ (l : List UInt8) (acc : Nat), parseUintM (2 ^ 64 - 1) acc l = parseUint10 acc l
  | [], _ => rfl
  | c :: r, acc => by
    rw [parseUintM, parseUint10, parseM r]
    have e : (2 ^ 64 - 1 < acc * 10 + (c.toNat - 48)) = (18446744073709551616 ≤ acc * 10 + (c.toNat - 48)) := by
      apply propext; omega
    simp only [e]
/-- leading zeros up to a length that three divides -/
def pad3 (l : List UInt8) : List UInt8 := List.replicate ((3 - l.length % 3) % 3) 48 ++ l
theorem parse_zeros (l : List UInt8) : ∀ k, parseUint10 0 (List.replicate k 48 ++ l) = parseUint10 0 l
  | 0 => rfl
  | k + 1 => by rw [List.replicate_succ, List.cons_append, parse_zero, parse_zeros l k]
theorem pad_dig {l : List UInt8} (h : ∀ b ∈ l, isDig b) : ∀ b ∈ pad3 l, isDig b := by
  intro b hb
  rcases List.mem_append.1 hb with hb | hb
  · obtain ⟨_, rfl⟩ := List.mem_replicate.1 hb
    exact ⟨by decide, by decide⟩
  · exact h b hb
theorem pad_len (l : List UInt8) : (pad3 l).length % 3 = 0 := by
  unfold pad3
  rw [List.length_append, List.length_replicate]; omega
theorem pad_len_le (l : List UInt8) : (pad3 l).length ≤ l.length + 2 := by
  unfold pad3
  rw [List.length_append, List.length_replicate]; omega
theorem parse_pad (u : Nat) (hu : u < 9223372036854775808) : parseV (pad3 (decDigits u)) = u := by
  have hp : parseUint10 0 (pad3 (decDigits u)) = .ok u := by rw [pad3, parse_zeros]; exact parse_dec u hu
  have hne : pad3 (decDigits u) ≠ [] := by
    obtain ⟨c, r, hd, _⟩ := dec_ne u
    rw [pad3, hd]; simp
  have hdig := pad_dig (dec_dig u)
  unfold parseV parseIntB
  match hd : pad3 (decDigits u) with
  | [] => exact absurd hd hne
  | c :: r =>
    rw [hd] at hp hdig
    have hc := hdig c (by simp)
    unfold isDig at hc
    have e1 : ¬ (c.toNat = 43 ∨ c.toNat = 45) := by omega
    have e2 : ¬ c.toNat = 45 := by omega
    have hcond : (if c.toNat = 43 ∨ c.toNat = 45 then r else c :: r) = c :: r := if_neg e1
    simp only [hcond, parseUintB, List.cons_ne_nil, if_false, parseM, hp]
    simp only [e2, not_false_eq_true, true_and, false_and, if_false]
    rw [if_neg (by omega)]

/-! ### the number's parts -/
def groups (l : List UInt8) : List (List UInt8) := if h : l.length ≤ 3 then [l] else (120 :: l.take 3) :: groups (l.drop 3)
termination_by l.length
decreasing_by simp only [List.length_drop]; omega
/-- .. with the width behind them -/
def gtail (l : List UInt8) : Option (List UInt8) → List (List UInt8)
  | none => groups l
  | some w => (groups l).dropLast ++ [(groups l).getLastD [] ++ [46, 112], w]
theorem groups_small {l : List UInt8} (h : l.length ≤ 3) : groups l = [l] := by rw [groups, dif_pos h]
theorem groups_big {l : List UInt8} (h : ¬ l.length ≤ 3) : groups l = (120 :: l.take 3) :: groups (l.drop 3) := by rw [groups, dif_neg h]
theorem groups_ne (l : List UInt8) : groups l ≠ [] := by
  rw [groups]; split <;> simp
theorem gtail_small {l : List UInt8} (h : l.length ≤ 3) (o : Option (List UInt8)) : gtail l o = match o with | none => [l] | some w => [l ++ [46, 112], w] := by
  cases o <;> simp [gtail, groups_small h]
theorem gtail_big {l : List UInt8} (h : ¬ l.length ≤ 3) (o : Option (List UInt8)) : gtail l o = (120 :: l.take 3) :: gtail (l.drop 3) o := by
  cases o with
  | none => simp [gtail, groups_big h]
  | some w =>
    have hne := groups_ne (l.drop 3)
    obtain ⟨x, r, hx⟩ : ∃ x r, groups (l.drop 3) = x :: r := by
      match hg : groups (l.drop 3) with
      | [] => exact absurd hg hne
      | x :: r => exact ⟨x, r, rfl⟩
    simp only [gtail, groups_big h, hx, List.dropLast_cons_cons, List.cons_append, List.getLastD_cons]
/-- all that stands in the number's parts, the letters x left out -/
theorem groups_flat : ∀ (n : Nat) (l : List UInt8), l.length ≤ n → (∀ b ∈ l, isDig b) → (groups l).flatten.filter (· ≠ 120) = l := by
  have self : ∀ l : List UInt8, (∀ b ∈ l, isDig b) → l.filter (· ≠ 120) = l := fun l hl => List.filter_eq_self.2 fun b hb => by
    have := hl b hb
    unfold isDig at this
    simp only [ne_eq, decide_not, Bool.not_eq_eq_eq_not, Bool.not_true, decide_eq_false_iff_not]
    rintro rfl
    exact absurd this.2 (by decide)
  intro n
  induction n with
  | zero =>
    intro l hl hd
    obtain rfl : l = [] := List.eq_nil_of_length_eq_zero (by omega)
    rw [groups_small (by simp)]; rfl
  | succ n ih =>
    intro l hl hd
    by_cases h : l.length ≤ 3
    · rw [groups_small h, List.flatten_cons, List.flatten_nil, List.append_nil]
      exact self l hd
    · rw [groups_big h, List.flatten_cons, List.filter_append, List.filter_cons_of_neg (by simp), ih (l.drop 3) (by rw [List.length_drop]; omega) (fun b hb => hd b (List.mem_of_mem_drop hb)), self _ (fun b hb => hd b (List.mem_of_mem_take hb)), List.take_append_drop]
theorem groups_all {P : UInt8 → Prop} (hx : P 120) : ∀ (n : Nat) (l : List UInt8), l.length ≤ n → (∀ b ∈ l, P b) → ∀ g ∈ groups l, ∀ b ∈ g, P b := by
  intro n
  induction n with
  | zero =>
    intro l hl hd g hg
    rw [groups_small (by omega)] at hg
    simp only [List.mem_singleton] at hg
    subst hg; exact hd
  | succ n ih =>
    intro l hl hd g hg
    by_cases h : l.length ≤ 3
    · rw [groups_small h] at hg
      simp only [List.mem_singleton] at hg
      subst hg; exact hd
    · rw [groups_big h] at hg
      rcases List.mem_cons.1 hg with rfl | hg
      · intro b hb
        rcases List.mem_cons.1 hb with rfl | hb
        · exact hx
        · exact hd b (List.mem_of_mem_take hb)
      · exact ih (l.drop 3) (by rw [List.length_drop]; omega) (fun b hb => hd b (List.mem_of_mem_drop hb)) g hg
/-! ### the path, and what is guessed of a text -/
def okT (t : Tl) : Prop := 1 ≤ t.H ∧ t.H ≤ 8 ∧ 1 ≤ t.W ∧ t.W ≤ 2 ^ t.H.toNat ∧ 0 ≤ t.L ∧ 0 ≤ t.N ∧ (t.D = true → t.L = 0) ∧ t.H * t.L ≤ 48 ∧ t.N * 2 ^ t.H.toNat + t.W ≤ 281474976710656 / 2 ^ (t.H * t.L).toNat
def lvlB (t : Tl) : List UInt8 := if t.D then [100, 97, 116, 97] else itoa t.L
def wdB (t : Tl) : Option (List UInt8) := if t.W < 2 ^ t.H.toNat then some (itoa t.W) else none
def partsB (t : Tl) : List (List UInt8) := itoa t.H :: lvlB t :: gtail (pad3 (itoa t.N)) (wdB t)
def pathB (t : Tl) : List UInt8 := [116, 105, 108, 101] ++ slashes (partsB t)
def tz : Tl := ⟨0, 0, 0, 0, false⟩
def guessV (ps : List (List UInt8)) : Tl :=
  if ps.length < 4 then tz else
    let num := ps.drop 3
    let k := num.length
    let cut := decide (1 < k) && hasSuffix (num[k - 2]?.getD []) [46, 112]
    { H := atoiV (ps[1]?.getD []), L := atoiV (ps[2]?.getD []), D := decide (ps[2]?.getD [] = [100, 97, 116, 97]),
      W := if cut then atoiV (num[k - 1]?.getD []) else 2 ^ ((atoiV (ps[1]?.getD [])) % 16).toNat,
      N := parseV (trimSuffix (replaceAll (if cut then num.take (k - 1) else num).flatten [120] []) [46, 112]) }
theorem okT.bounds {t : Tl} (h : okT t) : t.H ≤ 8 ∧ 0 ≤ t.L ∧ t.L ≤ 48 ∧ 0 ≤ t.N ∧ t.N ≤ 281474976710656 ∧ 1 ≤ t.W ∧ t.W ≤ 256 := by
  obtain ⟨h1, h2, h3, h4, h5, h6, h7, h8, h9⟩ := h
  have hp : (2 : Int) ^ t.H.toNat ≤ 256 := by
    have : (2 : Nat) ^ t.H.toNat ≤ 2 ^ 8 := Nat.pow_le_pow_right (by decide) (by omega)
    have e : ((2 ^ t.H.toNat : Nat) : Int) = (2 : Int) ^ t.H.toNat := by norm_cast
    omega
  have hp1 : (1 : Int) ≤ 2 ^ t.H.toNat := by
    have : 0 < (2 : Nat) ^ t.H.toNat := Nat.pow_pos (by decide)
    have e : ((2 ^ t.H.toNat : Nat) : Int) = (2 : Int) ^ t.H.toNat := by norm_cast
    omega
  have hq : (281474976710656 : Int) / 2 ^ (t.H * t.L).toNat ≤ 281474976710656 := Int.ediv_le_self _ (by decide)
  have hN : t.N ≤ t.N * 2 ^ t.H.toNat := by
    have := Int.mul_le_mul_of_nonneg_left hp1 h6
    omega
  have hL : t.L ≤ t.H * t.L := by
    have := Int.mul_le_mul_of_nonneg_right h1 h5
    omega
  omega
theorem itoa_dig {n : Int} (h : 0 ≤ n) : ∃ u : Nat, n = u ∧ itoa n = decDigits u := by
  obtain ⟨u, rfl⟩ := Int.eq_ofNat_of_zero_le h
  exact ⟨u, rfl, itoa_nonneg u⟩
theorem no_slash {l : List UInt8} (h : ∀ b ∈ l, isDig b) : 47 ∉ l := fun hm => by
  have := h 47 hm
  exact absurd this.1 (by decide)
theorem suffix_dot {l : List UInt8} (h : ∀ b ∈ l, isDig b ∨ b = 120) : hasSuffix l [46, 112] = false := by
  unfold hasSuffix
  rw [Bool.eq_false_iff]
  intro hs
  have hm : (112 : UInt8) ∈ l := (List.isSuffixOf_iff_suffix.1 hs).subset (by simp)
  rcases h 112 hm with g | g
  · exact absurd g.2 (by decide)
  · exact absurd g (by decide)
theorem suffix_app (l : List UInt8) : hasSuffix (l ++ [46, 112]) [46, 112] = true := by
  unfold hasSuffix
  exact List.isSuffixOf_iff_suffix.2 ⟨l, rfl⟩
theorem last_mem {g : List (List UInt8)} (h : g ≠ []) : g.getLastD [] ∈ g := by
  match g with
  | [] => exact absurd rfl h
  | x :: r => rw [List.getLastD_cons]; exact List.getLastD_mem_cons ..
theorem last_app {g : List (List UInt8)} (h : g ≠ []) : g.dropLast ++ [g.getLastD []] = g := by
  match g with
  | [] => exact absurd rfl h
  | x :: r =>
    have := List.dropLast_concat_getLast (l := x :: r) (by simp)
    rw [List.getLastD_cons]
    rw [List.getLast_eq_getLastD] at this
    exact this
theorem parts_slash {t : Tl} (h : okT t) : ∀ p ∈ partsB t, (47 : UInt8) ∉ p := by
  obtain ⟨h1, h2, h3, h4, h5, h6, h7⟩ := h.bounds
  have hH := h.1
  obtain ⟨uH, eH, dH⟩ := itoa_dig (n := t.H) (by omega)
  obtain ⟨uL, eL, dL⟩ := itoa_dig (n := t.L) h2
  obtain ⟨uN, eN, dN⟩ := itoa_dig (n := t.N) h4
  obtain ⟨uW, eW, dW⟩ := itoa_dig (n := t.W) (by omega)
  have hg : ∀ g ∈ groups (pad3 (itoa t.N)), (47 : UInt8) ∉ g := fun g hg hm => by
    have := groups_all (P := fun b => isDig b ∨ b = 120) (.inr rfl) _ (pad3 (itoa t.N)) (Nat.le_refl _) (fun b hb => .inl (pad_dig (by rw [dN]; exact dec_dig uN) b hb)) g hg 47 hm
    rcases this with g | g
    · exact absurd g.1 (by decide)
    · exact absurd g (by decide)
  intro p hp
  simp only [partsB, List.mem_cons] at hp
  rcases hp with rfl | rfl | hp
  · rw [dH]; exact no_slash (dec_dig uH)
  · unfold lvlB
    split
    · decide
    · rw [dL]; exact no_slash (dec_dig uL)
  · unfold wdB at hp
    split at hp
    · simp only [gtail, List.mem_append, List.mem_cons, List.not_mem_nil, or_false] at hp
      rcases hp with hp | rfl | rfl
      · exact hg p (List.dropLast_subset _ hp)
      · intro hm
        rcases List.mem_append.1 hm with hm | hm
        · have hne := groups_ne (pad3 (itoa t.N))
          have : (groups (pad3 (itoa t.N))).getLastD [] ∈ groups (pad3 (itoa t.N)) := last_mem hne
          exact hg _ this hm
        · revert hm; decide
      · rw [dW]; exact no_slash (dec_dig uW)
    · exact hg p hp
theorem trim_no {l : List UInt8} (h : ∀ b ∈ l, isDig b) : trimSuffix l [46, 112] = l := by
  unfold trimSuffix
  rw [suffix_dot fun b hb => .inl (h b hb)]; rfl
theorem trim_yes (l : List UInt8) : trimSuffix (l ++ [46, 112]) [46, 112] = l := by
  unfold trimSuffix
  rw [suffix_app, if_pos rfl, List.length_append, Nat.add_sub_cancel, List.take_left]
theorem guess_path {t : Tl} (h : okT t) : guessV ([116, 105, 108, 101] :: partsB t) = t := by
  obtain ⟨h1, h2, h3, h4, h5, h6, h7⟩ := h.bounds
  obtain ⟨hH, _, _, hWle, _, _, hD, _, _⟩ := h
  obtain ⟨uH, eH, dH⟩ := itoa_dig (n := t.H) (by omega)
  obtain ⟨uL, eL, dL⟩ := itoa_dig (n := t.L) h2
  obtain ⟨uN, eN, dN⟩ := itoa_dig (n := t.N) h4
  obtain ⟨uW, eW, dW⟩ := itoa_dig (n := t.W) (by omega)
  have hdig : ∀ b ∈ pad3 (itoa t.N), isDig b := pad_dig (by rw [dN]; exact dec_dig uN)
  have hgne := groups_ne (pad3 (itoa t.N))
  have hflat := groups_flat _ (pad3 (itoa t.N)) (Nat.le_refl _) hdig
  have hgl : ∀ g ∈ groups (pad3 (itoa t.N)), ∀ b ∈ g, isDig b ∨ b = 120 := groups_all (P := fun b => isDig b ∨ b = 120) (.inr rfl) _ (pad3 (itoa t.N)) (Nat.le_refl _) fun b hb => .inl (hdig b hb)
  have hpN : parseV (pad3 (itoa t.N)) = t.N := by rw [dN, parse_pad uN (by omega), eN]
  have hpH : atoiV (itoa t.H) = t.H := by rw [dH, atoi_dec uH (by omega), eH]
  have hpW : atoiV (itoa t.W) = t.W := by rw [dW, atoi_dec uW (by omega), eW]
  have hpL : atoiV (lvlB t) = t.L := by
    unfold lvlB
    split
    · rename_i hd
      rw [hD hd]; rfl
    · rw [dL, atoi_dec uL (by omega), eL]
  have hpD : decide (lvlB t = [100, 97, 116, 97]) = t.D := by
    unfold lvlB
    cases hd : t.D with
    | true => rfl
    | false =>
      rw [if_neg (by simp), dL]
      simp only [decide_eq_false_iff_not]
      intro e
      have := dec_dig uL 100 (by rw [e]; simp)
      exact absurd this.2 (by decide)
  generalize hd : pad3 (itoa t.N) = d at *
  have hglen : 0 < (groups d).length := List.length_pos_iff.2 hgne
  have hlen : ¬ ([116, 105, 108, 101] :: partsB t).length < 4 := by
    simp only [partsB, List.length_cons, hd]
    have : 0 < (gtail d (wdB t)).length := by
      unfold wdB
      split
      · simp [gtail]
      · exact hglen
    omega
  have e1 : ([116, 105, 108, 101] :: partsB t)[1]?.getD [] = itoa t.H := rfl
  have e2 : ([116, 105, 108, 101] :: partsB t)[2]?.getD [] = lvlB t := rfl
  have e3 : ([116, 105, 108, 101] :: partsB t).drop 3 = gtail d (wdB t) := by rw [partsB, hd]; rfl
  unfold guessV
  rw [if_neg hlen]
  simp only [e1, e2, e3, hpH, hpL, hpD]
  by_cases hw : t.W < 2 ^ t.H.toNat
  · have ew : wdB t = some (itoa t.W) := by unfold wdB; rw [if_pos hw]
    rw [ew]
    have eg : gtail d (some (itoa t.W)) = (groups d).dropLast ++ [(groups d).getLastD [] ++ [46, 112], itoa t.W] := rfl
    have hk : (gtail d (some (itoa t.W))).length = (groups d).length + 1 := by rw [eg, List.length_append, List.length_dropLast]; simp; omega
    have g1 : (gtail d (some (itoa t.W)))[(gtail d (some (itoa t.W))).length - 2]?.getD [] = (groups d).getLastD [] ++ [46, 112] := by
      rw [hk, eg, List.getElem?_append_right (by rw [List.length_dropLast]; omega), List.length_dropLast, show (groups d).length + 1 - 2 - ((groups d).length - 1) = 0 by omega]; rfl
    have g2 : (gtail d (some (itoa t.W)))[(gtail d (some (itoa t.W))).length - 1]?.getD [] = itoa t.W := by
      rw [hk, eg, List.getElem?_append_right (by rw [List.length_dropLast]; omega), List.length_dropLast, show (groups d).length + 1 - 1 - ((groups d).length - 1) = 1 by omega]; rfl
    have g3 : (gtail d (some (itoa t.W))).take ((gtail d (some (itoa t.W))).length - 1) = (groups d).dropLast ++ [(groups d).getLastD [] ++ [46, 112]] := by
      rw [hk, eg, List.take_append, List.take_of_length_le (by rw [List.length_dropLast]; omega), List.length_dropLast, show (groups d).length + 1 - 1 - ((groups d).length - 1) = 1 by omega]; rfl
    have g4 : ((groups d).dropLast ++ [(groups d).getLastD [] ++ [46, 112]]).flatten = (groups d).flatten ++ [46, 112] := by
      have := congrArg List.flatten (last_app hgne)
      rw [List.flatten_append] at this ⊢
      rw [← this]; simp
    have hc : (decide (1 < (gtail d (some (itoa t.W))).length) && hasSuffix ((gtail d (some (itoa t.W)))[(gtail d (some (itoa t.W))).length - 2]?.getD []) [46, 112]) = true := by
      rw [g1, suffix_app, hk, decide_eq_true (by omega)]; rfl
    rw [hc, g2, g3]
    simp only [if_true]
    rw [g4, replaceAll_one, List.filter_append, hflat]
    have : ([46, 112] : List UInt8).filter (· ≠ 120) = [46, 112] := by decide
    rw [this, trim_yes]
    rw [hpN, hpW]
  · have ew : wdB t = none := by unfold wdB; rw [if_neg hw]
    rw [ew]
    have eg : gtail d none = groups d := rfl
    rw [eg]
    have hc : (decide (1 < (groups d).length) && hasSuffix ((groups d)[(groups d).length - 2]?.getD []) [46, 112]) = false := by
      rw [Bool.and_eq_false_iff]
      right
      match hx : (groups d)[(groups d).length - 2]? with
      | none => rfl
      | some g => exact suffix_dot (hgl g (List.mem_of_getElem? hx))
    rw [hc]
    simp only [Bool.false_eq_true, if_false]
    rw [replaceAll_one, hflat, trim_no hdig, hpN]
    have e16 : t.H % 16 = t.H := Int.emod_eq_of_lt (by omega) (by omega)
    have eW2 : (2 : Int) ^ t.H.toNat = t.W := by omega
    rw [e16, eW2]
theorem path_len {t : Tl} (h : okT t) : (pathB t).length ≤ 200 := by
  obtain ⟨h1, h2, h3, h4, h5, h6, h7⟩ := h.bounds
  have hH := h.1
  have l1 := itoa_length_le t.H (by omega) (by omega)
  have l2 := itoa_length_le t.L (by omega) (by omega)
  have l3 := itoa_length_le t.N (by omega) (by omega)
  have l4 := itoa_length_le t.W (by omega) (by omega)
  have sl : ∀ ps, (slashes ps).length = ps.length + ps.flatten.length := by
    intro ps
    induction ps with
    | nil => rfl
    | cons p ps ih => simp only [slashes, List.flatMap_cons, List.length_append, List.length_cons, List.flatten_cons] at *; omega
  have gl : ∀ (n : Nat) (l : List UInt8), l.length ≤ n → (groups l).length ≤ l.length / 3 + 1 ∧ (groups l).flatten.length ≤ l.length + l.length / 3 := by
    intro n
    induction n with
    | zero =>
      intro l hl
      obtain rfl : l = [] := List.eq_nil_of_length_eq_zero (by omega)
      rw [groups_small (by simp)]; simp
    | succ n ih =>
      intro l hl
      by_cases h : l.length ≤ 3
      · rw [groups_small h]; simp
      · have hd : (l.drop 3).length = l.length - 3 := List.length_drop
        obtain ⟨i1, i2⟩ := ih (l.drop 3) (by omega)
        rw [groups_big h]
        simp only [List.length_cons, List.flatten_cons, List.length_append, List.length_take]
        omega
  have l5 := pad_len_le (itoa t.N)
  obtain ⟨g1, g2⟩ := gl _ (pad3 (itoa t.N)) (Nat.le_refl _)
  have lv : (lvlB t).length ≤ 21 := by
    unfold lvlB
    split
    · decide
    · exact l2
  have gt : (gtail (pad3 (itoa t.N)) (wdB t)).length ≤ (groups (pad3 (itoa t.N))).length + 1 ∧ (gtail (pad3 (itoa t.N)) (wdB t)).flatten.length ≤ (groups (pad3 (itoa t.N))).flatten.length + 2 + 21 := by
    unfold wdB
    split
    · have hne := groups_ne (pad3 (itoa t.N))
      have hp : 0 < (groups (pad3 (itoa t.N))).length := List.length_pos_iff.2 hne
      have hf := congrArg (fun g => g.flatten.length) (last_app hne)
      simp only [List.flatten_append, List.length_append, List.flatten_cons, List.flatten_nil, List.append_nil] at hf
      simp only [gtail, List.length_append, List.length_dropLast, List.length_cons, List.length_nil, List.flatten_append, List.flatten_cons, List.flatten_nil, List.append_nil]
      omega
    · simp only [gtail]; omega
  simp only [pathB, List.length_append, sl, partsB, List.length_cons, List.flatten_cons, List.length_nil]
  omega
theorem cut_path {t : Tl} (h : okT t) : cutAt 47 (pathB t) = [116, 105, 108, 101] :: partsB t := cutAt_slashes _ _ (by decide) (parts_slash h)
end Go.Proofs.YtccjncflbbhldaaDoor
/-! ## ShF0 -/
set_option maxRecDepth 100000
namespace Go.Proofs.YtccjncflbbhldaaDoor
open Go.Sh
/-! ### ledger/ledgerlaw10.num -/
noncomputable def B_l10_num : Code := match Tryd.f13.body with | some c => c | _ => .skip
noncomputable def X_l10_num : Cx := { P := PP, fn := 13, N := 4, tab := tab, results := [.tmp 2], iter := fun _ => (.none, .none), dyn := fun _ => false, live := fun _ => none }
theorem K_l10_num : OkF X_l10_num B_l10_num Tryd.f13 := ⟨⟨tab_ok, mix_ok⟩, Tryd.func13, by kernel_rfl, by kernel_rfl, by kernel_rfl, by kernel_rfl⟩
theorem C_l10_num_eq (Q : Value → World → Prop) (a0 : Int) (w : World) (h :
  Q (.int .i64 a0) w) :
C_l10_num #[.int .i64 a0] w Q := C_fold K_l10_num (by kernel_rfl) h
/-! ### ledger/tile.Check -/
noncomputable def B_tile_Check : Code := match Tryd.f25.body with | some c => c | _ => .skip
noncomputable def X_tile_Check : Cx := { P := PP, fn := 25, N := 75, tab := tab, results := [.tmp 2], iter := fun _ => (.none, .none), dyn := fun _ => false, live := fun r => cond (Nat.beq r 2) (some []) (cond (Nat.beq r 3) (some [1]) (cond (Nat.beq r 4) (some []) (cond (Nat.beq r 5) (some [1]) (cond (Nat.beq r 6) (some [1, 3]) (cond (Nat.beq r 7) (some []) (cond (Nat.beq r 8) (some []) (none))))))) }
theorem K_tile_Check : OkF X_tile_Check B_tile_Check Tryd.f25 := ⟨⟨tab_ok, mix_ok⟩, Tryd.func25, by kernel_rfl, by kernel_rfl, by kernel_rfl, by kernel_rfl⟩
noncomputable def N_tile_Check.j2 (Q : Value → World → Prop) (w : World) : Prop := Nd X_tile_Check Q [] [.code (B_tile_Check.r.l.r.l.l), .code (B_tile_Check.r.l.r.l.r), .code (B_tile_Check.r.r)] w
noncomputable def N_tile_Check.j3 (Q : Value → World → Prop) (s1 : Addr) (w : World) : Prop := Nd X_tile_Check Q [(1, 1, .pointer (some s1))] [.code (B_tile_Check.r.r.l.l), .code (B_tile_Check.r.r.l.r), .code (B_tile_Check.r.r.r)] w
noncomputable def N_tile_Check.j4 (Q : Value → World → Prop) (w : World) : Prop := Nd X_tile_Check Q [] [.code (B_tile_Check.r.r.l.r.l.l), .code (B_tile_Check.r.r.l.r.l.r), .code (B_tile_Check.r.r.r)] w
noncomputable def N_tile_Check.j5 (Q : Value → World → Prop) (s1 : Addr) (w : World) : Prop := Nd X_tile_Check Q [(1, 1, .pointer (some s1))] [.code (B_tile_Check.r.r.r.l), .code (B_tile_Check.r.r.r.r)] w
noncomputable def N_tile_Check.j6 (Q : Value → World → Prop) (s1 : Addr) (s3 : Int) (w : World) : Prop := Nd X_tile_Check Q [(1, 1, .pointer (some s1)), (3, 3, .int .i64 s3)] [.code (B_tile_Check.r.r.r.r.l.l), .code (B_tile_Check.r.r.r.r.l.r), .code (B_tile_Check.r.r.r.r.r)] w
noncomputable def N_tile_Check.j7 (Q : Value → World → Prop) (w : World) : Prop := Nd X_tile_Check Q [] [.code (B_tile_Check.r.r.r.r.l.r.l.l), .code (B_tile_Check.r.r.r.r.l.r.l.r), .code (B_tile_Check.r.r.r.r.r)] w
noncomputable def N_tile_Check.j8 (Q : Value → World → Prop) (w : World) : Prop := Nd X_tile_Check Q [] [.code (B_tile_Check.r.r.r.r.r.l), .code (B_tile_Check.r.r.r.r.r.r)] w
theorem N_tile_Check.j2_eq (Q : Value → World → Prop) (w : World) (h :
  Q (.int .i64 101) w) :
N_tile_Check.j2 Q w := Nd_fold K_tile_Check (by kernel_rfl) h
theorem N_tile_Check.j3_eq (Q : Value → World → Prop) (s1 : Addr) (w : World) (h :
  drw w fun w1 =>
  opnI .i64 (w1.cell? (s1.add 1)) fun x2 =>
  opnI .i64 (w1.cell? (s1.add 0)) fun x3 =>
  x3 ≠ (0 : Int) ∧
  cond (decide (x2 > (IntKind.wrap .i64 (Int.tdiv 48 x3))))
  (N_tile_Check.j4 Q w1)
  (N_tile_Check.j5 Q s1 w1)) :
N_tile_Check.j3 Q s1 w := Nd_fold K_tile_Check (by kernel_rfl) h
theorem N_tile_Check.j4_eq (Q : Value → World → Prop) (w : World) (h :
  Q (.int .i64 101) w) :
N_tile_Check.j4 Q w := Nd_fold K_tile_Check (by kernel_rfl) h
theorem N_tile_Check.j5_eq (Q : Value → World → Prop) (s1 : Addr) (w : World) (h :
  opnI .i64 (w.cell? (s1.add 0)) fun x1 =>
  opnI .i64 (w.cell? (s1.add 1)) fun x2 =>
  nn (IntKind.wrap .i64 (x1 * x2)) (
  N_tile_Check.j6 Q s1 (shrI .i64 281474976710656 (IntKind.wrap .i64 (x1 * x2))) w)) :
N_tile_Check.j5 Q s1 w := Nd_fold K_tile_Check (by kernel_rfl) h
theorem N_tile_Check.j6_eq (Q : Value → World → Prop) (s1 : Addr) (s3 : Int) (w : World) (h :
  drw w fun w1 =>
  opnI .i64 (w1.cell? (s1.add 2)) fun x2 =>
  opnI .i64 (w1.cell? (s1.add 0)) fun x3 =>
  nn x3 (
  cond (decide (x2 > (shrI .i64 s3 x3)))
  (N_tile_Check.j7 Q w1)
  (opnI .i64 (w1.cell? (s1.add 2)) fun x4 =>
  opnI .i64 (w1.cell? (s1.add 0)) fun x5 =>
  nn x5 (
  opnI .i64 (w1.cell? (s1.add 3)) fun x6 =>
  cond (decide ((IntKind.wrap .i64 ((shlI .i64 x4 x5) + x6)) > s3))
  (N_tile_Check.j7 Q w1)
  (N_tile_Check.j8 Q w1))))) :
N_tile_Check.j6 Q s1 s3 w := Nd_fold K_tile_Check (by kernel_rfl) h
theorem N_tile_Check.j7_eq (Q : Value → World → Prop) (w : World) (h :
  Q (.int .i64 101) w) :
N_tile_Check.j7 Q w := Nd_fold K_tile_Check (by kernel_rfl) h
theorem N_tile_Check.j8_eq (Q : Value → World → Prop) (w : World) (h :
  Q (.int .i64 0) w) :
N_tile_Check.j8 Q w := Nd_fold K_tile_Check (by kernel_rfl) h
theorem C_tile_Check_eq (Q : Value → World → Prop) (a0_0 : Int) (a0_1 : Int) (a0_2 : Int) (a0_3 : Int) (a0_4 : Bool) (w : World) (h :
  alC #[.int .i64 a0_0, .int .i64 a0_1, .int .i64 a0_2, .int .i64 a0_3, .bool a0_4] 24 w fun p1 w2 =>
  drw w2 fun w3 =>
  opnI .i64 (w3.cell? (p1.add 0)) fun x4 =>
  cond (decide (x4 < 1))
  (N_tile_Check.j2 Q w3)
  (opnI .i64 (w3.cell? (p1.add 0)) fun x5 =>
  cond (decide (x5 > 8))
  (N_tile_Check.j2 Q w3)
  (opnI .i64 (w3.cell? (p1.add 3)) fun x6 =>
  cond (decide (x6 < 1))
  (N_tile_Check.j2 Q w3)
  (opnI .i64 (w3.cell? (p1.add 3)) fun x7 =>
  opnI .i64 (w3.cell? (p1.add 0)) fun x8 =>
  C_tile_full #[.int .i64 x8] w3 fun v9 w10 =>
  opnI .i64 (some v9) fun x11 =>
  (opnI .i64 (w10.cell? (p1.add 3)) fun x12 =>
  ((.int .i64 x12) : Value) = .int .i64 x7) ∧
  cond (decide (x7 > x11))
  (N_tile_Check.j2 Q w10)
  (opnI .i64 (w10.cell? (p1.add 1)) fun x13 =>
  cond (decide (x13 < 0))
  (N_tile_Check.j2 Q w10)
  (opnI .i64 (w10.cell? (p1.add 2)) fun x14 =>
  cond (decide (x14 < 0))
  (N_tile_Check.j2 Q w10)
  (opnB (w10.cell? (p1.add 4)) fun x15 =>
  cond x15
  (opnI .i64 (w10.cell? (p1.add 1)) fun x16 =>
  cond (x16 != 0)
  (N_tile_Check.j2 Q w10)
  (N_tile_Check.j3 Q p1 w10))
  (N_tile_Check.j3 Q p1 w10)))))))) :
C_tile_Check #[.agg #[.int .i64 a0_0, .int .i64 a0_1, .int .i64 a0_2, .int .i64 a0_3, .bool a0_4]] w Q := C_fold K_tile_Check (by kernel_rfl) h
/-! ### ledger/tile.full -/
noncomputable def B_tile_full : Code := match Tryd.f50.body with | some c => c | _ => .skip
noncomputable def X_tile_full : Cx := { P := PP, fn := 50, N := 5, tab := tab, results := [.tmp 2], iter := fun _ => (.none, .none), dyn := fun _ => false, live := fun _ => none }
theorem K_tile_full : OkF X_tile_full B_tile_full Tryd.f50 := ⟨⟨tab_ok, mix_ok⟩, Tryd.func50, by kernel_rfl, by kernel_rfl, by kernel_rfl, by kernel_rfl⟩
theorem C_tile_full_eq (Q : Value → World → Prop) (a0 : Int) (w : World) (h :
  nn a0 (
  Q (.int .i64 (shlI .i64 1 a0)) w)) :
C_tile_full #[.int .i64 a0] w Q := C_fold K_tile_full (by kernel_rfl) h
end Go.Proofs.YtccjncflbbhldaaDoor
/-! ## Words -/
set_option maxRecDepth 10000
namespace Go.Proofs.YtccjncflbbhldaaDoor
open Go.Sh Go.RowKit

theorem chg_below {w w' : World} (h : Below w.heap.size w w') : Chg None w w' := ⟨h.os, h.tape, h.output, h.size, fun k hk _ => h.block k hk⟩
theorem below_chg {w w' : World} (h : Chg None w w') : Below w.heap.size w w' := ⟨h.os, h.tape, h.output, h.size, fun k hk => h.block k hk id⟩
theorem chg_grow (w : World) (k : Nat) (os : Array Obj) : Chg None w (Go.Sort.grow (w.drewN k) os) :=
  ⟨rfl, rfl, rfl, by rw [Go.Sort.size_grow]; exact Nat.le_add_right _ _, fun i hi _ => Go.Sort.heap_grow_old (w.drewN k) os hi⟩
/-- what the library reads of the package variables -/
structure Std (w : World) : Prop where
  pow : Lib.TabIs PP w "internal/strconv.uint64pow10" .u64 Lib.pow10Tab
  syn : ∃ ev, w.cell? ⟨1, 0, none⟩ = some ev ∧ (ev = .nilIface ∨ ∃ te pe, ev = .iface te pe)
  rng : ∃ ev, w.cell? ⟨2, 0, none⟩ = some ev ∧ (ev = .nilIface ∨ ∃ te pe, ev = .iface te pe)
  mx : ∃ m, w.cell? ⟨11, 0, none⟩ = some (.int .i64 m)
theorem cell_chg {w w' : World} {a : Addr} {v : Value} (h : w.cell? a = some v) (k : Chg None w w') : w'.cell? a = some v := by
  rw [World.cell?_of_block (w := w) (k.block _ (World.block_lt_of_cell? _ _ h) id)]; exact h
theorem Std.chg {w w' : World} (h : Std w) (k : Chg None w w') : Std w' := by
  obtain ⟨h1, ⟨e, h2, h2'⟩, ⟨e3, h3, h3'⟩, ⟨m, h4⟩⟩ := h
  refine ⟨?_, ⟨e, cell_chg h2 k, h2'⟩, ⟨e3, cell_chg h3 k, h3'⟩, ⟨m, cell_chg h4 k⟩⟩
  unfold Lib.TabIs at *
  cases hg : PP.globalNamed "internal/strconv.uint64pow10" with
  | none => unfold World.var? at h1; rw [hg] at h1; simp at h1
  | some g => exact Go.Joins.var_stays hg h1 (below_chg k) (Nat.le_refl _)
section
variable {Q : Value → World → Prop} {w : World}
theorem itoa_word {n : Int} (h0 : -9223372036854775808 ≤ n) (h1 : n ≤ 9223372036854775807) (s : Std w) (hQ : ∀ w', Chg None w w' → Q (.string ⟨(Lib.itoa n).toArray⟩) w') : C_strconv_Itoa #[.int .i64 n] w Q := by
  refine C_calls Tryd.func60 (by rfl) (by decide) ((strconv_Itoa n h0 h1 w s.pow).mono ?_)
  rintro e w' ⟨rfl, k, os, rfl⟩
  exact hQ _ (chg_grow w k os)
theorem fmt_word {n : Int} (h0 : -9223372036854775808 ≤ n) (h1 : n ≤ 9223372036854775807) (s : Std w) (hQ : ∀ w', Chg None w w' → Q (.string ⟨(Lib.itoa n).toArray⟩) w') : C_strconv_FormatInt #[.int .i64 n, .int .i64 10] w Q := by
  refine C_calls Tryd.func61 (by rfl) (by decide) ((strconv_FormatInt_10 n h0 h1 w s.pow).mono ?_)
  rintro e w' ⟨rfl, k, os, rfl⟩
  exact hQ _ (chg_grow w k os)
theorem chg_bytes (w : World) (e : TypeId) (s : ByteArray) : Chg None w (Lib.bytesWorld w e s) := chg_below (Go.Joins.below_bytesWorld _ w e s (Nat.le_refl _))
theorem atoi_word {s : ByteArray} (hs : s.size ≤ 281474976710656) (st : Std w) (hQ : ∀ e w', Chg None w w' → Q (.tuple #[.int .i64 (atoiV s.data.toList), e]) w') : C_strconv_Atoi #[.string s] w Q := by
  unfold atoiV at hQ
  cases h : Lib.atoiAll s.data.toList with
  | ok v =>
    rw [h] at hQ
    refine C_calls Tryd.func98 (by rfl) (by decide) ((strconv_Atoi_ok s (by omega) v h w).mono ?_)
    rintro e w' ⟨rfl, rfl | ⟨t, rfl⟩⟩
    · exact hQ _ _ (Chg.refl _ _)
    · exact hQ _ _ (chg_bytes w _ t)
  | «syntax» =>
    rw [h] at hQ
    obtain ⟨ev, h1, h2⟩ := st.syn
    refine C_calls Tryd.func98 (by rfl) (by decide) ((strconv_Atoi_syntax s hs h ev w h1 h2).mono ?_)
    rintro e w' ⟨N, rfl, _, _, hb⟩
    exact hQ _ _ (chg_below hb)
  | range =>
    rw [h] at hQ
    obtain ⟨ev, h1, h2⟩ := st.rng
    refine C_calls Tryd.func98 (by rfl) (by decide) ((strconv_Atoi_range s hs h ev w h1 h2).mono ?_)
    rintro e w' ⟨N, rfl, _, _, hb⟩
    exact hQ _ _ (chg_below hb)
theorem parse_word {s : ByteArray} (hs : s.size ≤ 281474976710656) (st : Std w) (hQ : ∀ e w', Chg None w w' → Q (.tuple #[.int .i64 (parseV s.data.toList), e]) w') : C_strconv_ParseInt #[.string s, .int .i64 10, .int .i64 64] w Q := by
  unfold parseV at hQ
  cases h : Lib.parseIntB 64 s.data.toList with
  | ok v =>
    rw [h] at hQ
    refine C_calls Tryd.func103 (by rfl) (by decide) ((strconv_ParseInt_10_at64_ok s (by omega) v h w).mono ?_)
    rintro e w' ⟨rfl, rfl | ⟨t, rfl⟩⟩
    · exact hQ _ _ (Chg.refl _ _)
    · exact hQ _ _ (chg_bytes w _ t)
  | «syntax» =>
    rw [h] at hQ
    obtain ⟨ev, h1, h2⟩ := st.syn
    refine C_calls Tryd.func103 (by rfl) (by decide) ((strconv_ParseInt_10_at64_syntax s hs h ev w h1 h2).mono ?_)
    rintro e w' ⟨N, rfl, _, _, hb⟩
    exact hQ _ _ (chg_below hb)
  | range =>
    rw [h] at hQ
    obtain ⟨ev, h1, h2⟩ := st.rng
    refine C_calls Tryd.func103 (by rfl) (by decide) ((strconv_ParseInt_10_at64_range s hs h ev w h1 h2).mono ?_)
    rintro e w' ⟨N, rfl, _, _, hb⟩
    exact hQ _ _ (chg_below hb)
theorem hasSuffix_word {s p : ByteArray} (hs : s.size ≤ 9223372036854775807) (hQ : Q (.bool (Lib.hasSuffix s.data.toList p.data.toList)) w) : C_strings_HasSuffix #[.string s, .string p] w Q := by
  refine C_calls Tryd.func99 (by rfl) (by decide) ((strings_HasSuffix s p w hs).mono ?_)
  rintro e w' ⟨rfl, rfl⟩
  exact hQ
theorem trimSuffix_word {s p : ByteArray} (hs : s.size ≤ 9223372036854775807) (hQ : Q (.string ⟨(Lib.trimSuffix s.data.toList p.data.toList).toArray⟩) w) : C_strings_TrimSuffix #[.string s, .string p] w Q := by
  refine C_calls Tryd.func100 (by rfl) (by decide) ((strings_TrimSuffix s p w hs).mono ?_)
  rintro e w' ⟨rfl, rfl⟩
  exact hQ
theorem replaceAll_word {s : ByteArray} (hs : s.size ≤ 1048576) (st : Std w) (hQ : ∀ w', Chg None w w' → Q (.string ⟨(Lib.replaceAll s.data.toList [120] []).toArray⟩) w') : C_strings_ReplaceAll #[.string s, .string (⟨#[120]⟩ : ByteArray), .string (⟨#[]⟩ : ByteArray)] w Q := by
  obtain ⟨m, hm⟩ := st.mx
  refine C_calls Tryd.func101 (by rfl) (by decide) ((strings_ReplaceAll s ⟨#[120]⟩ ⟨#[]⟩ m w (by omega) hm (by decide) (by show s.size + _ * 0 ≤ _; omega)).mono ?_)
  rintro e w' ⟨rfl, hb⟩
  exact hQ _ (chg_below hb)
abbrev svs (ps : List (List UInt8)) : List Value := ps.map fun l => Value.string ⟨l.toArray⟩
theorem split_word {s : ByteArray} (hs : s.size ≤ 1048576) (st : Std w) (hQ : ∀ b w', Blk w' b 9 (svs (cutAt 47 s.data.toList)) → Chg None w w' → w.heap.size ≤ b → Q (.slice (some ⟨b, 0, none⟩) (cutAt 47 s.data.toList).length (cutAt 47 s.data.toList).length) w') : C_strings_Split #[.string s, .string (⟨#[47]⟩ : ByteArray)] w Q := by
  obtain ⟨m, hm⟩ := st.mx
  refine C_calls Tryd.func97 (by rfl) (by decide) ((strings_Split s ⟨#[47]⟩ m w (by omega) hm (by decide)).mono ?_)
  rintro e w' ⟨rfl, rfl⟩
  have hl := Lib.splitB_all ⟨#[47]⟩ (by decide) 0 _ s rfl
  have hd := Lib.splitB_data ⟨#[47]⟩ 0 (Lib.countB s ⟨#[47]⟩) s
  have hd2 : (Lib.splitB ⟨#[47]⟩ 0 (Lib.countB s ⟨#[47]⟩) s).map (·.data.toList) = cutAt 47 s.data.toList := by
    rw [hd]
    exact split_cutAt 47 s.data.toList.length s.data.toList (Nat.le_refl _)
  have e1 : (Lib.splitB ⟨#[47]⟩ 0 (Lib.countB s ⟨#[47]⟩) s).map Value.string = svs (cutAt 47 s.data.toList) := by
    rw [← hd2]
    simp [svs, Function.comp_def]
  have e2 : Lib.countB s ⟨#[47]⟩ + 1 = (cutAt 47 s.data.toList).length := by rw [← hl, ← hd2, List.length_map]
  show Q _ _
  rw [e1, e2]
  have := hQ w.heap.size (w.alloc (.cells (svs (cutAt 47 s.data.toList)).toArray 9)) (by simpa using blk_alloc (w := w) (t := 9) (cs := (svs (cutAt 47 s.data.toList)).toArray)) (chg_alloc w _) (Nat.le_refl _)
  exact this
theorem join_word {b o c : Nat} {ps : List (List UInt8)} (hcells : ∀ (j : Nat) l, ps[j]? = some l → w.cell? ⟨b, o + j, none⟩ = some (.string ⟨l.toArray⟩)) (hb : b < w.heap.size) (hc : ps.length ≤ c) (hN : ps.length ≤ 1048576) (hlen : ps.flatten.length ≤ 1048576) (hQ : ∀ w', Chg None w w' → Q (.string ⟨ps.flatten.toArray⟩) w') : C_strings_Join #[.slice (some ⟨b, o, none⟩) ps.length c, .string (⟨#[]⟩ : ByteArray)] w Q := by
  have hj : Lib.join ((ps.map fun l => (⟨l.toArray⟩ : ByteArray)).map (·.data.toList)) (⟨#[]⟩ : ByteArray).data.toList = ps.flatten := by
    rw [List.map_map]
    have : (fun x : ByteArray => x.data.toList) ∘ (fun l : List UInt8 => (⟨l.toArray⟩ : ByteArray)) = id := by funext l; simp
    rw [this, List.map_id]
    cases ps with
    | nil => rfl
    | cons x r => rw [Lib.join_cons, Lib.joinTail]; simp
  have h := strings_Join b o c (ps.map fun l => (⟨l.toArray⟩ : ByteArray)) ⟨#[]⟩ w (fun j x hx => by
    rw [List.getElem?_map, Option.map_eq_some_iff] at hx
    obtain ⟨l, hl, rfl⟩ := hx
    exact hcells j l hl) hb (by rw [List.length_map]; omega) (by rw [List.length_map]; exact hc) (by rw [hj]; omega)
  rw [List.length_map, hj] at h
  refine C_calls Tryd.func102 (by rfl) (by decide) (h.mono ?_)
  rintro e w' ⟨rfl, hb⟩
  exact hQ _ (chg_below hb)
end
end Go.Proofs.YtccjncflbbhldaaDoor
