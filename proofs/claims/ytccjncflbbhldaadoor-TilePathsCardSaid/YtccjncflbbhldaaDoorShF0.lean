/- Functions' equations (printed by wip/gen/drive.py). -/
import Derived.Test.YtccjncflbbhldaaDoorShT
set_option maxRecDepth 100000
namespace Go.Proofs.YtccjncflbbhldaaDoor
open Go.Sh
/-! ### ledger/ledgerlaw10.TileOnce -/
noncomputable def B_l10_TileOnce : Code := match Tryd.f8.body with | some c => c | _ => .skip
noncomputable def X_l10_TileOnce : Cx := { P := PP, fn := 8, N := 114, tab := tab, results := [.tmp 4], iter := fun _ => (.none, .none), dyn := fun _ => false, live := fun r => cond (Nat.beq r 4) (some []) (cond (Nat.beq r 7) (some []) (cond (Nat.beq r 8) (some [1, 2, 6, 7]) (cond (Nat.beq r 9) (some [1, 2, 6]) (cond (Nat.beq r 10) (some [1, 2, 8, 9]) (cond (Nat.beq r 11) (some []) (cond (Nat.beq r 12) (some [1]) (cond (Nat.beq r 13) (some [1, 7, 10]) (cond (Nat.beq r 14) (some [7, 10]) (cond (Nat.beq r 15) (some [1, 10]) (cond (Nat.beq r 16) (some [1, 6, 11]) (none))))))))))) }
theorem K_l10_TileOnce : OkF X_l10_TileOnce B_l10_TileOnce Tryd.f8 := ⟨⟨tab_ok, mix_ok⟩, Tryd.func8, by kernel_rfl, by kernel_rfl, by kernel_rfl, by kernel_rfl⟩
noncomputable def N_l10_TileOnce.j4 (Q : Value → World → Prop) (w : World) : Prop := Nd X_l10_TileOnce Q [] [.code (B_l10_TileOnce.r.r.r.l.r.l.l), .code (B_l10_TileOnce.r.r.r.l.r.l.r), .code (B_l10_TileOnce.r.r.r.r)] w
noncomputable def N_l10_TileOnce.j7 (Q : Value → World → Prop) (w : World) : Prop := Nd X_l10_TileOnce Q [] [.code (B_l10_TileOnce.r.r.r.r.r.l.r.l.l), .code (B_l10_TileOnce.r.r.r.r.r.l.r.l.r), .code (B_l10_TileOnce.r.r.r.r.r.r)] w
noncomputable def N_l10_TileOnce.j8 (Q : Value → World → Prop) (s1 : ByteArray) (s2 : Addr) (s6 : ByteArray) (s7 : Int) (w : World) : Prop := Nd X_l10_TileOnce Q [(1, 1, .string s1), (2, 2, .pointer (some s2)), (6, 6, .string s6), (7, 7, .int .i64 s7)] [.code (B_l10_TileOnce.r.r.r.r.r.r.l.l), .code (B_l10_TileOnce.r.r.r.r.r.r.l.r), .code (B_l10_TileOnce.r.r.r.r.r.r.r)] w
noncomputable def N_l10_TileOnce.j9 (Q : Value → World → Prop) (s1 : ByteArray) (s2 : Addr) (s6 : ByteArray) (w : World) : Prop := Nd X_l10_TileOnce Q [(1, 1, .string s1), (2, 2, .pointer (some s2)), (6, 6, .string s6)] [.code (B_l10_TileOnce.r.r.r.r.r.r.l.r.l.l), .code (B_l10_TileOnce.r.r.r.r.r.r.l.r.l.r), .code (B_l10_TileOnce.r.r.r.r.r.r.r)] w
noncomputable def N_l10_TileOnce.j10 (Q : Value → World → Prop) (s1 : ByteArray) (s2 : Addr) (s8 : Addr) (s9 : Int) (w : World) : Prop := Nd X_l10_TileOnce Q [(1, 1, .string s1), (2, 2, .pointer (some s2)), (8, 8, .pointer (some s8)), (9, 9, .int .i64 s9)] [.code (B_l10_TileOnce.r.r.r.r.r.r.l.r.l.r.l), .code (B_l10_TileOnce.r.r.r.r.r.r.l.r.l.r.r), .code (B_l10_TileOnce.r.r.r.r.r.r.r)] w
noncomputable def N_l10_TileOnce.j11 (Q : Value → World → Prop) (w : World) : Prop := Nd X_l10_TileOnce Q [] [.code (B_l10_TileOnce.r.r.r.r.r.r.l.r.l.r.r.l.l), .code (B_l10_TileOnce.r.r.r.r.r.r.l.r.l.r.r.l.r), .code (B_l10_TileOnce.r.r.r.r.r.r.r)] w
noncomputable def N_l10_TileOnce.j12 (Q : Value → World → Prop) (s1 : ByteArray) (w : World) : Prop := Nd X_l10_TileOnce Q [(1, 1, .string s1)] [.code (B_l10_TileOnce.r.r.r.r.r.r.r.l), .code (B_l10_TileOnce.r.r.r.r.r.r.r.r)] w
noncomputable def N_l10_TileOnce.j13 (Q : Value → World → Prop) (s1 : ByteArray) (s7 : Int) (s10 : Addr) (w : World) : Prop := Nd X_l10_TileOnce Q [(1, 1, .string s1), (7, 7, .int .i64 s7), (10, 10, .pointer (some s10))] [.code (B_l10_TileOnce.r.r.r.r.r.r.r.r.l.l), .code (B_l10_TileOnce.r.r.r.r.r.r.r.r.l.r), .code (B_l10_TileOnce.r.r.r.r.r.r.r.r.r)] w
noncomputable def N_l10_TileOnce.j14 (Q : Value → World → Prop) (s7 : Int) (s10 : Addr) (w : World) : Prop := Nd X_l10_TileOnce Q [(7, 7, .int .i64 s7), (10, 10, .pointer (some s10))] [.code (B_l10_TileOnce.r.r.r.r.r.r.r.r.l.r.l.l), .code (B_l10_TileOnce.r.r.r.r.r.r.r.r.l.r.l.r), .code (B_l10_TileOnce.r.r.r.r.r.r.r.r.r)] w
noncomputable def N_l10_TileOnce.j15 (Q : Value → World → Prop) (s1 : ByteArray) (s10 : Addr) (w : World) : Prop := Nd X_l10_TileOnce Q [(1, 1, .string s1), (10, 10, .pointer (some s10))] [.code (B_l10_TileOnce.r.r.r.r.r.r.r.r.r.l), .code (B_l10_TileOnce.r.r.r.r.r.r.r.r.r.r)] w
noncomputable def N_l10_TileOnce.j16 (Q : Value → World → Prop) (s1 : ByteArray) (s6 : ByteArray) (s11 : Int) (w : World) : Prop := Nd X_l10_TileOnce Q [(1, 1, .string s1), (6, 6, .string s6), (11, 11, .int .i64 s11)] [.code (B_l10_TileOnce.r.r.r.r.r.r.r.r.r.r.l), .code (B_l10_TileOnce.r.r.r.r.r.r.r.r.r.r.r)] w
theorem N_l10_TileOnce.j4_eq (Q : Value → World → Prop) (w : World) (h :
  Q (.bool false) w) :
N_l10_TileOnce.j4 Q w := Nd_fold K_l10_TileOnce (by kernel_rfl) h
theorem N_l10_TileOnce.j7_eq (Q : Value → World → Prop) (w : World) (h :
  Q (.bool false) w) :
N_l10_TileOnce.j7 Q w := Nd_fold K_l10_TileOnce (by kernel_rfl) h
theorem N_l10_TileOnce.j8_eq (Q : Value → World → Prop) (s1 : ByteArray) (s2 : Addr) (s6 : ByteArray) (s7 : Int) (w : World) (h :
  C_l10_num #[.int .i64 s7] w fun v1 w2 =>
  opnI .i64 (some v1) fun x3 =>
  cond (x3 == 0)
  (N_l10_TileOnce.j9 Q s1 s2 s6 w2)
  (N_l10_TileOnce.j12 Q s1 w2)) :
N_l10_TileOnce.j8 Q s1 s2 s6 s7 w := Nd_fold K_l10_TileOnce (by kernel_rfl) h
theorem N_l10_TileOnce.j9_eq (Q : Value → World → Prop) (s1 : ByteArray) (s2 : Addr) (s6 : ByteArray) (w : World) (h :
  C_tile_ParsePath #[.string s6] w fun v1 w2 =>
  opnT (some v1) fun x3 =>
  x3.size = 2 ∧
  opnG (x3[0]?) fun x4 =>
  x4.size = 5 ∧
  opnI .i64 (x4[0]?) fun x5 =>
  opnI .i64 (x4[1]?) fun x6 =>
  opnI .i64 (x4[2]?) fun x7 =>
  opnI .i64 (x4[3]?) fun x8 =>
  opnB (x4[4]?) fun x9 =>
  opnI .i64 (x3[1]?) fun x10 =>
  alC #[.int .i64 0, .int .i64 0, .int .i64 0, .int .i64 0, .bool false] 24 w2 fun p11 w12 =>
  Array.size (#[.int .i64 x5, .int .i64 x6, .int .i64 x7, .int .i64 x8, .bool x9] : Array Value) = 5 ∧
  stC (p11.add 0) (.int .i64 x5) w12 fun w13 =>
  stC (p11.add 1) (.int .i64 x6) w13 fun w14 =>
  stC (p11.add 2) (.int .i64 x7) w14 fun w15 =>
  stC (p11.add 3) (.int .i64 x8) w15 fun w16 =>
  stC (p11.add 4) (.bool x9) w16 fun w17 =>
  N_l10_TileOnce.j10 Q s1 s2 p11 x10 w17) :
N_l10_TileOnce.j9 Q s1 s2 s6 w := Nd_fold K_l10_TileOnce (by kernel_rfl) h
theorem N_l10_TileOnce.j10_eq (Q : Value → World → Prop) (s1 : ByteArray) (s2 : Addr) (s8 : Addr) (s9 : Int) (w : World) (h :
  C_l10_num #[.int .i64 s9] w fun v1 w2 =>
  opnI .i64 (some v1) fun x3 =>
  cond (x3 != 0)
  (N_l10_TileOnce.j11 Q w2)
  (opnI .i64 (w2.cell? (s8.add 0)) fun x4 =>
  opnI .i64 (w2.cell? (s8.add 1)) fun x5 =>
  opnI .i64 (w2.cell? (s8.add 2)) fun x6 =>
  opnI .i64 (w2.cell? (s8.add 3)) fun x7 =>
  opnB (w2.cell? (s8.add 4)) fun x8 =>
  opnI .i64 (w2.cell? (s2.add 0)) fun x9 =>
  opnI .i64 (w2.cell? (s2.add 1)) fun x10 =>
  opnI .i64 (w2.cell? (s2.add 2)) fun x11 =>
  opnI .i64 (w2.cell? (s2.add 3)) fun x12 =>
  opnB (w2.cell? (s2.add 4)) fun x13 =>
  semR PP (do eqGuard .neq 24 (.tmp 57) (.tmp 58) (.agg #[.int .i64 x4, .int .i64 x5, .int .i64 x6, .int .i64 x7, .bool x8]) (.agg #[.int .i64 x9, .int .i64 x10, .int .i64 x11, .int .i64 x12, .bool x13]); binOp .neq 24 (.agg #[.int .i64 x4, .int .i64 x5, .int .i64 x6, .int .i64 x7, .bool x8]) (.agg #[.int .i64 x9, .int .i64 x10, .int .i64 x11, .int .i64 x12, .bool x13])) w2 fun x14 =>
  opnB (some x14) fun x15 =>
  cond x15
  (N_l10_TileOnce.j11 Q w2)
  (opnI .i64 (w2.cell? (s2.add 3)) fun x16 =>
  cond (decide (x16 < 1))
  (N_l10_TileOnce.j11 Q w2)
  (opnI .i64 (w2.cell? (s2.add 0)) fun x17 =>
  cond (decide (x17 < 1))
  (N_l10_TileOnce.j11 Q w2)
  (opnI .i64 (w2.cell? (s2.add 0)) fun x18 =>
  cond (decide (x18 > 8))
  (N_l10_TileOnce.j11 Q w2)
  (opnI .i64 (w2.cell? (s2.add 3)) fun x19 =>
  opnI .i64 (w2.cell? (s2.add 0)) fun x20 =>
  nn (IntKind.wrap .u64 x20) (
  cond (decide (x19 > (shlI .i64 1 (IntKind.wrap .u64 x20))))
  (N_l10_TileOnce.j11 Q w2)
  (N_l10_TileOnce.j12 Q s1 w2)))))))) :
N_l10_TileOnce.j10 Q s1 s2 s8 s9 w := Nd_fold K_l10_TileOnce (by kernel_rfl) h
theorem N_l10_TileOnce.j11_eq (Q : Value → World → Prop) (w : World) (h :
  Q (.bool false) w) :
N_l10_TileOnce.j11 Q w := Nd_fold K_l10_TileOnce (by kernel_rfl) h
theorem N_l10_TileOnce.j12_eq (Q : Value → World → Prop) (s1 : ByteArray) (w : World) (h :
  C_tile_ParsePath #[.string s1] w fun v1 w2 =>
  opnT (some v1) fun x3 =>
  x3.size = 2 ∧
  opnG (x3[0]?) fun x4 =>
  x4.size = 5 ∧
  opnI .i64 (x4[0]?) fun x5 =>
  opnI .i64 (x4[1]?) fun x6 =>
  opnI .i64 (x4[2]?) fun x7 =>
  opnI .i64 (x4[3]?) fun x8 =>
  opnB (x4[4]?) fun x9 =>
  opnI .i64 (x3[1]?) fun x10 =>
  alC #[.int .i64 0, .int .i64 0, .int .i64 0, .int .i64 0, .bool false] 24 w2 fun p11 w12 =>
  Array.size (#[.int .i64 x5, .int .i64 x6, .int .i64 x7, .int .i64 x8, .bool x9] : Array Value) = 5 ∧
  stC (p11.add 0) (.int .i64 x5) w12 fun w13 =>
  stC (p11.add 1) (.int .i64 x6) w13 fun w14 =>
  stC (p11.add 2) (.int .i64 x7) w14 fun w15 =>
  stC (p11.add 3) (.int .i64 x8) w15 fun w16 =>
  stC (p11.add 4) (.bool x9) w16 fun w17 =>
  N_l10_TileOnce.j13 Q s1 x10 p11 w17) :
N_l10_TileOnce.j12 Q s1 w := Nd_fold K_l10_TileOnce (by kernel_rfl) h
theorem N_l10_TileOnce.j13_eq (Q : Value → World → Prop) (s1 : ByteArray) (s7 : Int) (s10 : Addr) (w : World) (h :
  C_l10_num #[.int .i64 s7] w fun v1 w2 =>
  opnI .i64 (some v1) fun x3 =>
  cond (x3 != 0)
  (N_l10_TileOnce.j14 Q s7 s10 w2)
  (N_l10_TileOnce.j15 Q s1 s10 w2)) :
N_l10_TileOnce.j13 Q s1 s7 s10 w := Nd_fold K_l10_TileOnce (by kernel_rfl) h
theorem N_l10_TileOnce.j14_eq (Q : Value → World → Prop) (s7 : Int) (s10 : Addr) (w : World) (h :
  opnI .i64 (w.cell? (s10.add 0)) fun x1 =>
  opnI .i64 (w.cell? (s10.add 1)) fun x2 =>
  opnI .i64 (w.cell? (s10.add 2)) fun x3 =>
  opnI .i64 (w.cell? (s10.add 3)) fun x4 =>
  opnB (w.cell? (s10.add 4)) fun x5 =>
  semR PP (do eqGuard .eql 24 (.tmp 93) (.tmp 94) (.agg #[.int .i64 x1, .int .i64 x2, .int .i64 x3, .int .i64 x4, .bool x5]) (.agg #[.int .i64 0, .int .i64 0, .int .i64 0, .int .i64 0, .bool false]); binOp .eql 24 (.agg #[.int .i64 x1, .int .i64 x2, .int .i64 x3, .int .i64 x4, .bool x5]) (.agg #[.int .i64 0, .int .i64 0, .int .i64 0, .int .i64 0, .bool false])) w fun x6 =>
  opnB (some x6) fun x7 =>
  cond x7
  (C_l10_num #[.int .i64 s7] w fun v8 w9 =>
  opnI .i64 (some v8) fun x10 =>
  Q (.bool (x10 == 100)) w9)
  (Q (.bool false) w)) :
N_l10_TileOnce.j14 Q s7 s10 w := Nd_fold K_l10_TileOnce (by kernel_rfl) h
theorem N_l10_TileOnce.j15_eq (Q : Value → World → Prop) (s1 : ByteArray) (s10 : Addr) (w : World) (h :
  opnI .i64 (w.cell? (s10.add 0)) fun x1 =>
  opnI .i64 (w.cell? (s10.add 1)) fun x2 =>
  opnI .i64 (w.cell? (s10.add 2)) fun x3 =>
  opnI .i64 (w.cell? (s10.add 3)) fun x4 =>
  opnB (w.cell? (s10.add 4)) fun x5 =>
  C_tile_Path #[.agg #[.int .i64 x1, .int .i64 x2, .int .i64 x3, .int .i64 x4, .bool x5]] w fun v6 w7 =>
  opnT (some v6) fun x8 =>
  x8.size = 2 ∧
  opnS (x8[0]?) fun x9 =>
  opnI .i64 (x8[1]?) fun x10 =>
  N_l10_TileOnce.j16 Q s1 x9 x10 w7) :
N_l10_TileOnce.j15 Q s1 s10 w := Nd_fold K_l10_TileOnce (by kernel_rfl) h
theorem N_l10_TileOnce.j16_eq (Q : Value → World → Prop) (s1 : ByteArray) (s6 : ByteArray) (s11 : Int) (w : World) (h :
  C_l10_num #[.int .i64 s11] w fun v1 w2 =>
  opnI .i64 (some v1) fun x3 =>
  cond (x3 == 0)
  (Q (.bool (s6.toList == s1.toList)) w2)
  (Q (.bool false) w2)) :
N_l10_TileOnce.j16 Q s1 s6 s11 w := Nd_fold K_l10_TileOnce (by kernel_rfl) h
theorem C_l10_TileOnce_eq (Q : Value → World → Prop) (a0_0 : Int) (a0_1 : Int) (a0_2 : Int) (a0_3 : Int) (a0_4 : Bool) (a1 : ByteArray) (w : World) (h :
  alC #[.int .i64 a0_0, .int .i64 a0_1, .int .i64 a0_2, .int .i64 a0_3, .bool a0_4] 24 w fun p1 w2 =>
  alC #[.int .i64 0, .int .i64 0, .int .i64 0, .int .i64 0, .bool false] 24 w2 fun p3 w4 =>
  Array.size (#[.int .i64 8, .int .i64 1, .int .i64 1234067, .int .i64 5, .bool false] : Array Value) = 5 ∧
  stC (p3.add 0) (.int .i64 8) w4 fun w5 =>
  stC (p3.add 1) (.int .i64 1) w5 fun w6 =>
  stC (p3.add 2) (.int .i64 1234067) w6 fun w7 =>
  stC (p3.add 3) (.int .i64 5) w7 fun w8 =>
  stC (p3.add 4) (.bool false) w8 fun w9 =>
  opnI .i64 (w9.cell? (p3.add 0)) fun x10 =>
  opnI .i64 (w9.cell? (p3.add 1)) fun x11 =>
  opnI .i64 (w9.cell? (p3.add 2)) fun x12 =>
  opnI .i64 (w9.cell? (p3.add 3)) fun x13 =>
  opnB (w9.cell? (p3.add 4)) fun x14 =>
  C_tile_Path #[.agg #[.int .i64 x10, .int .i64 x11, .int .i64 x12, .int .i64 x13, .bool x14]] w9 fun v15 w16 =>
  opnT (some v15) fun x17 =>
  x17.size = 2 ∧
  opnS (x17[0]?) fun x18 =>
  opnI .i64 (x17[1]?) fun x19 =>
  C_l10_num #[.int .i64 x19] w16 fun v20 w21 =>
  opnI .i64 (some v20) fun x22 =>
  cond (x22 != 0)
  (N_l10_TileOnce.j4 Q w21)
  (cond (!(x18.toList == (⟨#[116, 105, 108, 101, 47, 56, 47, 49, 47, 120, 48, 48, 49, 47, 120, 50, 51, 52, 47, 48, 54, 55, 46, 112, 47, 53]⟩ : ByteArray).toList))
  (N_l10_TileOnce.j4 Q w21)
  (opnI .i64 (w21.cell? (p1.add 0)) fun x23 =>
  opnI .i64 (w21.cell? (p1.add 1)) fun x24 =>
  opnI .i64 (w21.cell? (p1.add 2)) fun x25 =>
  opnI .i64 (w21.cell? (p1.add 3)) fun x26 =>
  opnB (w21.cell? (p1.add 4)) fun x27 =>
  C_tile_Path #[.agg #[.int .i64 x23, .int .i64 x24, .int .i64 x25, .int .i64 x26, .bool x27]] w21 fun v28 w29 =>
  opnT (some v28) fun x30 =>
  x30.size = 2 ∧
  opnS (x30[0]?) fun x31 =>
  opnI .i64 (x30[1]?) fun x32 =>
  opnI .i64 (w29.cell? (p1.add 0)) fun x33 =>
  opnI .i64 (w29.cell? (p1.add 1)) fun x34 =>
  opnI .i64 (w29.cell? (p1.add 2)) fun x35 =>
  opnI .i64 (w29.cell? (p1.add 3)) fun x36 =>
  opnB (w29.cell? (p1.add 4)) fun x37 =>
  C_tile_Check #[.agg #[.int .i64 x33, .int .i64 x34, .int .i64 x35, .int .i64 x36, .bool x37]] w29 fun v38 w39 =>
  opnI .i64 (some v38) fun x40 =>
  C_l10_num #[.int .i64 x40] w39 fun v41 w42 =>
  opnI .i64 (some v41) fun x43 =>
  C_l10_num #[.int .i64 x32] w42 fun v44 w45 =>
  opnI .i64 (some v44) fun x46 =>
  cond (x43 != x46)
  (N_l10_TileOnce.j7 Q w45)
  (C_l10_num #[.int .i64 x32] w45 fun v47 w48 =>
  opnI .i64 (some v47) fun x49 =>
  cond (x49 != 0)
  (cond (!(x31.toList == (⟨#[]⟩ : ByteArray).toList))
  (N_l10_TileOnce.j7 Q w48)
  (N_l10_TileOnce.j8 Q a1 p1 x31 x32 w48))
  (N_l10_TileOnce.j8 Q a1 p1 x31 x32 w48))))) :
C_l10_TileOnce #[.agg #[.int .i64 a0_0, .int .i64 a0_1, .int .i64 a0_2, .int .i64 a0_3, .bool a0_4], .string a1] w Q := C_fold K_l10_TileOnce (by kernel_rfl) h
/-! ### ledger/ledgerlaw10.num -/
noncomputable def B_l10_num : Code := match Tryd.f13.body with | some c => c | _ => .skip
noncomputable def X_l10_num : Cx := { P := PP, fn := 13, N := 4, tab := tab, results := [.tmp 2], iter := fun _ => (.none, .none), dyn := fun _ => false, live := fun _ => none }
theorem K_l10_num : OkF X_l10_num B_l10_num Tryd.f13 := ⟨⟨tab_ok, mix_ok⟩, Tryd.func13, by kernel_rfl, by kernel_rfl, by kernel_rfl, by kernel_rfl⟩
theorem C_l10_num_eq (Q : Value → World → Prop) (a0 : Int) (w : World) (h :
  Q (.int .i64 a0) w) :
C_l10_num #[.int .i64 a0] w Q := C_fold K_l10_num (by kernel_rfl) h
/-! ### ledger/tile.Check -/
noncomputable def B_tile_Check : Code := match Tryd.f25.body with | some c => c | _ => .skip
noncomputable def X_tile_Check : Cx := { P := PP, fn := 25, N := 75, tab := tab, results := [.tmp 2], iter := fun _ => (.none, .none), dyn := fun _ => false, live := fun r => cond (Nat.beq r 2) (some []) (cond (Nat.beq r 3) (some [1]) (cond (Nat.beq r 4) (some []) (cond (Nat.beq r 5) (some [1]) (cond (Nat.beq r 6) (some [1, 3]) (cond (Nat.beq r 7) (some []) (cond (Nat.beq r 8) (some []) (none))))))) }
theorem K_tile_Check : OkF X_tile_Check B_tile_Check Tryd.f25 := ⟨⟨tab_ok, mix_ok⟩, Tryd.func25, by kernel_rfl, by kernel_rfl, by kernel_rfl, by kernel_rfl⟩
noncomputable def N_tile_Check.j2 (Q : Value → World → Prop) (w : World) : Prop := Nd X_tile_Check Q [] [.code (B_tile_Check.r.l.r.l.l), .code (B_tile_Check.r.l.r.l.r), .code (B_tile_Check.r.r)] w
noncomputable def N_tile_Check.j3 (Q : Value → World → Prop) (s1 : Addr) (w : World) : Prop := Nd X_tile_Check Q [(1, 1, .pointer (some s1))] [.code (B_tile_Check.r.r.l.l), .code (B_tile_Check.r.r.l.r), .code (B_tile_Check.r.r.r)] w
noncomputable def N_tile_Check.j4 (Q : Value → World → Prop) (w : World) : Prop := Nd X_tile_Check Q [] [.code (B_tile_Check.r.r.l.r.l.l), .code (B_tile_Check.r.r.l.r.l.r), .code (B_tile_Check.r.r.r)] w
noncomputable def N_tile_Check.j5 (Q : Value → World → Prop) (s1 : Addr) (w : World) : Prop := Nd X_tile_Check Q [(1, 1, .pointer (some s1))] [.code (B_tile_Check.r.r.r.l), .code (B_tile_Check.r.r.r.r)] w
noncomputable def N_tile_Check.j6 (Q : Value → World → Prop) (s1 : Addr) (s3 : Int) (w : World) : Prop := Nd X_tile_Check Q [(1, 1, .pointer (some s1)), (3, 3, .int .i64 s3)] [.code (B_tile_Check.r.r.r.r.l.l), .code (B_tile_Check.r.r.r.r.l.r), .code (B_tile_Check.r.r.r.r.r)] w
noncomputable def N_tile_Check.j7 (Q : Value → World → Prop) (w : World) : Prop := Nd X_tile_Check Q [] [.code (B_tile_Check.r.r.r.r.l.r.l.l), .code (B_tile_Check.r.r.r.r.l.r.l.r), .code (B_tile_Check.r.r.r.r.r)] w
noncomputable def N_tile_Check.j8 (Q : Value → World → Prop) (w : World) : Prop := Nd X_tile_Check Q [] [.code (B_tile_Check.r.r.r.r.r.l), .code (B_tile_Check.r.r.r.r.r.r)] w
theorem N_tile_Check.j2_eq (Q : Value → World → Prop) (w : World) (h :
  Q (.int .i64 101) w) :
N_tile_Check.j2 Q w := Nd_fold K_tile_Check (by kernel_rfl) h
theorem N_tile_Check.j3_eq (Q : Value → World → Prop) (s1 : Addr) (w : World) (h :
  drw w fun w1 =>
  opnI .i64 (w1.cell? (s1.add 1)) fun x2 =>
  opnI .i64 (w1.cell? (s1.add 0)) fun x3 =>
  x3 ≠ (0 : Int) ∧
  cond (decide (x2 > (IntKind.wrap .i64 (Int.tdiv 48 x3))))
  (N_tile_Check.j4 Q w1)
  (N_tile_Check.j5 Q s1 w1)) :
N_tile_Check.j3 Q s1 w := Nd_fold K_tile_Check (by kernel_rfl) h
theorem N_tile_Check.j4_eq (Q : Value → World → Prop) (w : World) (h :
  Q (.int .i64 101) w) :
N_tile_Check.j4 Q w := Nd_fold K_tile_Check (by kernel_rfl) h
theorem N_tile_Check.j5_eq (Q : Value → World → Prop) (s1 : Addr) (w : World) (h :
  opnI .i64 (w.cell? (s1.add 0)) fun x1 =>
  opnI .i64 (w.cell? (s1.add 1)) fun x2 =>
  nn (IntKind.wrap .i64 (x1 * x2)) (
  N_tile_Check.j6 Q s1 (shrI .i64 281474976710656 (IntKind.wrap .i64 (x1 * x2))) w)) :
N_tile_Check.j5 Q s1 w := Nd_fold K_tile_Check (by kernel_rfl) h
theorem N_tile_Check.j6_eq (Q : Value → World → Prop) (s1 : Addr) (s3 : Int) (w : World) (h :
  drw w fun w1 =>
  opnI .i64 (w1.cell? (s1.add 2)) fun x2 =>
  opnI .i64 (w1.cell? (s1.add 0)) fun x3 =>
  nn x3 (
  cond (decide (x2 > (shrI .i64 s3 x3)))
  (N_tile_Check.j7 Q w1)
  (opnI .i64 (w1.cell? (s1.add 2)) fun x4 =>
  opnI .i64 (w1.cell? (s1.add 0)) fun x5 =>
  nn x5 (
  opnI .i64 (w1.cell? (s1.add 3)) fun x6 =>
  cond (decide ((IntKind.wrap .i64 ((shlI .i64 x4 x5) + x6)) > s3))
  (N_tile_Check.j7 Q w1)
  (N_tile_Check.j8 Q w1))))) :
N_tile_Check.j6 Q s1 s3 w := Nd_fold K_tile_Check (by kernel_rfl) h
theorem N_tile_Check.j7_eq (Q : Value → World → Prop) (w : World) (h :
  Q (.int .i64 101) w) :
N_tile_Check.j7 Q w := Nd_fold K_tile_Check (by kernel_rfl) h
theorem N_tile_Check.j8_eq (Q : Value → World → Prop) (w : World) (h :
  Q (.int .i64 0) w) :
N_tile_Check.j8 Q w := Nd_fold K_tile_Check (by kernel_rfl) h
theorem C_tile_Check_eq (Q : Value → World → Prop) (a0_0 : Int) (a0_1 : Int) (a0_2 : Int) (a0_3 : Int) (a0_4 : Bool) (w : World) (h :
  alC #[.int .i64 a0_0, .int .i64 a0_1, .int .i64 a0_2, .int .i64 a0_3, .bool a0_4] 24 w fun p1 w2 =>
  drw w2 fun w3 =>
  opnI .i64 (w3.cell? (p1.add 0)) fun x4 =>
  cond (decide (x4 < 1))
  (N_tile_Check.j2 Q w3)
  (opnI .i64 (w3.cell? (p1.add 0)) fun x5 =>
  cond (decide (x5 > 8))
  (N_tile_Check.j2 Q w3)
  (opnI .i64 (w3.cell? (p1.add 3)) fun x6 =>
  cond (decide (x6 < 1))
  (N_tile_Check.j2 Q w3)
  (opnI .i64 (w3.cell? (p1.add 3)) fun x7 =>
  opnI .i64 (w3.cell? (p1.add 0)) fun x8 =>
  C_tile_full #[.int .i64 x8] w3 fun v9 w10 =>
  opnI .i64 (some v9) fun x11 =>
  (opnI .i64 (w10.cell? (p1.add 3)) fun x12 =>
  ((.int .i64 x12) : Value) = .int .i64 x7) ∧
  cond (decide (x7 > x11))
  (N_tile_Check.j2 Q w10)
  (opnI .i64 (w10.cell? (p1.add 1)) fun x13 =>
  cond (decide (x13 < 0))
  (N_tile_Check.j2 Q w10)
  (opnI .i64 (w10.cell? (p1.add 2)) fun x14 =>
  cond (decide (x14 < 0))
  (N_tile_Check.j2 Q w10)
  (opnB (w10.cell? (p1.add 4)) fun x15 =>
  cond x15
  (opnI .i64 (w10.cell? (p1.add 1)) fun x16 =>
  cond (x16 != 0)
  (N_tile_Check.j2 Q w10)
  (N_tile_Check.j3 Q p1 w10))
  (N_tile_Check.j3 Q p1 w10)))))))) :
C_tile_Check #[.agg #[.int .i64 a0_0, .int .i64 a0_1, .int .i64 a0_2, .int .i64 a0_3, .bool a0_4]] w Q := C_fold K_tile_Check (by kernel_rfl) h
/-! ### ledger/tile.Path -/
noncomputable def B_tile_Path : Code := match Tryd.f31.body with | some c => c | _ => .skip
noncomputable def X_tile_Path : Cx := { P := PP, fn := 31, N := 55, tab := tab, results := [.tmp 2, .tmp 3], iter := fun _ => (.none, .none), dyn := fun _ => false, live := fun r => cond (Nat.beq r 8) (some [1, 4]) (cond (Nat.beq r 9) (some [1, 4, 5]) (cond (Nat.beq r 11) (some [1, 4, 5]) (cond (Nat.beq r 17) (some [4]) (none)))) }
theorem K_tile_Path : OkF X_tile_Path B_tile_Path Tryd.f31 := ⟨⟨tab_ok, mix_ok⟩, Tryd.func31, by kernel_rfl, by kernel_rfl, by kernel_rfl, by kernel_rfl⟩
noncomputable def N_tile_Path.j8 (Q : Value → World → Prop) (s1 : Addr) (s4 : Addr) (w : World) : Prop := Nd X_tile_Path Q [(1, 1, .pointer (some s1)), (4, 4, .pointer (some s4))] [.code (B_tile_Path.r.r.r.r.r.l), .code (B_tile_Path.r.r.r.r.r.r)] w
noncomputable def N_tile_Path.j9 (Q : Value → World → Prop) (s1 : Addr) (s4 : Addr) (s5 : ByteArray) (w : World) : Prop := Nd X_tile_Path Q [(1, 1, .pointer (some s1)), (4, 4, .pointer (some s4)), (5, 5, .string s5)] [.code (B_tile_Path.r.r.r.r.r.r.l.l.l.l.l), .code (B_tile_Path.r.r.r.r.r.r.l.l.l.l.r), .code (B_tile_Path.r.r.r.r.r.r.l.l.l.r), .inLoop (B_tile_Path.r.r.r.r.r.r.l.l.l), .inBlock 0, .code (B_tile_Path.r.r.r.r.r.r.r)] w
noncomputable def N_tile_Path.j11 (Q : Value → World → Prop) (s1 : Addr) (s4 : Addr) (s5 : ByteArray) (w : World) : Prop := Nd X_tile_Path Q [(1, 1, .pointer (some s1)), (4, 4, .pointer (some s4)), (5, 5, .string s5)] [.code (B_tile_Path.r.r.r.r.r.r.r.l.l.l.l.l), .code (B_tile_Path.r.r.r.r.r.r.r.l.l.l.l.r), .code (B_tile_Path.r.r.r.r.r.r.r.l.l.l.r), .inLoop (B_tile_Path.r.r.r.r.r.r.r.l.l.l), .inBlock 2, .code (B_tile_Path.r.r.r.r.r.r.r.r)] w
noncomputable def N_tile_Path.j17 (Q : Value → World → Prop) (s4 : Addr) (w : World) : Prop := Nd X_tile_Path Q [(4, 4, .pointer (some s4))] [.code (B_tile_Path.r.r.r.r.r.r.r.r.r.r.l), .code (B_tile_Path.r.r.r.r.r.r.r.r.r.r.r)] w
theorem N_tile_Path.j8_eq (Q : Value → World → Prop) (s1 : Addr) (s4 : Addr) (w : World) (h :
  opnI .i64 (w.cell? (s1.add 2)) fun x1 =>
  C_strconv_FormatInt #[.int .i64 x1, .int .i64 10] w fun v2 w3 =>
  opnS (some v2) fun x4 =>
  N_tile_Path.j9 Q s1 s4 x4 w3) :
N_tile_Path.j8 Q s1 s4 w := Nd_fold K_tile_Path (by kernel_rfl) h
theorem N_tile_Path.j9_eq (Q : Value → World → Prop) (s1 : Addr) (s4 : Addr) (s5 : ByteArray) (w : World) (h :
  3 ≠ (0 : Int) ∧
  cond ((Int.tmod ((s5.size : Nat) : Int) 3) != 0)
  ((⟨#[48]⟩ : ByteArray).size + s5.size ≤ 9223372036854775807 ∧
  N_tile_Path.j9 Q s1 s4 ((⟨#[48]⟩ : ByteArray) ++ s5) w)
  (N_tile_Path.j11 Q s1 s4 s5 w)) :
N_tile_Path.j9 Q s1 s4 s5 w := Nd_fold K_tile_Path (by kernel_rfl) h
theorem N_tile_Path.j11_eq (Q : Value → World → Prop) (s1 : Addr) (s4 : Addr) (s5 : ByteArray) (w : World) (h :
  cond (decide (((s5.size : Nat) : Int) > 3))
  ((0 : Int) ≤ 3 ∧
  3 ≤ ((s5.size : Nat) : Int) ∧
  (⟨#[47, 120]⟩ : ByteArray).size + (s5.extract 0 (Int.toNat 3)).size ≤ 9223372036854775807 ∧
  C_p_strings_Builder_WriteString #[.pointer (some s4), .string ((⟨#[47, 120]⟩ : ByteArray) ++ (s5.extract 0 (Int.toNat 3)))] w fun v1 w2 =>
  opnT (some v1) fun x3 =>
  x3.size = 2 ∧
  opnI .i64 (x3[0]?) fun x4 =>
  opnV (x3[1]?) fun x5 =>
  (0 : Int) ≤ 3 ∧
  3 ≤ ((s5.size : Nat) : Int) ∧
  N_tile_Path.j11 Q s1 s4 (s5.extract (Int.toNat 3) s5.size) w2)
  ((⟨#[47]⟩ : ByteArray).size + s5.size ≤ 9223372036854775807 ∧
  C_p_strings_Builder_WriteString #[.pointer (some s4), .string ((⟨#[47]⟩ : ByteArray) ++ s5)] w fun v6 w7 =>
  opnT (some v6) fun x8 =>
  x8.size = 2 ∧
  opnI .i64 (x8[0]?) fun x9 =>
  opnV (x8[1]?) fun x10 =>
  drw w7 fun w11 =>
  opnI .i64 (w11.cell? (s1.add 3)) fun x12 =>
  opnI .i64 (w11.cell? (s1.add 0)) fun x13 =>
  C_tile_full #[.int .i64 x13] w11 fun v14 w15 =>
  opnI .i64 (some v14) fun x16 =>
  (opnI .i64 (w15.cell? (s1.add 3)) fun x17 =>
  ((.int .i64 x17) : Value) = .int .i64 x12) ∧
  cond (decide (x12 < x16))
  (opnI .i64 (w15.cell? (s1.add 3)) fun x18 =>
  C_strconv_Itoa #[.int .i64 x18] w15 fun v19 w20 =>
  opnS (some v19) fun x21 =>
  (⟨#[46, 112, 47]⟩ : ByteArray).size + x21.size ≤ 9223372036854775807 ∧
  C_p_strings_Builder_WriteString #[.pointer (some s4), .string ((⟨#[46, 112, 47]⟩ : ByteArray) ++ x21)] w20 fun v22 w23 =>
  opnT (some v22) fun x24 =>
  x24.size = 2 ∧
  opnI .i64 (x24[0]?) fun x25 =>
  opnV (x24[1]?) fun x26 =>
  N_tile_Path.j17 Q s4 w23)
  (N_tile_Path.j17 Q s4 w15))) :
N_tile_Path.j11 Q s1 s4 s5 w := Nd_fold K_tile_Path (by kernel_rfl) h
theorem N_tile_Path.j17_eq (Q : Value → World → Prop) (s4 : Addr) (w : World) (h :
  C_p_strings_Builder_String #[.pointer (some s4)] w fun v1 w2 =>
  opnS (some v1) fun x3 =>
  Q (.tuple #[.string x3, .int .i64 0]) w2) :
N_tile_Path.j17 Q s4 w := Nd_fold K_tile_Path (by kernel_rfl) h
theorem C_tile_Path_eq (Q : Value → World → Prop) (a0_0 : Int) (a0_1 : Int) (a0_2 : Int) (a0_3 : Int) (a0_4 : Bool) (w : World) (h :
  alC #[.int .i64 a0_0, .int .i64 a0_1, .int .i64 a0_2, .int .i64 a0_3, .bool a0_4] 24 w fun p1 w2 =>
  opnI .i64 (w2.cell? (p1.add 0)) fun x3 =>
  opnI .i64 (w2.cell? (p1.add 1)) fun x4 =>
  opnI .i64 (w2.cell? (p1.add 2)) fun x5 =>
  opnI .i64 (w2.cell? (p1.add 3)) fun x6 =>
  opnB (w2.cell? (p1.add 4)) fun x7 =>
  C_tile_Check #[.agg #[.int .i64 x3, .int .i64 x4, .int .i64 x5, .int .i64 x6, .bool x7]] w2 fun v8 w9 =>
  opnI .i64 (some v8) fun x10 =>
  cond (x10 != 0)
  (Q (.tuple #[.string (⟨#[]⟩ : ByteArray), .int .i64 101]) w9)
  (alC #[.pointer none, .slice none 0 0] 115 w9 fun p11 w12 =>
  opnI .i64 (w12.cell? (p1.add 0)) fun x13 =>
  C_strconv_Itoa #[.int .i64 x13] w12 fun v14 w15 =>
  opnS (some v14) fun x16 =>
  (⟨#[116, 105, 108, 101, 47]⟩ : ByteArray).size + x16.size ≤ 9223372036854775807 ∧
  ((⟨#[116, 105, 108, 101, 47]⟩ : ByteArray) ++ x16).size + (⟨#[47]⟩ : ByteArray).size ≤ 9223372036854775807 ∧
  C_p_strings_Builder_WriteString #[.pointer (some p11), .string (((⟨#[116, 105, 108, 101, 47]⟩ : ByteArray) ++ x16) ++ (⟨#[47]⟩ : ByteArray))] w15 fun v17 w18 =>
  opnT (some v17) fun x19 =>
  x19.size = 2 ∧
  opnI .i64 (x19[0]?) fun x20 =>
  opnV (x19[1]?) fun x21 =>
  opnB (w18.cell? (p1.add 4)) fun x22 =>
  cond x22
  (C_p_strings_Builder_WriteString #[.pointer (some p11), .string (⟨#[100, 97, 116, 97]⟩ : ByteArray)] w18 fun v23 w24 =>
  opnT (some v23) fun x25 =>
  x25.size = 2 ∧
  opnI .i64 (x25[0]?) fun x26 =>
  opnV (x25[1]?) fun x27 =>
  N_tile_Path.j8 Q p1 p11 w24)
  (opnI .i64 (w18.cell? (p1.add 1)) fun x28 =>
  C_strconv_Itoa #[.int .i64 x28] w18 fun v29 w30 =>
  opnS (some v29) fun x31 =>
  C_p_strings_Builder_WriteString #[.pointer (some p11), .string x31] w30 fun v32 w33 =>
  opnT (some v32) fun x34 =>
  x34.size = 2 ∧
  opnI .i64 (x34[0]?) fun x35 =>
  opnV (x34[1]?) fun x36 =>
  N_tile_Path.j8 Q p1 p11 w33))) :
C_tile_Path #[.agg #[.int .i64 a0_0, .int .i64 a0_1, .int .i64 a0_2, .int .i64 a0_3, .bool a0_4]] w Q := C_fold K_tile_Path (by kernel_rfl) h
/-! ### ledger/tile.ParsePath -/
noncomputable def B_tile_ParsePath : Code := match Tryd.f33.body with | some c => c | _ => .skip
noncomputable def X_tile_ParsePath : Cx := { P := PP, fn := 33, N := 27, tab := tab, results := [.cell 2 24, .tmp 3], iter := fun _ => (.none, .none), dyn := fun _ => false, live := fun r => cond (Nat.beq r 6) (some [2]) (none) }
theorem K_tile_ParsePath : OkF X_tile_ParsePath B_tile_ParsePath Tryd.f33 := ⟨⟨tab_ok, mix_ok⟩, Tryd.func33, by kernel_rfl, by kernel_rfl, by kernel_rfl, by kernel_rfl⟩
noncomputable def N_tile_ParsePath.j6 (Q : Value → World → Prop) (s2 : Addr) (w : World) : Prop := Nd X_tile_ParsePath Q [(2, 2, .pointer (some s2))] [.code (B_tile_ParsePath.r.r.r.l.r.r.l.l), .code (B_tile_ParsePath.r.r.r.l.r.r.l.r), .code (B_tile_ParsePath.r.r.r.r)] w
theorem N_tile_ParsePath.j6_eq (Q : Value → World → Prop) (s2 : Addr) (w : World) (h :
  Array.size (#[.int .i64 0, .int .i64 0, .int .i64 0, .int .i64 0, .bool false] : Array Value) = 5 ∧
  stC (s2.add 0) (.int .i64 0) w fun w1 =>
  stC (s2.add 1) (.int .i64 0) w1 fun w2 =>
  stC (s2.add 2) (.int .i64 0) w2 fun w3 =>
  stC (s2.add 3) (.int .i64 0) w3 fun w4 =>
  stC (s2.add 4) (.bool false) w4 fun w5 =>
  opnI .i64 (w5.cell? (s2.add 0)) fun x6 =>
  opnI .i64 (w5.cell? (s2.add 1)) fun x7 =>
  opnI .i64 (w5.cell? (s2.add 2)) fun x8 =>
  opnI .i64 (w5.cell? (s2.add 3)) fun x9 =>
  opnB (w5.cell? (s2.add 4)) fun x10 =>
  Q (.tuple #[.agg #[.int .i64 x6, .int .i64 x7, .int .i64 x8, .int .i64 x9, .bool x10], .int .i64 100]) w5) :
N_tile_ParsePath.j6 Q s2 w := Nd_fold K_tile_ParsePath (by kernel_rfl) h
theorem C_tile_ParsePath_eq (Q : Value → World → Prop) (a0 : ByteArray) (w : World) (h :
  alC #[.int .i64 0, .int .i64 0, .int .i64 0, .int .i64 0, .bool false] 24 w fun p1 w2 =>
  cond (decide (((a0.size : Nat) : Int) > 200))
  (Array.size (#[.int .i64 0, .int .i64 0, .int .i64 0, .int .i64 0, .bool false] : Array Value) = 5 ∧
  stC (p1.add 0) (.int .i64 0) w2 fun w3 =>
  stC (p1.add 1) (.int .i64 0) w3 fun w4 =>
  stC (p1.add 2) (.int .i64 0) w4 fun w5 =>
  stC (p1.add 3) (.int .i64 0) w5 fun w6 =>
  stC (p1.add 4) (.bool false) w6 fun w7 =>
  opnI .i64 (w7.cell? (p1.add 0)) fun x8 =>
  opnI .i64 (w7.cell? (p1.add 1)) fun x9 =>
  opnI .i64 (w7.cell? (p1.add 2)) fun x10 =>
  opnI .i64 (w7.cell? (p1.add 3)) fun x11 =>
  opnB (w7.cell? (p1.add 4)) fun x12 =>
  Q (.tuple #[.agg #[.int .i64 x8, .int .i64 x9, .int .i64 x10, .int .i64 x11, .bool x12], .int .i64 100]) w7)
  (C_tile_guess #[.string a0] w2 fun v13 w14 =>
  opnG (some v13) fun x15 =>
  x15.size = 5 ∧
  opnI .i64 (x15[0]?) fun x16 =>
  opnI .i64 (x15[1]?) fun x17 =>
  opnI .i64 (x15[2]?) fun x18 =>
  opnI .i64 (x15[3]?) fun x19 =>
  opnB (x15[4]?) fun x20 =>
  alC #[.int .i64 0, .int .i64 0, .int .i64 0, .int .i64 0, .bool false] 24 w14 fun p21 w22 =>
  Array.size (#[.int .i64 x16, .int .i64 x17, .int .i64 x18, .int .i64 x19, .bool x20] : Array Value) = 5 ∧
  stC (p21.add 0) (.int .i64 x16) w22 fun w23 =>
  stC (p21.add 1) (.int .i64 x17) w23 fun w24 =>
  stC (p21.add 2) (.int .i64 x18) w24 fun w25 =>
  stC (p21.add 3) (.int .i64 x19) w25 fun w26 =>
  stC (p21.add 4) (.bool x20) w26 fun w27 =>
  opnI .i64 (w27.cell? (p21.add 0)) fun x28 =>
  opnI .i64 (w27.cell? (p21.add 1)) fun x29 =>
  opnI .i64 (w27.cell? (p21.add 2)) fun x30 =>
  opnI .i64 (w27.cell? (p21.add 3)) fun x31 =>
  opnB (w27.cell? (p21.add 4)) fun x32 =>
  C_tile_Path #[.agg #[.int .i64 x28, .int .i64 x29, .int .i64 x30, .int .i64 x31, .bool x32]] w27 fun v33 w34 =>
  opnT (some v33) fun x35 =>
  x35.size = 2 ∧
  opnS (x35[0]?) fun x36 =>
  opnI .i64 (x35[1]?) fun x37 =>
  cond (x37 != 0)
  (N_tile_ParsePath.j6 Q p1 w34)
  (cond (!(x36.toList == a0.toList))
  (N_tile_ParsePath.j6 Q p1 w34)
  (opnI .i64 (w34.cell? (p21.add 0)) fun x38 =>
  opnI .i64 (w34.cell? (p21.add 1)) fun x39 =>
  opnI .i64 (w34.cell? (p21.add 2)) fun x40 =>
  opnI .i64 (w34.cell? (p21.add 3)) fun x41 =>
  opnB (w34.cell? (p21.add 4)) fun x42 =>
  Array.size (#[.int .i64 x38, .int .i64 x39, .int .i64 x40, .int .i64 x41, .bool x42] : Array Value) = 5 ∧
  stC (p1.add 0) (.int .i64 x38) w34 fun w43 =>
  stC (p1.add 1) (.int .i64 x39) w43 fun w44 =>
  stC (p1.add 2) (.int .i64 x40) w44 fun w45 =>
  stC (p1.add 3) (.int .i64 x41) w45 fun w46 =>
  stC (p1.add 4) (.bool x42) w46 fun w47 =>
  opnI .i64 (w47.cell? (p1.add 0)) fun x48 =>
  opnI .i64 (w47.cell? (p1.add 1)) fun x49 =>
  opnI .i64 (w47.cell? (p1.add 2)) fun x50 =>
  opnI .i64 (w47.cell? (p1.add 3)) fun x51 =>
  opnB (w47.cell? (p1.add 4)) fun x52 =>
  Q (.tuple #[.agg #[.int .i64 x48, .int .i64 x49, .int .i64 x50, .int .i64 x51, .bool x52], .int .i64 0]) w47)))) :
C_tile_ParsePath #[.string a0] w Q := C_fold K_tile_ParsePath (by kernel_rfl) h
/-! ### ledger/tile.full -/
noncomputable def B_tile_full : Code := match Tryd.f50.body with | some c => c | _ => .skip
noncomputable def X_tile_full : Cx := { P := PP, fn := 50, N := 5, tab := tab, results := [.tmp 2], iter := fun _ => (.none, .none), dyn := fun _ => false, live := fun _ => none }
theorem K_tile_full : OkF X_tile_full B_tile_full Tryd.f50 := ⟨⟨tab_ok, mix_ok⟩, Tryd.func50, by kernel_rfl, by kernel_rfl, by kernel_rfl, by kernel_rfl⟩
theorem C_tile_full_eq (Q : Value → World → Prop) (a0 : Int) (w : World) (h :
  nn a0 (
  Q (.int .i64 (shlI .i64 1 a0)) w)) :
C_tile_full #[.int .i64 a0] w Q := C_fold K_tile_full (by kernel_rfl) h
/-! ### ledger/tile.guess -/
noncomputable def B_tile_guess : Code := match Tryd.f64.body with | some c => c | _ => .skip
noncomputable def X_tile_guess : Cx := { P := PP, fn := 64, N := 79, tab := tab, results := [.cell 2 24], iter := fun _ => (.none, .none), dyn := fun _ => false, live := fun r => cond (Nat.beq r 14) (some [2, 4, 5]) (cond (Nat.beq r 15) (some [2, 4, 7]) (cond (Nat.beq r 16) (some [2, 4]) (none))) }
theorem K_tile_guess : OkF X_tile_guess B_tile_guess Tryd.f64 := ⟨⟨tab_ok, mix_ok⟩, Tryd.func64, by kernel_rfl, by kernel_rfl, by kernel_rfl, by kernel_rfl⟩
noncomputable def N_tile_guess.j14 (Q : Value → World → Prop) (s2 : Addr) (s4 : Addr) (s5 : Option Addr) (s5n : Nat) (s5c : Nat) (w : World) : Prop := Nd X_tile_guess Q [(2, 2, .pointer (some s2)), (4, 4, .pointer (some s4)), (5, 5, .slice s5 s5n s5c)] [.code (B_tile_guess.r.r.r.r.r.r.r.r.r.r.l), .code (B_tile_guess.r.r.r.r.r.r.r.r.r.r.r)] w
noncomputable def N_tile_guess.j15 (Q : Value → World → Prop) (s2 : Addr) (s4 : Addr) (s7 : ByteArray) (w : World) : Prop := Nd X_tile_guess Q [(2, 2, .pointer (some s2)), (4, 4, .pointer (some s4)), (7, 7, .string s7)] [.code (B_tile_guess.r.r.r.r.r.r.r.r.r.r.r.l), .code (B_tile_guess.r.r.r.r.r.r.r.r.r.r.r.r)] w
noncomputable def N_tile_guess.j16 (Q : Value → World → Prop) (s2 : Addr) (s4 : Addr) (w : World) : Prop := Nd X_tile_guess Q [(2, 2, .pointer (some s2)), (4, 4, .pointer (some s4))] [.code (B_tile_guess.r.r.r.r.r.r.r.r.r.r.r.r.l), .code (B_tile_guess.r.r.r.r.r.r.r.r.r.r.r.r.r)] w
theorem N_tile_guess.j14_eq (Q : Value → World → Prop) (s2 : Addr) (s4 : Addr) (s5 : Option Addr) (s5n : Nat) (s5c : Nat) (w : World) (h :
  C_strings_Join #[.slice s5 s5n s5c, .string (⟨#[]⟩ : ByteArray)] w fun v1 w2 =>
  opnS (some v1) fun x3 =>
  C_strings_ReplaceAll #[.string x3, .string (⟨#[120]⟩ : ByteArray), .string (⟨#[]⟩ : ByteArray)] w2 fun v4 w5 =>
  opnS (some v4) fun x6 =>
  C_strings_TrimSuffix #[.string x6, .string (⟨#[46, 112]⟩ : ByteArray)] w5 fun v7 w8 =>
  opnS (some v7) fun x9 =>
  N_tile_guess.j15 Q s2 s4 x9 w8) :
N_tile_guess.j14 Q s2 s4 s5 s5n s5c w := Nd_fold K_tile_guess (by kernel_rfl) h
theorem N_tile_guess.j15_eq (Q : Value → World → Prop) (s2 : Addr) (s4 : Addr) (s7 : ByteArray) (w : World) (h :
  C_strconv_ParseInt #[.string s7, .int .i64 10, .int .i64 64] w fun v1 w2 =>
  opnT (some v1) fun x3 =>
  x3.size = 2 ∧
  opnI .i64 (x3[0]?) fun x4 =>
  opnV (x3[1]?) fun x5 =>
  stC (s4.add 2) (.int .i64 x4) w2 fun w6 =>
  N_tile_guess.j16 Q s2 s4 w6) :
N_tile_guess.j15 Q s2 s4 s7 w := Nd_fold K_tile_guess (by kernel_rfl) h
theorem N_tile_guess.j16_eq (Q : Value → World → Prop) (s2 : Addr) (s4 : Addr) (w : World) (h :
  opnI .i64 (w.cell? (s4.add 0)) fun x1 =>
  opnI .i64 (w.cell? (s4.add 1)) fun x2 =>
  opnI .i64 (w.cell? (s4.add 2)) fun x3 =>
  opnI .i64 (w.cell? (s4.add 3)) fun x4 =>
  opnB (w.cell? (s4.add 4)) fun x5 =>
  Array.size (#[.int .i64 x1, .int .i64 x2, .int .i64 x3, .int .i64 x4, .bool x5] : Array Value) = 5 ∧
  stC (s2.add 0) (.int .i64 x1) w fun w6 =>
  stC (s2.add 1) (.int .i64 x2) w6 fun w7 =>
  stC (s2.add 2) (.int .i64 x3) w7 fun w8 =>
  stC (s2.add 3) (.int .i64 x4) w8 fun w9 =>
  stC (s2.add 4) (.bool x5) w9 fun w10 =>
  opnI .i64 (w10.cell? (s2.add 0)) fun x11 =>
  opnI .i64 (w10.cell? (s2.add 1)) fun x12 =>
  opnI .i64 (w10.cell? (s2.add 2)) fun x13 =>
  opnI .i64 (w10.cell? (s2.add 3)) fun x14 =>
  opnB (w10.cell? (s2.add 4)) fun x15 =>
  Q (.agg #[.int .i64 x11, .int .i64 x12, .int .i64 x13, .int .i64 x14, .bool x15]) w10) :
N_tile_guess.j16 Q s2 s4 w := Nd_fold K_tile_guess (by kernel_rfl) h
theorem C_tile_guess_eq (Q : Value → World → Prop) (a0 : ByteArray) (w : World) (h :
  alC #[.int .i64 0, .int .i64 0, .int .i64 0, .int .i64 0, .bool false] 24 w fun p1 w2 =>
  C_strings_Split #[.string a0, .string (⟨#[47]⟩ : ByteArray)] w2 fun v3 w4 =>
  opnL (some v3) fun x5 x5n x5c =>
  cond (decide (((x5n : Nat) : Int) < 4))
  (Array.size (#[.int .i64 0, .int .i64 0, .int .i64 0, .int .i64 0, .bool false] : Array Value) = 5 ∧
  stC (p1.add 0) (.int .i64 0) w4 fun w6 =>
  stC (p1.add 1) (.int .i64 0) w6 fun w7 =>
  stC (p1.add 2) (.int .i64 0) w7 fun w8 =>
  stC (p1.add 3) (.int .i64 0) w8 fun w9 =>
  stC (p1.add 4) (.bool false) w9 fun w10 =>
  opnI .i64 (w10.cell? (p1.add 0)) fun x11 =>
  opnI .i64 (w10.cell? (p1.add 1)) fun x12 =>
  opnI .i64 (w10.cell? (p1.add 2)) fun x13 =>
  opnI .i64 (w10.cell? (p1.add 3)) fun x14 =>
  opnB (w10.cell? (p1.add 4)) fun x15 =>
  Q (.agg #[.int .i64 x11, .int .i64 x12, .int .i64 x13, .int .i64 x14, .bool x15]) w10)
  (alC #[.int .i64 0, .int .i64 0, .int .i64 0, .int .i64 0, .bool false] 24 w4 fun p16 w17 =>
  (0 : Int) ≤ 1 ∧
  1 < ((x5n : Nat) : Int) ∧
  opnA x5 fun ad18 =>
  opnS (w17.cell? (ad18.add (Int.toNat 1 * 1))) fun x19 =>
  C_strconv_Atoi #[.string x19] w17 fun v20 w21 =>
  opnT (some v20) fun x22 =>
  x22.size = 2 ∧
  opnI .i64 (x22[0]?) fun x23 =>
  opnV (x22[1]?) fun x24 =>
  stC (p16.add 0) (.int .i64 x23) w21 fun w25 =>
  (0 : Int) ≤ 2 ∧
  2 < ((x5n : Nat) : Int) ∧
  opnA x5 fun ad26 =>
  opnS (w25.cell? (ad26.add (Int.toNat 2 * 1))) fun x27 =>
  stC (p16.add 4) (.bool (x27.toList == (⟨#[100, 97, 116, 97]⟩ : ByteArray).toList)) w25 fun w28 =>
  (0 : Int) ≤ 2 ∧
  2 < ((x5n : Nat) : Int) ∧
  opnA x5 fun ad29 =>
  opnS (w28.cell? (ad29.add (Int.toNat 2 * 1))) fun x30 =>
  C_strconv_Atoi #[.string x30] w28 fun v31 w32 =>
  opnT (some v31) fun x33 =>
  x33.size = 2 ∧
  opnI .i64 (x33[0]?) fun x34 =>
  opnV (x33[1]?) fun x35 =>
  stC (p16.add 1) (.int .i64 x34) w32 fun w36 =>
  (0 : Int) ≤ 3 ∧
  3 ≤ ((x5n : Nat) : Int) ∧
  opnI .i64 (w36.cell? (p16.add 0)) fun x37 =>
  C_tile_full #[.int .i64 (bits .and .i64 x37 15)] w36 fun v38 w39 =>
  opnI .i64 (some v38) fun x40 =>
  stC (p16.add 3) (.int .i64 x40) w39 fun w41 =>
  cond (decide (((x5n - (Int.toNat 3) : Nat) : Int) > 1))
  ((0 : Int) ≤ IntKind.wrap .i64 (((x5n - (Int.toNat 3) : Nat) : Int) - 2) ∧
  (IntKind.wrap .i64 (((x5n - (Int.toNat 3) : Nat) : Int) - 2)) < (((x5n - (Int.toNat 3)) : Nat) : Int) ∧
  opnA (slA x5 (Int.toNat 3) x5c 1) fun ad42 =>
  opnS (w41.cell? (ad42.add (Int.toNat (IntKind.wrap .i64 (((x5n - (Int.toNat 3) : Nat) : Int) - 2)) * 1))) fun x43 =>
  C_strings_HasSuffix #[.string x43, .string (⟨#[46, 112]⟩ : ByteArray)] w41 fun v44 w45 =>
  opnB (some v44) fun x46 =>
  cond x46
  ((0 : Int) ≤ IntKind.wrap .i64 (((x5n - (Int.toNat 3) : Nat) : Int) - 1) ∧
  (IntKind.wrap .i64 (((x5n - (Int.toNat 3) : Nat) : Int) - 1)) < (((x5n - (Int.toNat 3)) : Nat) : Int) ∧
  opnA (slA x5 (Int.toNat 3) x5c 1) fun ad47 =>
  opnS (w45.cell? (ad47.add (Int.toNat (IntKind.wrap .i64 (((x5n - (Int.toNat 3) : Nat) : Int) - 1)) * 1))) fun x48 =>
  C_strconv_Atoi #[.string x48] w45 fun v49 w50 =>
  opnT (some v49) fun x51 =>
  x51.size = 2 ∧
  opnI .i64 (x51[0]?) fun x52 =>
  opnV (x51[1]?) fun x53 =>
  stC (p16.add 3) (.int .i64 x52) w50 fun w54 =>
  (0 : Int) ≤ (IntKind.wrap .i64 (((x5n - (Int.toNat 3) : Nat) : Int) - 1)) ∧
  (IntKind.wrap .i64 (((x5n - (Int.toNat 3) : Nat) : Int) - 1)) ≤ (((x5c - (Int.toNat 3)) : Nat) : Int) ∧
  N_tile_guess.j14 Q p1 p16 (slA (slA x5 (Int.toNat 3) x5c 1) 0 (x5c - (Int.toNat 3)) 1) ((Int.toNat (IntKind.wrap .i64 (((x5n - (Int.toNat 3) : Nat) : Int) - 1))) - 0) ((x5c - (Int.toNat 3)) - 0) w54)
  (N_tile_guess.j14 Q p1 p16 (slA x5 (Int.toNat 3) x5c 1) (x5n - (Int.toNat 3)) (x5c - (Int.toNat 3)) w45))
  (N_tile_guess.j14 Q p1 p16 (slA x5 (Int.toNat 3) x5c 1) (x5n - (Int.toNat 3)) (x5c - (Int.toNat 3)) w41))) :
C_tile_guess #[.string a0] w Q := C_fold K_tile_guess (by kernel_rfl) h
end Go.Proofs.YtccjncflbbhldaaDoor
