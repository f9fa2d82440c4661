/- Functions' equations (printed by wip/gen/drive.py). -/
import Derived.Test.YtccjncflbbhldaaDoorShT
set_option maxRecDepth 100000
namespace Go.Proofs.YtccjncflbbhldaaDoor
open Go.Sh
/-! ### ledger/ledgerlaw10.TilePaths -/
noncomputable def B_l10_TilePaths : Code := match Tryd.f7.body with | some c => c | _ => .skip
noncomputable def X_l10_TilePaths : Cx := { P := PP, fn := 7, N := 58, tab := tab, results := [.tmp 4], iter := fun _ => (.none, .none), dyn := fun _ => false, live := fun r => cond (Nat.beq r 6) (some []) (none) }
theorem K_l10_TilePaths : OkF X_l10_TilePaths B_l10_TilePaths Tryd.f7 := ⟨⟨tab_ok, mix_ok⟩, Tryd.func7, by kernel_rfl, by kernel_rfl, by kernel_rfl, by kernel_rfl⟩
noncomputable def N_l10_TilePaths.j6 (Q : Value → World → Prop) (w : World) : Prop := Nd X_l10_TilePaths Q [] [.code (B_l10_TilePaths.r.r.r.r.l.r.l.l), .code (B_l10_TilePaths.r.r.r.r.l.r.l.r), .code (B_l10_TilePaths.r.r.r.r.r)] w
theorem N_l10_TilePaths.j6_eq (Q : Value → World → Prop) (w : World) (h :
  Q (.bool false) w) :
N_l10_TilePaths.j6 Q w := Nd_fold K_l10_TilePaths (by kernel_rfl) h
theorem C_l10_TilePaths_eq (Q : Value → World → Prop) (a0_0 : Int) (a0_1 : Int) (a0_2 : Int) (a0_3 : Int) (a0_4 : Bool) (a1 : ByteArray) (w : World) (h :
  alC #[.int .i64 a0_0, .int .i64 a0_1, .int .i64 a0_2, .int .i64 a0_3, .bool a0_4] 24 w fun p1 w2 =>
  drw w2 fun w3 =>
  opnI .i64 (w3.cell? (p1.add 0)) fun x4 =>
  opnI .i64 (w3.cell? (p1.add 1)) fun x5 =>
  opnI .i64 (w3.cell? (p1.add 2)) fun x6 =>
  opnI .i64 (w3.cell? (p1.add 3)) fun x7 =>
  opnB (w3.cell? (p1.add 4)) fun x8 =>
  opnI .i64 (w3.cell? (p1.add 0)) fun x9 =>
  opnI .i64 (w3.cell? (p1.add 1)) fun x10 =>
  opnI .i64 (w3.cell? (p1.add 2)) fun x11 =>
  opnI .i64 (w3.cell? (p1.add 3)) fun x12 =>
  opnB (w3.cell? (p1.add 4)) fun x13 =>
  C_tile_Check #[.agg #[.int .i64 x4, .int .i64 x5, .int .i64 x6, .int .i64 x7, .bool x8]] w3 fun v14 w15 =>
  opnI .i64 (some v14) fun x16 =>
  (opnI .i64 (w15.cell? (p1.add 0)) fun x17 =>
  opnI .i64 (w15.cell? (p1.add 1)) fun x18 =>
  opnI .i64 (w15.cell? (p1.add 2)) fun x19 =>
  opnI .i64 (w15.cell? (p1.add 3)) fun x20 =>
  opnB (w15.cell? (p1.add 4)) fun x21 =>
  ((.agg #[.int .i64 x17, .int .i64 x18, .int .i64 x19, .int .i64 x20, .bool x21]) : Value) = .agg #[.int .i64 x9, .int .i64 x10, .int .i64 x11, .int .i64 x12, .bool x13]) ∧
  C_l10_num #[.int .i64 x16] w15 fun v22 w23 =>
  opnI .i64 (some v22) fun x24 =>
  (opnI .i64 (w23.cell? (p1.add 0)) fun x25 =>
  opnI .i64 (w23.cell? (p1.add 1)) fun x26 =>
  opnI .i64 (w23.cell? (p1.add 2)) fun x27 =>
  opnI .i64 (w23.cell? (p1.add 3)) fun x28 =>
  opnB (w23.cell? (p1.add 4)) fun x29 =>
  ((.agg #[.int .i64 x25, .int .i64 x26, .int .i64 x27, .int .i64 x28, .bool x29]) : Value) = .agg #[.int .i64 x9, .int .i64 x10, .int .i64 x11, .int .i64 x12, .bool x13]) ∧
  C_l10_doc #[.agg #[.int .i64 x9, .int .i64 x10, .int .i64 x11, .int .i64 x12, .bool x13]] w23 fun v30 w31 =>
  opnG (some v30) fun x32 =>
  x32.size = 5 ∧
  opnI .i64 (x32[0]?) fun x33 =>
  opnI .i64 (x32[1]?) fun x34 =>
  opnI .i64 (x32[2]?) fun x35 =>
  opnI .i64 (x32[3]?) fun x36 =>
  opnB (x32[4]?) fun x37 =>
  C_r10_Check #[.agg #[.int .i64 x33, .int .i64 x34, .int .i64 x35, .int .i64 x36, .bool x37]] w31 fun v38 w39 =>
  opnI .i64 (some v38) fun x40 =>
  cond (x24 != x40)
  (Q (.bool false) w39)
  (opnI .i64 (w39.cell? (p1.add 0)) fun x41 =>
  opnI .i64 (w39.cell? (p1.add 1)) fun x42 =>
  opnI .i64 (w39.cell? (p1.add 2)) fun x43 =>
  opnI .i64 (w39.cell? (p1.add 3)) fun x44 =>
  opnB (w39.cell? (p1.add 4)) fun x45 =>
  C_tile_Path #[.agg #[.int .i64 x41, .int .i64 x42, .int .i64 x43, .int .i64 x44, .bool x45]] w39 fun v46 w47 =>
  opnT (some v46) fun x48 =>
  x48.size = 2 ∧
  opnS (x48[0]?) fun x49 =>
  opnI .i64 (x48[1]?) fun x50 =>
  opnI .i64 (w47.cell? (p1.add 0)) fun x51 =>
  opnI .i64 (w47.cell? (p1.add 1)) fun x52 =>
  opnI .i64 (w47.cell? (p1.add 2)) fun x53 =>
  opnI .i64 (w47.cell? (p1.add 3)) fun x54 =>
  opnB (w47.cell? (p1.add 4)) fun x55 =>
  C_l10_doc #[.agg #[.int .i64 x51, .int .i64 x52, .int .i64 x53, .int .i64 x54, .bool x55]] w47 fun v56 w57 =>
  opnG (some v56) fun x58 =>
  x58.size = 5 ∧
  opnI .i64 (x58[0]?) fun x59 =>
  opnI .i64 (x58[1]?) fun x60 =>
  opnI .i64 (x58[2]?) fun x61 =>
  opnI .i64 (x58[3]?) fun x62 =>
  opnB (x58[4]?) fun x63 =>
  C_r10_Path #[.agg #[.int .i64 x59, .int .i64 x60, .int .i64 x61, .int .i64 x62, .bool x63]] w57 fun v64 w65 =>
  opnT (some v64) fun x66 =>
  x66.size = 2 ∧
  opnS (x66[0]?) fun x67 =>
  opnI .i64 (x66[1]?) fun x68 =>
  cond (!(x49.toList == x67.toList))
  (N_l10_TilePaths.j6 Q w65)
  (C_l10_num #[.int .i64 x50] w65 fun v69 w70 =>
  opnI .i64 (some v69) fun x71 =>
  cond (x71 != x68)
  (N_l10_TilePaths.j6 Q w70)
  (C_tile_ParsePath #[.string a1] w70 fun v72 w73 =>
  opnT (some v72) fun x74 =>
  x74.size = 2 ∧
  opnG (x74[0]?) fun x75 =>
  x75.size = 5 ∧
  opnI .i64 (x75[0]?) fun x76 =>
  opnI .i64 (x75[1]?) fun x77 =>
  opnI .i64 (x75[2]?) fun x78 =>
  opnI .i64 (x75[3]?) fun x79 =>
  opnB (x75[4]?) fun x80 =>
  opnI .i64 (x74[1]?) fun x81 =>
  alC #[.int .i64 0, .int .i64 0, .int .i64 0, .int .i64 0, .bool false] 24 w73 fun p82 w83 =>
  Array.size (#[.int .i64 x76, .int .i64 x77, .int .i64 x78, .int .i64 x79, .bool x80] : Array Value) = 5 ∧
  stC (p82.add 0) (.int .i64 x76) w83 fun w84 =>
  stC (p82.add 1) (.int .i64 x77) w84 fun w85 =>
  stC (p82.add 2) (.int .i64 x78) w85 fun w86 =>
  stC (p82.add 3) (.int .i64 x79) w86 fun w87 =>
  stC (p82.add 4) (.bool x80) w87 fun w88 =>
  C_r10_ParsePath #[.string a1] w88 fun v89 w90 =>
  opnT (some v89) fun x91 =>
  x91.size = 2 ∧
  opnG (x91[0]?) fun x92 =>
  x92.size = 5 ∧
  opnI .i64 (x92[0]?) fun x93 =>
  opnI .i64 (x92[1]?) fun x94 =>
  opnI .i64 (x92[2]?) fun x95 =>
  opnI .i64 (x92[3]?) fun x96 =>
  opnB (x92[4]?) fun x97 =>
  opnI .i64 (x91[1]?) fun x98 =>
  alC #[.int .i64 0, .int .i64 0, .int .i64 0, .int .i64 0, .bool false] 37 w90 fun p99 w100 =>
  Array.size (#[.int .i64 x93, .int .i64 x94, .int .i64 x95, .int .i64 x96, .bool x97] : Array Value) = 5 ∧
  stC (p99.add 0) (.int .i64 x93) w100 fun w101 =>
  stC (p99.add 1) (.int .i64 x94) w101 fun w102 =>
  stC (p99.add 2) (.int .i64 x95) w102 fun w103 =>
  stC (p99.add 3) (.int .i64 x96) w103 fun w104 =>
  stC (p99.add 4) (.bool x97) w104 fun w105 =>
  drw w105 fun w106 =>
  opnI .i64 (w106.cell? (p82.add 0)) fun x107 =>
  opnI .i64 (w106.cell? (p82.add 1)) fun x108 =>
  opnI .i64 (w106.cell? (p82.add 2)) fun x109 =>
  opnI .i64 (w106.cell? (p82.add 3)) fun x110 =>
  opnB (w106.cell? (p82.add 4)) fun x111 =>
  opnI .i64 (w106.cell? (p99.add 0)) fun x112 =>
  opnI .i64 (w106.cell? (p99.add 1)) fun x113 =>
  opnI .i64 (w106.cell? (p99.add 2)) fun x114 =>
  opnI .i64 (w106.cell? (p99.add 3)) fun x115 =>
  opnB (w106.cell? (p99.add 4)) fun x116 =>
  C_l10_doc #[.agg #[.int .i64 x107, .int .i64 x108, .int .i64 x109, .int .i64 x110, .bool x111]] w106 fun v117 w118 =>
  opnG (some v117) fun x119 =>
  x119.size = 5 ∧
  opnI .i64 (x119[0]?) fun x120 =>
  opnI .i64 (x119[1]?) fun x121 =>
  opnI .i64 (x119[2]?) fun x122 =>
  opnI .i64 (x119[3]?) fun x123 =>
  opnB (x119[4]?) fun x124 =>
  (opnI .i64 (w118.cell? (p99.add 0)) fun x125 =>
  opnI .i64 (w118.cell? (p99.add 1)) fun x126 =>
  opnI .i64 (w118.cell? (p99.add 2)) fun x127 =>
  opnI .i64 (w118.cell? (p99.add 3)) fun x128 =>
  opnB (w118.cell? (p99.add 4)) fun x129 =>
  ((.agg #[.int .i64 x125, .int .i64 x126, .int .i64 x127, .int .i64 x128, .bool x129]) : Value) = .agg #[.int .i64 x112, .int .i64 x113, .int .i64 x114, .int .i64 x115, .bool x116]) ∧
  semR PP (do eqGuard .eql 37 (.tmp 49) (.tmp 50) (.agg #[.int .i64 x120, .int .i64 x121, .int .i64 x122, .int .i64 x123, .bool x124]) (.agg #[.int .i64 x112, .int .i64 x113, .int .i64 x114, .int .i64 x115, .bool x116]); binOp .eql 37 (.agg #[.int .i64 x120, .int .i64 x121, .int .i64 x122, .int .i64 x123, .bool x124]) (.agg #[.int .i64 x112, .int .i64 x113, .int .i64 x114, .int .i64 x115, .bool x116])) w118 fun x130 =>
  opnB (some x130) fun x131 =>
  cond x131
  (C_l10_num #[.int .i64 x81] w118 fun v132 w133 =>
  opnI .i64 (some v132) fun x134 =>
  Q (.bool (x134 == x98)) w133)
  (Q (.bool false) w118))))) :
C_l10_TilePaths #[.agg #[.int .i64 a0_0, .int .i64 a0_1, .int .i64 a0_2, .int .i64 a0_3, .bool a0_4], .string a1] w Q := C_fold K_l10_TilePaths (by kernel_rfl) h
/-! ### ledger/ledgerlaw10.doc -/
noncomputable def B_l10_doc : Code := match Tryd.f12.body with | some c => c | _ => .skip
noncomputable def X_l10_doc : Cx := { P := PP, fn := 12, N := 14, tab := tab, results := [.cell 2 37], iter := fun _ => (.none, .none), dyn := fun _ => false, live := fun _ => none }
theorem K_l10_doc : OkF X_l10_doc B_l10_doc Tryd.f12 := ⟨⟨tab_ok, mix_ok⟩, Tryd.func12, by kernel_rfl, by kernel_rfl, by kernel_rfl, by kernel_rfl⟩
theorem C_l10_doc_eq (Q : Value → World → Prop) (a0_0 : Int) (a0_1 : Int) (a0_2 : Int) (a0_3 : Int) (a0_4 : Bool) (w : World) (h :
  alC #[.int .i64 a0_0, .int .i64 a0_1, .int .i64 a0_2, .int .i64 a0_3, .bool a0_4] 24 w fun p1 w2 =>
  alC #[.int .i64 0, .int .i64 0, .int .i64 0, .int .i64 0, .bool false] 37 w2 fun p3 w4 =>
  opnI .i64 (w4.cell? (p1.add 0)) fun x5 =>
  opnI .i64 (w4.cell? (p1.add 1)) fun x6 =>
  opnI .i64 (w4.cell? (p1.add 2)) fun x7 =>
  opnI .i64 (w4.cell? (p1.add 3)) fun x8 =>
  opnB (w4.cell? (p1.add 4)) fun x9 =>
  Array.size (#[.int .i64 x5, .int .i64 x6, .int .i64 x7, .int .i64 x8, .bool x9] : Array Value) = 5 ∧
  stC (p3.add 0) (.int .i64 x5) w4 fun w10 =>
  stC (p3.add 1) (.int .i64 x6) w10 fun w11 =>
  stC (p3.add 2) (.int .i64 x7) w11 fun w12 =>
  stC (p3.add 3) (.int .i64 x8) w12 fun w13 =>
  stC (p3.add 4) (.bool x9) w13 fun w14 =>
  opnI .i64 (w14.cell? (p3.add 0)) fun x15 =>
  opnI .i64 (w14.cell? (p3.add 1)) fun x16 =>
  opnI .i64 (w14.cell? (p3.add 2)) fun x17 =>
  opnI .i64 (w14.cell? (p3.add 3)) fun x18 =>
  opnB (w14.cell? (p3.add 4)) fun x19 =>
  Q (.agg #[.int .i64 x15, .int .i64 x16, .int .i64 x17, .int .i64 x18, .bool x19]) w14) :
C_l10_doc #[.agg #[.int .i64 a0_0, .int .i64 a0_1, .int .i64 a0_2, .int .i64 a0_3, .bool a0_4]] w Q := C_fold K_l10_doc (by kernel_rfl) h
/-! ### ledger/ledgerref10.Check -/
noncomputable def B_r10_Check : Code := match Tryd.f30.body with | some c => c | _ => .skip
noncomputable def X_r10_Check : Cx := { P := PP, fn := 30, N := 83, tab := tab, results := [.tmp 2], iter := fun _ => (.none, .none), dyn := fun _ => false, live := fun r => cond (Nat.beq r 2) (some []) (cond (Nat.beq r 5) (some []) (cond (Nat.beq r 8) (some []) (none))) }
theorem K_r10_Check : OkF X_r10_Check B_r10_Check Tryd.f30 := ⟨⟨tab_ok, mix_ok⟩, Tryd.func30, by kernel_rfl, by kernel_rfl, by kernel_rfl, by kernel_rfl⟩
noncomputable def N_r10_Check.j2 (Q : Value → World → Prop) (w : World) : Prop := Nd X_r10_Check Q [] [.code (B_r10_Check.r.l.r.l.l), .code (B_r10_Check.r.l.r.l.r), .code (B_r10_Check.r.r)] w
noncomputable def N_r10_Check.j5 (Q : Value → World → Prop) (w : World) : Prop := Nd X_r10_Check Q [] [.code (B_r10_Check.r.r.r.l.r.l.l), .code (B_r10_Check.r.r.r.l.r.l.r), .code (B_r10_Check.r.r.r.r)] w
noncomputable def N_r10_Check.j8 (Q : Value → World → Prop) (w : World) : Prop := Nd X_r10_Check Q [] [.code (B_r10_Check.r.r.r.r.r.l), .code (B_r10_Check.r.r.r.r.r.r)] w
theorem N_r10_Check.j2_eq (Q : Value → World → Prop) (w : World) (h :
  Q (.int .i64 101) w) :
N_r10_Check.j2 Q w := Nd_fold K_r10_Check (by kernel_rfl) h
theorem N_r10_Check.j5_eq (Q : Value → World → Prop) (w : World) (h :
  Q (.int .i64 101) w) :
N_r10_Check.j5 Q w := Nd_fold K_r10_Check (by kernel_rfl) h
theorem N_r10_Check.j8_eq (Q : Value → World → Prop) (w : World) (h :
  Q (.int .i64 0) w) :
N_r10_Check.j8 Q w := Nd_fold K_r10_Check (by kernel_rfl) h
theorem C_r10_Check_eq (Q : Value → World → Prop) (a0_0 : Int) (a0_1 : Int) (a0_2 : Int) (a0_3 : Int) (a0_4 : Bool) (w : World) (h :
  alC #[.int .i64 a0_0, .int .i64 a0_1, .int .i64 a0_2, .int .i64 a0_3, .bool a0_4] 37 w fun p1 w2 =>
  opnI .i64 (w2.cell? (p1.add 0)) fun x3 =>
  cond (decide (x3 < 1))
  (N_r10_Check.j2 Q w2)
  (opnI .i64 (w2.cell? (p1.add 0)) fun x4 =>
  cond (decide (x4 > 8))
  (N_r10_Check.j2 Q w2)
  (opnI .i64 (w2.cell? (p1.add 1)) fun x5 =>
  cond (decide (x5 < 0))
  (N_r10_Check.j2 Q w2)
  (opnI .i64 (w2.cell? (p1.add 1)) fun x6 =>
  cond (decide (x6 > 48))
  (N_r10_Check.j2 Q w2)
  (opnI .i64 (w2.cell? (p1.add 0)) fun x7 =>
  opnI .i64 (w2.cell? (p1.add 1)) fun x8 =>
  cond (decide ((IntKind.wrap .i64 (x7 * x8)) > 48))
  (N_r10_Check.j2 Q w2)
  (opnI .i64 (w2.cell? (p1.add 2)) fun x9 =>
  cond (decide (x9 < 0))
  (N_r10_Check.j2 Q w2)
  (opnI .i64 (w2.cell? (p1.add 3)) fun x10 =>
  cond (decide (x10 < 1))
  (N_r10_Check.j2 Q w2)
  (opnI .i64 (w2.cell? (p1.add 0)) fun x11 =>
  opnI .i64 (w2.cell? (p1.add 1)) fun x12 =>
  C_r10_power #[.int .i64 (IntKind.wrap .i64 (x11 * x12))] w2 fun v13 w14 =>
  opnI .i64 (some v13) fun x15 =>
  x15 ≠ (0 : Int) ∧
  drw w14 fun w16 =>
  opnI .i64 (w16.cell? (p1.add 3)) fun x17 =>
  opnI .i64 (w16.cell? (p1.add 0)) fun x18 =>
  C_r10_power #[.int .i64 x18] w16 fun v19 w20 =>
  opnI .i64 (some v19) fun x21 =>
  (opnI .i64 (w20.cell? (p1.add 3)) fun x22 =>
  ((.int .i64 x22) : Value) = .int .i64 x17) ∧
  cond (decide (x17 > x21))
  (N_r10_Check.j5 Q w20)
  (opnI .i64 (w20.cell? (p1.add 2)) fun x23 =>
  opnI .i64 (w20.cell? (p1.add 0)) fun x24 =>
  C_r10_power #[.int .i64 x24] w20 fun v25 w26 =>
  opnI .i64 (some v25) fun x27 =>
  (opnI .i64 (w26.cell? (p1.add 2)) fun x28 =>
  ((.int .i64 x28) : Value) = .int .i64 x23) ∧
  x27 ≠ (0 : Int) ∧
  cond (decide (x23 > (IntKind.wrap .i64 (Int.tdiv (IntKind.wrap .i64 (Int.tdiv 281474976710656 x15)) x27))))
  (N_r10_Check.j5 Q w26)
  (opnI .i64 (w26.cell? (p1.add 2)) fun x29 =>
  opnI .i64 (w26.cell? (p1.add 0)) fun x30 =>
  opnI .i64 (w26.cell? (p1.add 3)) fun x31 =>
  C_r10_power #[.int .i64 x30] w26 fun v32 w33 =>
  opnI .i64 (some v32) fun x34 =>
  (opnI .i64 (w33.cell? (p1.add 3)) fun x35 =>
  ((.int .i64 x35) : Value) = .int .i64 x31) ∧
  (opnI .i64 (w33.cell? (p1.add 2)) fun x36 =>
  ((.int .i64 x36) : Value) = .int .i64 x29) ∧
  cond (decide ((IntKind.wrap .i64 ((IntKind.wrap .i64 (x29 * x34)) + x31)) > (IntKind.wrap .i64 (Int.tdiv 281474976710656 x15))))
  (N_r10_Check.j5 Q w33)
  (opnB (w33.cell? (p1.add 4)) fun x37 =>
  cond x37
  (opnI .i64 (w33.cell? (p1.add 1)) fun x38 =>
  cond (x38 != 0)
  (Q (.int .i64 101) w33)
  (N_r10_Check.j8 Q w33))
  (N_r10_Check.j8 Q w33)))))))))))) :
C_r10_Check #[.agg #[.int .i64 a0_0, .int .i64 a0_1, .int .i64 a0_2, .int .i64 a0_3, .bool a0_4]] w Q := C_fold K_r10_Check (by kernel_rfl) h
/-! ### ledger/ledgerref10.Path -/
noncomputable def B_r10_Path : Code := match Tryd.f32.body with | some c => c | _ => .skip
noncomputable def X_r10_Path : Cx := { P := PP, fn := 32, N := 75, tab := tab, results := [.tmp 2, .tmp 3], iter := fun _ => (.none, .none), dyn := fun _ => false, live := fun r => cond (Nat.beq r 6) (some [1, 4]) (cond (Nat.beq r 7) (some [1, 4, 5]) (cond (Nat.beq r 11) (some [1, 4, 5, 6, 7]) (cond (Nat.beq r 12) (some [1, 4, 5, 6, 7]) (cond (Nat.beq r 19) (some [5]) (none))))) }
theorem K_r10_Path : OkF X_r10_Path B_r10_Path Tryd.f32 := ⟨⟨tab_ok, mix_ok⟩, Tryd.func32, by kernel_rfl, by kernel_rfl, by kernel_rfl, by kernel_rfl⟩
noncomputable def N_r10_Path.j6 (Q : Value → World → Prop) (s1 : Addr) (s4 : ByteArray) (w : World) : Prop := Nd X_r10_Path Q [(1, 1, .pointer (some s1)), (4, 4, .string s4)] [.code (B_r10_Path.r.r.r.r.l), .code (B_r10_Path.r.r.r.r.r)] w
noncomputable def N_r10_Path.j7 (Q : Value → World → Prop) (s1 : Addr) (s4 : ByteArray) (s5 : ByteArray) (w : World) : Prop := Nd X_r10_Path Q [(1, 1, .pointer (some s1)), (4, 4, .string s4), (5, 5, .string s5)] [.code (B_r10_Path.r.r.r.r.r.l.l.l.l.l), .code (B_r10_Path.r.r.r.r.r.l.l.l.l.r), .code (B_r10_Path.r.r.r.r.r.l.l.l.r), .inLoop (B_r10_Path.r.r.r.r.r.l.l.l), .inBlock 0, .code (B_r10_Path.r.r.r.r.r.r)] w
noncomputable def N_r10_Path.j11 (Q : Value → World → Prop) (s1 : Addr) (s4 : ByteArray) (s5 : ByteArray) (s6 : ByteArray) (s7 : Int) (w : World) : Prop := Nd X_r10_Path Q [(1, 1, .pointer (some s1)), (4, 4, .string s4), (5, 5, .string s5), (6, 6, .string s6), (7, 7, .int .i64 s7)] [.code (B_r10_Path.r.r.r.r.r.r.r.l.r.l.l.l.l), .code (B_r10_Path.r.r.r.r.r.r.r.l.r.l.l.l.r), .code (B_r10_Path.r.r.r.r.r.r.r.l.r.l.l.r), .inLoop (B_r10_Path.r.r.r.r.r.r.r.l.r.l.l), .inBlock 2, .code (B_r10_Path.r.r.r.r.r.r.r.r)] w
noncomputable def N_r10_Path.j12 (Q : Value → World → Prop) (s1 : Addr) (s4 : ByteArray) (s5 : ByteArray) (s6 : ByteArray) (s7 : Int) (w : World) : Prop := Nd X_r10_Path Q [(1, 1, .pointer (some s1)), (4, 4, .string s4), (5, 5, .string s5), (6, 6, .string s6), (7, 7, .int .i64 s7)] [.code (B_r10_Path.r.r.r.r.r.r.r.l.r.l.l.r.r), .inLoop (B_r10_Path.r.r.r.r.r.r.r.l.r.l.l), .inBlock 2, .code (B_r10_Path.r.r.r.r.r.r.r.r)] w
noncomputable def N_r10_Path.j19 (Q : Value → World → Prop) (s5 : ByteArray) (w : World) : Prop := Nd X_r10_Path Q [(5, 5, .string s5)] [.code (B_r10_Path.r.r.r.r.r.r.r.r.r.r.l), .code (B_r10_Path.r.r.r.r.r.r.r.r.r.r.r)] w
theorem N_r10_Path.j6_eq (Q : Value → World → Prop) (s1 : Addr) (s4 : ByteArray) (w : World) (h :
  opnI .i64 (w.cell? (s1.add 2)) fun x1 =>
  C_r10_digits #[.int .i64 x1] w fun v2 w3 =>
  opnS (some v2) fun x4 =>
  N_r10_Path.j7 Q s1 s4 x4 w3) :
N_r10_Path.j6 Q s1 s4 w := Nd_fold K_r10_Path (by kernel_rfl) h
theorem N_r10_Path.j7_eq (Q : Value → World → Prop) (s1 : Addr) (s4 : ByteArray) (s5 : ByteArray) (w : World) (h :
  3 ≠ (0 : Int) ∧
  cond ((Int.tmod ((s5.size : Nat) : Int) 3) != 0)
  ((⟨#[48]⟩ : ByteArray).size + s5.size ≤ 9223372036854775807 ∧
  N_r10_Path.j7 Q s1 s4 ((⟨#[48]⟩ : ByteArray) ++ s5) w)
  (N_r10_Path.j11 Q s1 s4 s5 (⟨#[]⟩ : ByteArray) 0 w)) :
N_r10_Path.j7 Q s1 s4 s5 w := Nd_fold K_r10_Path (by kernel_rfl) h
theorem N_r10_Path.j11_eq (Q : Value → World → Prop) (s1 : Addr) (s4 : ByteArray) (s5 : ByteArray) (s6 : ByteArray) (s7 : Int) (w : World) (h :
  cond (decide (s7 < ((s5.size : Nat) : Int)))
  (cond (decide ((IntKind.wrap .i64 (s7 + 3)) < ((s5.size : Nat) : Int)))
  (s6.size + (⟨#[120]⟩ : ByteArray).size ≤ 9223372036854775807 ∧
  (0 : Int) ≤ (IntKind.wrap .i64 (s7 + 3)) ∧
  (IntKind.wrap .i64 (s7 + 3)) ≤ ((s5.size : Nat) : Int) ∧
  (0 : Int) ≤ s7 ∧
  s7 ≤ (IntKind.wrap .i64 (s7 + 3)) ∧
  (s6 ++ (⟨#[120]⟩ : ByteArray)).size + (s5.extract (Int.toNat s7) (Int.toNat (IntKind.wrap .i64 (s7 + 3)))).size ≤ 9223372036854775807 ∧
  ((s6 ++ (⟨#[120]⟩ : ByteArray)) ++ (s5.extract (Int.toNat s7) (Int.toNat (IntKind.wrap .i64 (s7 + 3))))).size + (⟨#[47]⟩ : ByteArray).size ≤ 9223372036854775807 ∧
  N_r10_Path.j12 Q s1 s4 s5 (((s6 ++ (⟨#[120]⟩ : ByteArray)) ++ (s5.extract (Int.toNat s7) (Int.toNat (IntKind.wrap .i64 (s7 + 3))))) ++ (⟨#[47]⟩ : ByteArray)) s7 w)
  ((0 : Int) ≤ (IntKind.wrap .i64 (s7 + 3)) ∧
  (IntKind.wrap .i64 (s7 + 3)) ≤ ((s5.size : Nat) : Int) ∧
  (0 : Int) ≤ s7 ∧
  s7 ≤ (IntKind.wrap .i64 (s7 + 3)) ∧
  s6.size + (s5.extract (Int.toNat s7) (Int.toNat (IntKind.wrap .i64 (s7 + 3)))).size ≤ 9223372036854775807 ∧
  N_r10_Path.j12 Q s1 s4 s5 (s6 ++ (s5.extract (Int.toNat s7) (Int.toNat (IntKind.wrap .i64 (s7 + 3))))) s7 w))
  (opnI .i64 (w.cell? (s1.add 0)) fun x1 =>
  C_r10_digits #[.int .i64 x1] w fun v2 w3 =>
  opnS (some v2) fun x4 =>
  (⟨#[116, 105, 108, 101, 47]⟩ : ByteArray).size + x4.size ≤ 9223372036854775807 ∧
  ((⟨#[116, 105, 108, 101, 47]⟩ : ByteArray) ++ x4).size + (⟨#[47]⟩ : ByteArray).size ≤ 9223372036854775807 ∧
  (((⟨#[116, 105, 108, 101, 47]⟩ : ByteArray) ++ x4) ++ (⟨#[47]⟩ : ByteArray)).size + s4.size ≤ 9223372036854775807 ∧
  ((((⟨#[116, 105, 108, 101, 47]⟩ : ByteArray) ++ x4) ++ (⟨#[47]⟩ : ByteArray)) ++ s4).size + (⟨#[47]⟩ : ByteArray).size ≤ 9223372036854775807 ∧
  (((((⟨#[116, 105, 108, 101, 47]⟩ : ByteArray) ++ x4) ++ (⟨#[47]⟩ : ByteArray)) ++ s4) ++ (⟨#[47]⟩ : ByteArray)).size + s6.size ≤ 9223372036854775807 ∧
  drw w3 fun w5 =>
  opnI .i64 (w5.cell? (s1.add 3)) fun x6 =>
  opnI .i64 (w5.cell? (s1.add 0)) fun x7 =>
  C_r10_power #[.int .i64 x7] w5 fun v8 w9 =>
  opnI .i64 (some v8) fun x10 =>
  (opnI .i64 (w9.cell? (s1.add 3)) fun x11 =>
  ((.int .i64 x11) : Value) = .int .i64 x6) ∧
  cond (decide (x6 < x10))
  (((((((⟨#[116, 105, 108, 101, 47]⟩ : ByteArray) ++ x4) ++ (⟨#[47]⟩ : ByteArray)) ++ s4) ++ (⟨#[47]⟩ : ByteArray)) ++ s6).size + (⟨#[46, 112, 47]⟩ : ByteArray).size ≤ 9223372036854775807 ∧
  opnI .i64 (w9.cell? (s1.add 3)) fun x12 =>
  C_r10_digits #[.int .i64 x12] w9 fun v13 w14 =>
  opnS (some v13) fun x15 =>
  (((((((⟨#[116, 105, 108, 101, 47]⟩ : ByteArray) ++ x4) ++ (⟨#[47]⟩ : ByteArray)) ++ s4) ++ (⟨#[47]⟩ : ByteArray)) ++ s6) ++ (⟨#[46, 112, 47]⟩ : ByteArray)).size + x15.size ≤ 9223372036854775807 ∧
  N_r10_Path.j19 Q ((((((((⟨#[116, 105, 108, 101, 47]⟩ : ByteArray) ++ x4) ++ (⟨#[47]⟩ : ByteArray)) ++ s4) ++ (⟨#[47]⟩ : ByteArray)) ++ s6) ++ (⟨#[46, 112, 47]⟩ : ByteArray)) ++ x15) w14)
  (N_r10_Path.j19 Q ((((((⟨#[116, 105, 108, 101, 47]⟩ : ByteArray) ++ x4) ++ (⟨#[47]⟩ : ByteArray)) ++ s4) ++ (⟨#[47]⟩ : ByteArray)) ++ s6) w9))) :
N_r10_Path.j11 Q s1 s4 s5 s6 s7 w := Nd_fold K_r10_Path (by kernel_rfl) h
theorem N_r10_Path.j12_eq (Q : Value → World → Prop) (s1 : Addr) (s4 : ByteArray) (s5 : ByteArray) (s6 : ByteArray) (s7 : Int) (w : World) (h :
  N_r10_Path.j11 Q s1 s4 s5 s6 (IntKind.wrap .i64 (s7 + 3)) w) :
N_r10_Path.j12 Q s1 s4 s5 s6 s7 w := Nd_fold K_r10_Path (by kernel_rfl) h
theorem N_r10_Path.j19_eq (Q : Value → World → Prop) (s5 : ByteArray) (w : World) (h :
  Q (.tuple #[.string s5, .int .i64 0]) w) :
N_r10_Path.j19 Q s5 w := Nd_fold K_r10_Path (by kernel_rfl) h
theorem C_r10_Path_eq (Q : Value → World → Prop) (a0_0 : Int) (a0_1 : Int) (a0_2 : Int) (a0_3 : Int) (a0_4 : Bool) (w : World) (h :
  alC #[.int .i64 a0_0, .int .i64 a0_1, .int .i64 a0_2, .int .i64 a0_3, .bool a0_4] 37 w fun p1 w2 =>
  opnI .i64 (w2.cell? (p1.add 0)) fun x3 =>
  opnI .i64 (w2.cell? (p1.add 1)) fun x4 =>
  opnI .i64 (w2.cell? (p1.add 2)) fun x5 =>
  opnI .i64 (w2.cell? (p1.add 3)) fun x6 =>
  opnB (w2.cell? (p1.add 4)) fun x7 =>
  C_r10_Check #[.agg #[.int .i64 x3, .int .i64 x4, .int .i64 x5, .int .i64 x6, .bool x7]] w2 fun v8 w9 =>
  opnI .i64 (some v8) fun x10 =>
  cond (x10 != 0)
  (Q (.tuple #[.string (⟨#[]⟩ : ByteArray), .int .i64 101]) w9)
  (opnI .i64 (w9.cell? (p1.add 1)) fun x11 =>
  C_r10_digits #[.int .i64 x11] w9 fun v12 w13 =>
  opnS (some v12) fun x14 =>
  opnB (w13.cell? (p1.add 4)) fun x15 =>
  cond x15
  (N_r10_Path.j6 Q p1 (⟨#[100, 97, 116, 97]⟩ : ByteArray) w13)
  (N_r10_Path.j6 Q p1 x14 w13))) :
C_r10_Path #[.agg #[.int .i64 a0_0, .int .i64 a0_1, .int .i64 a0_2, .int .i64 a0_3, .bool a0_4]] w Q := C_fold K_r10_Path (by kernel_rfl) h
/-! ### ledger/ledgerref10.ParsePath -/
noncomputable def B_r10_ParsePath : Code := match Tryd.f34.body with | some c => c | _ => .skip
noncomputable def X_r10_ParsePath : Cx := { P := PP, fn := 34, N := 106, tab := tab, results := [.cell 2 37, .tmp 3], iter := fun _ => (.none, .none), dyn := fun _ => false, live := fun r => cond (Nat.beq r 17) (some [0, 2, 4, 5, 6]) (cond (Nat.beq r 18) (some [0, 2, 4, 5, 6, 7]) (cond (Nat.beq r 19) (some [0, 2, 4, 5, 6, 7, 8]) (cond (Nat.beq r 25) (some [2]) (none)))) }
theorem K_r10_ParsePath : OkF X_r10_ParsePath B_r10_ParsePath Tryd.f34 := ⟨⟨tab_ok, mix_ok⟩, Tryd.func34, by kernel_rfl, by kernel_rfl, by kernel_rfl, by kernel_rfl⟩
noncomputable def N_r10_ParsePath.j17 (Q : Value → World → Prop) (s0 : ByteArray) (s2 : Addr) (s4 : Option Addr) (s4n : Nat) (s4c : Nat) (s5 : Addr) (s6 : Int) (w : World) : Prop := Nd X_r10_ParsePath Q [(0, 0, .string s0), (2, 2, .pointer (some s2)), (4, 4, .slice s4 s4n s4c), (5, 5, .pointer (some s5)), (6, 6, .int .i64 s6)] [.code (B_r10_ParsePath.r.r.r.r.r.r.r.r.r.r.r.r.l), .code (B_r10_ParsePath.r.r.r.r.r.r.r.r.r.r.r.r.r)] w
noncomputable def N_r10_ParsePath.j18 (Q : Value → World → Prop) (s0 : ByteArray) (s2 : Addr) (s4 : Option Addr) (s4n : Nat) (s4c : Nat) (s5 : Addr) (s6 : Int) (s7 : ByteArray) (w : World) : Prop := Nd X_r10_ParsePath Q [(0, 0, .string s0), (2, 2, .pointer (some s2)), (4, 4, .slice s4 s4n s4c), (5, 5, .pointer (some s5)), (6, 6, .int .i64 s6), (7, 7, .string s7)] [.code (B_r10_ParsePath.r.r.r.r.r.r.r.r.r.r.r.r.r.l.l), .code (B_r10_ParsePath.r.r.r.r.r.r.r.r.r.r.r.r.r.l.r), .code (B_r10_ParsePath.r.r.r.r.r.r.r.r.r.r.r.r.r.r)] w
noncomputable def N_r10_ParsePath.j19 (Q : Value → World → Prop) (s0 : ByteArray) (s2 : Addr) (s4 : Option Addr) (s4n : Nat) (s4c : Nat) (s5 : Addr) (s6 : Int) (s7 : ByteArray) (s8 : Int) (w : World) : Prop := Nd X_r10_ParsePath Q [(0, 0, .string s0), (2, 2, .pointer (some s2)), (4, 4, .slice s4 s4n s4c), (5, 5, .pointer (some s5)), (6, 6, .int .i64 s6), (7, 7, .string s7), (8, 8, .int .i64 s8)] [.code (B_r10_ParsePath.r.r.r.r.r.r.r.r.r.r.r.r.r.l.r.l.l.l.l), .code (B_r10_ParsePath.r.r.r.r.r.r.r.r.r.r.r.r.r.l.r.l.l.l.r), .code (B_r10_ParsePath.r.r.r.r.r.r.r.r.r.r.r.r.r.l.r.l.l.r), .inLoop (B_r10_ParsePath.r.r.r.r.r.r.r.r.r.r.r.r.r.l.r.l.l), .inBlock 0, .code (B_r10_ParsePath.r.r.r.r.r.r.r.r.r.r.r.r.r.r)] w
noncomputable def N_r10_ParsePath.j25 (Q : Value → World → Prop) (s2 : Addr) (w : World) : Prop := Nd X_r10_ParsePath Q [(2, 2, .pointer (some s2))] [.code (B_r10_ParsePath.r.r.r.r.r.r.r.r.r.r.r.r.r.r.r.r.l.r.l.l), .code (B_r10_ParsePath.r.r.r.r.r.r.r.r.r.r.r.r.r.r.r.r.l.r.l.r), .code (B_r10_ParsePath.r.r.r.r.r.r.r.r.r.r.r.r.r.r.r.r.r)] w
theorem N_r10_ParsePath.j17_eq (Q : Value → World → Prop) (s0 : ByteArray) (s2 : Addr) (s4 : Option Addr) (s4n : Nat) (s4c : Nat) (s5 : Addr) (s6 : Int) (w : World) (h :
  N_r10_ParsePath.j18 Q s0 s2 s4 s4n s4c s5 s6 (⟨#[]⟩ : ByteArray) w) :
N_r10_ParsePath.j17 Q s0 s2 s4 s4n s4c s5 s6 w := Nd_fold K_r10_ParsePath (by kernel_rfl) h
theorem N_r10_ParsePath.j18_eq (Q : Value → World → Prop) (s0 : ByteArray) (s2 : Addr) (s4 : Option Addr) (s4n : Nat) (s4c : Nat) (s5 : Addr) (s6 : Int) (s7 : ByteArray) (w : World) (h :
  N_r10_ParsePath.j19 Q s0 s2 s4 s4n s4c s5 s6 s7 3 w) :
N_r10_ParsePath.j18 Q s0 s2 s4 s4n s4c s5 s6 s7 w := Nd_fold K_r10_ParsePath (by kernel_rfl) h
theorem N_r10_ParsePath.j19_eq (Q : Value → World → Prop) (s0 : ByteArray) (s2 : Addr) (s4 : Option Addr) (s4n : Nat) (s4c : Nat) (s5 : Addr) (s6 : Int) (s7 : ByteArray) (s8 : Int) (w : World) (h :
  cond (decide (s8 ≤ s6))
  ((0 : Int) ≤ s8 ∧
  s8 < ((s4n : Nat) : Int) ∧
  opnA s4 fun ad1 =>
  opnS (w.cell? (ad1.add (Int.toNat s8 * 1))) fun x2 =>
  s7.size + x2.size ≤ 9223372036854775807 ∧
  N_r10_ParsePath.j19 Q s0 s2 s4 s4n s4c s5 s6 (s7 ++ x2) (IntKind.wrap .i64 (s8 + 1)) w)
  (C_r10_loose #[.string s7] w fun v3 w4 =>
  opnI .i64 (some v3) fun x5 =>
  stC (s5.add 2) (.int .i64 x5) w4 fun w6 =>
  opnI .i64 (w6.cell? (s5.add 0)) fun x7 =>
  opnI .i64 (w6.cell? (s5.add 1)) fun x8 =>
  opnI .i64 (w6.cell? (s5.add 2)) fun x9 =>
  opnI .i64 (w6.cell? (s5.add 3)) fun x10 =>
  opnB (w6.cell? (s5.add 4)) fun x11 =>
  C_r10_Path #[.agg #[.int .i64 x7, .int .i64 x8, .int .i64 x9, .int .i64 x10, .bool x11]] w6 fun v12 w13 =>
  opnT (some v12) fun x14 =>
  x14.size = 2 ∧
  opnS (x14[0]?) fun x15 =>
  opnI .i64 (x14[1]?) fun x16 =>
  cond (x16 != 0)
  (N_r10_ParsePath.j25 Q s2 w13)
  (cond (!(x15.toList == s0.toList))
  (N_r10_ParsePath.j25 Q s2 w13)
  (opnI .i64 (w13.cell? (s5.add 0)) fun x17 =>
  opnI .i64 (w13.cell? (s5.add 1)) fun x18 =>
  opnI .i64 (w13.cell? (s5.add 2)) fun x19 =>
  opnI .i64 (w13.cell? (s5.add 3)) fun x20 =>
  opnB (w13.cell? (s5.add 4)) fun x21 =>
  Array.size (#[.int .i64 x17, .int .i64 x18, .int .i64 x19, .int .i64 x20, .bool x21] : Array Value) = 5 ∧
  stC (s2.add 0) (.int .i64 x17) w13 fun w22 =>
  stC (s2.add 1) (.int .i64 x18) w22 fun w23 =>
  stC (s2.add 2) (.int .i64 x19) w23 fun w24 =>
  stC (s2.add 3) (.int .i64 x20) w24 fun w25 =>
  stC (s2.add 4) (.bool x21) w25 fun w26 =>
  opnI .i64 (w26.cell? (s2.add 0)) fun x27 =>
  opnI .i64 (w26.cell? (s2.add 1)) fun x28 =>
  opnI .i64 (w26.cell? (s2.add 2)) fun x29 =>
  opnI .i64 (w26.cell? (s2.add 3)) fun x30 =>
  opnB (w26.cell? (s2.add 4)) fun x31 =>
  Q (.tuple #[.agg #[.int .i64 x27, .int .i64 x28, .int .i64 x29, .int .i64 x30, .bool x31], .int .i64 0]) w26)))) :
N_r10_ParsePath.j19 Q s0 s2 s4 s4n s4c s5 s6 s7 s8 w := Nd_fold K_r10_ParsePath (by kernel_rfl) h
theorem N_r10_ParsePath.j25_eq (Q : Value → World → Prop) (s2 : Addr) (w : World) (h :
  Array.size (#[.int .i64 0, .int .i64 0, .int .i64 0, .int .i64 0, .bool false] : Array Value) = 5 ∧
  stC (s2.add 0) (.int .i64 0) w fun w1 =>
  stC (s2.add 1) (.int .i64 0) w1 fun w2 =>
  stC (s2.add 2) (.int .i64 0) w2 fun w3 =>
  stC (s2.add 3) (.int .i64 0) w3 fun w4 =>
  stC (s2.add 4) (.bool false) w4 fun w5 =>
  opnI .i64 (w5.cell? (s2.add 0)) fun x6 =>
  opnI .i64 (w5.cell? (s2.add 1)) fun x7 =>
  opnI .i64 (w5.cell? (s2.add 2)) fun x8 =>
  opnI .i64 (w5.cell? (s2.add 3)) fun x9 =>
  opnB (w5.cell? (s2.add 4)) fun x10 =>
  Q (.tuple #[.agg #[.int .i64 x6, .int .i64 x7, .int .i64 x8, .int .i64 x9, .bool x10], .int .i64 100]) w5) :
N_r10_ParsePath.j25 Q s2 w := Nd_fold K_r10_ParsePath (by kernel_rfl) h
theorem C_r10_ParsePath_eq (Q : Value → World → Prop) (a0 : ByteArray) (w : World) (h :
  alC #[.int .i64 0, .int .i64 0, .int .i64 0, .int .i64 0, .bool false] 37 w fun p1 w2 =>
  cond (decide (((a0.size : Nat) : Int) > 100))
  (Array.size (#[.int .i64 0, .int .i64 0, .int .i64 0, .int .i64 0, .bool false] : Array Value) = 5 ∧
  stC (p1.add 0) (.int .i64 0) w2 fun w3 =>
  stC (p1.add 1) (.int .i64 0) w3 fun w4 =>
  stC (p1.add 2) (.int .i64 0) w4 fun w5 =>
  stC (p1.add 3) (.int .i64 0) w5 fun w6 =>
  stC (p1.add 4) (.bool false) w6 fun w7 =>
  opnI .i64 (w7.cell? (p1.add 0)) fun x8 =>
  opnI .i64 (w7.cell? (p1.add 1)) fun x9 =>
  opnI .i64 (w7.cell? (p1.add 2)) fun x10 =>
  opnI .i64 (w7.cell? (p1.add 3)) fun x11 =>
  opnB (w7.cell? (p1.add 4)) fun x12 =>
  Q (.tuple #[.agg #[.int .i64 x8, .int .i64 x9, .int .i64 x10, .int .i64 x11, .bool x12], .int .i64 100]) w7)
  (C_r10_words #[.string a0] w2 fun v13 w14 =>
  opnL (some v13) fun x15 x15n x15c =>
  cond (decide (((x15n : Nat) : Int) < 4))
  (Array.size (#[.int .i64 0, .int .i64 0, .int .i64 0, .int .i64 0, .bool false] : Array Value) = 5 ∧
  stC (p1.add 0) (.int .i64 0) w14 fun w16 =>
  stC (p1.add 1) (.int .i64 0) w16 fun w17 =>
  stC (p1.add 2) (.int .i64 0) w17 fun w18 =>
  stC (p1.add 3) (.int .i64 0) w18 fun w19 =>
  stC (p1.add 4) (.bool false) w19 fun w20 =>
  opnI .i64 (w20.cell? (p1.add 0)) fun x21 =>
  opnI .i64 (w20.cell? (p1.add 1)) fun x22 =>
  opnI .i64 (w20.cell? (p1.add 2)) fun x23 =>
  opnI .i64 (w20.cell? (p1.add 3)) fun x24 =>
  opnB (w20.cell? (p1.add 4)) fun x25 =>
  Q (.tuple #[.agg #[.int .i64 x21, .int .i64 x22, .int .i64 x23, .int .i64 x24, .bool x25], .int .i64 100]) w20)
  (alC #[.int .i64 0, .int .i64 0, .int .i64 0, .int .i64 0, .bool false] 37 w14 fun p26 w27 =>
  (0 : Int) ≤ 1 ∧
  1 < ((x15n : Nat) : Int) ∧
  opnA x15 fun ad28 =>
  opnS (w27.cell? (ad28.add (Int.toNat 1 * 1))) fun x29 =>
  C_r10_loose #[.string x29] w27 fun v30 w31 =>
  opnI .i64 (some v30) fun x32 =>
  stC (p26.add 0) (.int .i64 x32) w31 fun w33 =>
  (0 : Int) ≤ 2 ∧
  2 < ((x15n : Nat) : Int) ∧
  opnA x15 fun ad34 =>
  opnS (w33.cell? (ad34.add (Int.toNat 2 * 1))) fun x35 =>
  C_r10_loose #[.string x35] w33 fun v36 w37 =>
  opnI .i64 (some v36) fun x38 =>
  stC (p26.add 1) (.int .i64 x38) w37 fun w39 =>
  (0 : Int) ≤ 2 ∧
  2 < ((x15n : Nat) : Int) ∧
  opnA x15 fun ad40 =>
  opnS (w39.cell? (ad40.add (Int.toNat 2 * 1))) fun x41 =>
  stC (p26.add 4) (.bool (x41.toList == (⟨#[100, 97, 116, 97]⟩ : ByteArray).toList)) w39 fun w42 =>
  opnI .i64 (w42.cell? (p26.add 0)) fun x43 =>
  cond (decide (x43 > 8))
  (Array.size (#[.int .i64 0, .int .i64 0, .int .i64 0, .int .i64 0, .bool false] : Array Value) = 5 ∧
  stC (p1.add 0) (.int .i64 0) w42 fun w44 =>
  stC (p1.add 1) (.int .i64 0) w44 fun w45 =>
  stC (p1.add 2) (.int .i64 0) w45 fun w46 =>
  stC (p1.add 3) (.int .i64 0) w46 fun w47 =>
  stC (p1.add 4) (.bool false) w47 fun w48 =>
  opnI .i64 (w48.cell? (p1.add 0)) fun x49 =>
  opnI .i64 (w48.cell? (p1.add 1)) fun x50 =>
  opnI .i64 (w48.cell? (p1.add 2)) fun x51 =>
  opnI .i64 (w48.cell? (p1.add 3)) fun x52 =>
  opnB (w48.cell? (p1.add 4)) fun x53 =>
  Q (.tuple #[.agg #[.int .i64 x49, .int .i64 x50, .int .i64 x51, .int .i64 x52, .bool x53], .int .i64 100]) w48)
  (opnI .i64 (w42.cell? (p26.add 0)) fun x54 =>
  C_r10_power #[.int .i64 x54] w42 fun v55 w56 =>
  opnI .i64 (some v55) fun x57 =>
  stC (p26.add 3) (.int .i64 x57) w56 fun w58 =>
  drw w58 fun w59 =>
  (0 : Int) ≤ IntKind.wrap .i64 ((IntKind.wrap .i64 (((x15n : Nat) : Int) - 1)) - 1) ∧
  (IntKind.wrap .i64 ((IntKind.wrap .i64 (((x15n : Nat) : Int) - 1)) - 1)) < ((x15n : Nat) : Int) ∧
  opnA x15 fun ad60 =>
  opnS (w59.cell? (ad60.add (Int.toNat (IntKind.wrap .i64 ((IntKind.wrap .i64 (((x15n : Nat) : Int) - 1)) - 1)) * 1))) fun x61 =>
  cond (decide (((x61.size : Nat) : Int) > 2))
  ((0 : Int) ≤ IntKind.wrap .i64 ((IntKind.wrap .i64 (((x15n : Nat) : Int) - 1)) - 1) ∧
  (IntKind.wrap .i64 ((IntKind.wrap .i64 (((x15n : Nat) : Int) - 1)) - 1)) < ((x15n : Nat) : Int) ∧
  opnA x15 fun ad62 =>
  (0 : Int) ≤ IntKind.wrap .i64 ((IntKind.wrap .i64 (((x15n : Nat) : Int) - 1)) - 1) ∧
  (IntKind.wrap .i64 ((IntKind.wrap .i64 (((x15n : Nat) : Int) - 1)) - 1)) < ((x15n : Nat) : Int) ∧
  opnA x15 fun ad63 =>
  opnS (w59.cell? (ad62.add (Int.toNat (IntKind.wrap .i64 ((IntKind.wrap .i64 (((x15n : Nat) : Int) - 1)) - 1)) * 1))) fun x64 =>
  opnS (w59.cell? (ad63.add (Int.toNat (IntKind.wrap .i64 ((IntKind.wrap .i64 (((x15n : Nat) : Int) - 1)) - 1)) * 1))) fun x65 =>
  (0 : Int) ≤ (IntKind.wrap .i64 (((x65.size : Nat) : Int) - 2)) ∧
  (IntKind.wrap .i64 (((x65.size : Nat) : Int) - 2)) ≤ ((x64.size : Nat) : Int) ∧
  cond ((x64.extract (Int.toNat (IntKind.wrap .i64 (((x65.size : Nat) : Int) - 2))) x64.size).toList == (⟨#[46, 112]⟩ : ByteArray).toList)
  ((0 : Int) ≤ IntKind.wrap .i64 (((x15n : Nat) : Int) - 1) ∧
  (IntKind.wrap .i64 (((x15n : Nat) : Int) - 1)) < ((x15n : Nat) : Int) ∧
  opnA x15 fun ad66 =>
  opnS (w59.cell? (ad66.add (Int.toNat (IntKind.wrap .i64 (((x15n : Nat) : Int) - 1)) * 1))) fun x67 =>
  C_r10_loose #[.string x67] w59 fun v68 w69 =>
  opnI .i64 (some v68) fun x70 =>
  stC (p26.add 3) (.int .i64 x70) w69 fun w71 =>
  N_r10_ParsePath.j17 Q a0 p1 x15 x15n x15c p26 (IntKind.wrap .i64 ((IntKind.wrap .i64 (((x15n : Nat) : Int) - 1)) - 1)) w71)
  (N_r10_ParsePath.j17 Q a0 p1 x15 x15n x15c p26 (IntKind.wrap .i64 (((x15n : Nat) : Int) - 1)) w59))
  (N_r10_ParsePath.j17 Q a0 p1 x15 x15n x15c p26 (IntKind.wrap .i64 (((x15n : Nat) : Int) - 1)) w59))))) :
C_r10_ParsePath #[.string a0] w Q := C_fold K_r10_ParsePath (by kernel_rfl) h
/-! ### ledger/ledgerref10.power -/
noncomputable def B_r10_power : Code := match Tryd.f41.body with | some c => c | _ => .skip
noncomputable def X_r10_power : Cx := { P := PP, fn := 41, N := 6, tab := tab, results := [.tmp 2], iter := fun _ => (.none, .none), dyn := fun _ => false, live := fun _ => none }
theorem K_r10_power : OkF X_r10_power B_r10_power Tryd.f41 := ⟨⟨tab_ok, mix_ok⟩, Tryd.func41, by kernel_rfl, by kernel_rfl, by kernel_rfl, by kernel_rfl⟩
theorem C_r10_power_eq (Q : Value → World → Prop) (a0 : Int) (w : World) (h :
  nn (IntKind.wrap .u64 a0) (
  Q (.int .i64 (shlI .i64 1 (IntKind.wrap .u64 a0))) w)) :
C_r10_power #[.int .i64 a0] w Q := C_fold K_r10_power (by kernel_rfl) h
/-! ### ledger/ledgerref10.digits -/
noncomputable def B_r10_digits : Code := match Tryd.f63.body with | some c => c | _ => .skip
noncomputable def X_r10_digits : Cx := { P := PP, fn := 63, N := 21, tab := tab, results := [.tmp 2], iter := fun _ => (.none, .none), dyn := fun _ => false, live := fun r => cond (Nat.beq r 2) (some [0, 3]) (cond (Nat.beq r 3) (some [0, 3]) (cond (Nat.beq r 4) (some [0, 3]) (none))) }
theorem K_r10_digits : OkF X_r10_digits B_r10_digits Tryd.f63 := ⟨⟨tab_ok, mix_ok⟩, Tryd.func63, by kernel_rfl, by kernel_rfl, by kernel_rfl, by kernel_rfl⟩
noncomputable def N_r10_digits.j2 (Q : Value → World → Prop) (s0 : Int) (s3 : ByteArray) (w : World) : Prop := Nd X_r10_digits Q [(0, 0, .int .i64 s0), (3, 3, .string s3)] [.code (B_r10_digits.r.r.l.l.l.l.l), .code (B_r10_digits.r.r.l.l.l.l.r), .code (B_r10_digits.r.r.l.l.l.r), .inLoop (B_r10_digits.r.r.l.l.l), .inBlock 0, .code (B_r10_digits.r.r.r)] w
noncomputable def N_r10_digits.j3 (Q : Value → World → Prop) (s0 : Int) (s3 : ByteArray) (w : World) : Prop := Nd X_r10_digits Q [(0, 0, .int .i64 s0), (3, 3, .string s3)] [.code (B_r10_digits.r.r.l.l.l.r.l.l), .code (B_r10_digits.r.r.l.l.l.r.l.r), .inBlock 1, .inLoop (B_r10_digits.r.r.l.l.l), .inBlock 0, .code (B_r10_digits.r.r.r)] w
noncomputable def N_r10_digits.j4 (Q : Value → World → Prop) (s0 : Int) (s3 : ByteArray) (w : World) : Prop := Nd X_r10_digits Q [(0, 0, .int .i64 s0), (3, 3, .string s3)] [.code (B_r10_digits.r.r.l.l.l.r.l.r), .inBlock 1, .inLoop (B_r10_digits.r.r.l.l.l), .inBlock 0, .code (B_r10_digits.r.r.r)] w
theorem N_r10_digits.j2_eq (Q : Value → World → Prop) (s0 : Int) (s3 : ByteArray) (w : World) (h :
  cond (decide (s0 > 0))
  (N_r10_digits.j3 Q s0 s3 w)
  (cond (s3.toList == (⟨#[]⟩ : ByteArray).toList)
  (N_r10_digits.j3 Q s0 s3 w)
  (Q (.string s3) w))) :
N_r10_digits.j2 Q s0 s3 w := Nd_fold K_r10_digits (by kernel_rfl) h
theorem N_r10_digits.j3_eq (Q : Value → World → Prop) (s0 : Int) (s3 : ByteArray) (w : World) (h :
  10 ≠ (0 : Int) ∧
  alC #[.int .u8 (IntKind.wrap .u8 (IntKind.wrap .i64 (48 + (Int.tmod s0 10))))] 5 w fun p1 w2 =>
  semR PP (convert 25 9 (.slice (some p1) 1 1)) w2 fun x3 =>
  opnS (some x3) fun x4 =>
  x4.size + s3.size ≤ 9223372036854775807 ∧
  N_r10_digits.j4 Q s0 (x4 ++ s3) w2) :
N_r10_digits.j3 Q s0 s3 w := Nd_fold K_r10_digits (by kernel_rfl) h
theorem N_r10_digits.j4_eq (Q : Value → World → Prop) (s0 : Int) (s3 : ByteArray) (w : World) (h :
  10 ≠ (0 : Int) ∧
  N_r10_digits.j2 Q (IntKind.wrap .i64 (Int.tdiv s0 10)) s3 w) :
N_r10_digits.j4 Q s0 s3 w := Nd_fold K_r10_digits (by kernel_rfl) h
theorem C_r10_digits_eq (Q : Value → World → Prop) (a0 : Int) (w : World) (h :
  N_r10_digits.j2 Q a0 (⟨#[]⟩ : ByteArray) w) :
C_r10_digits #[.int .i64 a0] w Q := C_fold K_r10_digits (by kernel_rfl) h
/-! ### ledger/ledgerref10.words -/
noncomputable def B_r10_words : Code := match Tryd.f65.body with | some c => c | _ => .skip
noncomputable def X_r10_words : Cx := { P := PP, fn := 65, N := 32, tab := tab, results := [.tmp 2], iter := fun _ => (.none, .none), dyn := fun _ => false, live := fun r => cond (Nat.beq r 4) (some [0, 3, 4, 5]) (cond (Nat.beq r 5) (some [0, 3, 4, 5]) (cond (Nat.beq r 7) (some [0, 3, 4, 5]) (cond (Nat.beq r 8) (some [0, 3, 5]) (none)))) }
theorem K_r10_words : OkF X_r10_words B_r10_words Tryd.f65 := ⟨⟨tab_ok, mix_ok⟩, Tryd.func65, by kernel_rfl, by kernel_rfl, by kernel_rfl, by kernel_rfl⟩
noncomputable def N_r10_words.j4 (Q : Value → World → Prop) (s0 : ByteArray) (s3 : Option Addr) (s3n : Nat) (s3c : Nat) (s4 : Int) (s5 : Int) (w : World) : Prop := Nd X_r10_words Q [(0, 0, .string s0), (3, 3, .slice s3 s3n s3c), (4, 4, .int .i64 s4), (5, 5, .int .i64 s5)] [.code (B_r10_words.r.r.r.l.r.l.l.l.l), .code (B_r10_words.r.r.r.l.r.l.l.l.r), .code (B_r10_words.r.r.r.l.r.l.l.r), .inLoop (B_r10_words.r.r.r.l.r.l.l), .inBlock 0, .code (B_r10_words.r.r.r.r)] w
noncomputable def N_r10_words.j5 (Q : Value → World → Prop) (s0 : ByteArray) (s3 : Option Addr) (s3n : Nat) (s3c : Nat) (s4 : Int) (s5 : Int) (w : World) : Prop := Nd X_r10_words Q [(0, 0, .string s0), (3, 3, .slice s3 s3n s3c), (4, 4, .int .i64 s4), (5, 5, .int .i64 s5)] [.code (B_r10_words.r.r.r.l.r.l.l.r.r), .inLoop (B_r10_words.r.r.r.l.r.l.l), .inBlock 0, .code (B_r10_words.r.r.r.r)] w
noncomputable def N_r10_words.j7 (Q : Value → World → Prop) (s0 : ByteArray) (s3 : Option Addr) (s3n : Nat) (s3c : Nat) (s4 : Int) (s5 : Int) (w : World) : Prop := Nd X_r10_words Q [(0, 0, .string s0), (3, 3, .slice s3 s3n s3c), (4, 4, .int .i64 s4), (5, 5, .int .i64 s5)] [.code (B_r10_words.r.r.r.l.r.l.l.r.l.l.r.l.l), .code (B_r10_words.r.r.r.l.r.l.l.r.l.l.r.l.r), .inBlock 1, .code (B_r10_words.r.r.r.l.r.l.l.r.r), .inLoop (B_r10_words.r.r.r.l.r.l.l), .inBlock 0, .code (B_r10_words.r.r.r.r)] w
noncomputable def N_r10_words.j8 (Q : Value → World → Prop) (s0 : ByteArray) (s3 : Option Addr) (s3n : Nat) (s3c : Nat) (s5 : Int) (w : World) : Prop := Nd X_r10_words Q [(0, 0, .string s0), (3, 3, .slice s3 s3n s3c), (5, 5, .int .i64 s5)] [.code (B_r10_words.r.r.r.l.r.l.l.r.l.l.r.l.r), .inBlock 1, .code (B_r10_words.r.r.r.l.r.l.l.r.r), .inLoop (B_r10_words.r.r.r.l.r.l.l), .inBlock 0, .code (B_r10_words.r.r.r.r)] w
theorem N_r10_words.j4_eq (Q : Value → World → Prop) (s0 : ByteArray) (s3 : Option Addr) (s3n : Nat) (s3c : Nat) (s4 : Int) (s5 : Int) (w : World) (h :
  cond (decide (s5 ≤ ((s0.size : Nat) : Int)))
  (cond (s5 == ((s0.size : Nat) : Int))
  (N_r10_words.j7 Q s0 s3 s3n s3c s4 s5 w)
  ((0 : Int) ≤ s5 ∧
  s5 < ((s0.size : Nat) : Int) ∧
  cond ((bt s0 (Int.toNat s5)) == 47)
  (N_r10_words.j7 Q s0 s3 s3n s3c s4 s5 w)
  (N_r10_words.j5 Q s0 s3 s3n s3c s4 s5 w)))
  (Q (.slice s3 s3n s3c) w)) :
N_r10_words.j4 Q s0 s3 s3n s3c s4 s5 w := Nd_fold K_r10_words (by kernel_rfl) h
theorem N_r10_words.j5_eq (Q : Value → World → Prop) (s0 : ByteArray) (s3 : Option Addr) (s3n : Nat) (s3c : Nat) (s4 : Int) (s5 : Int) (w : World) (h :
  N_r10_words.j4 Q s0 s3 s3n s3c s4 (IntKind.wrap .i64 (s5 + 1)) w) :
N_r10_words.j5 Q s0 s3 s3n s3c s4 s5 w := Nd_fold K_r10_words (by kernel_rfl) h
theorem N_r10_words.j7_eq (Q : Value → World → Prop) (s0 : ByteArray) (s3 : Option Addr) (s3n : Nat) (s3c : Nat) (s4 : Int) (s5 : Int) (w : World) (h :
  (0 : Int) ≤ s5 ∧
  s5 ≤ ((s0.size : Nat) : Int) ∧
  (0 : Int) ≤ s4 ∧
  s4 ≤ s5 ∧
  alC #[.string (s0.extract (Int.toNat s4) (Int.toNat s5))] 9 w fun p1 w2 =>
  sem PP (Builtin.append_ #[125, 125] 125 #[.slice s3 s3n s3c, .slice (some p1) 1 1]) w2 fun v3 w4 =>
  opnL (some v3) fun x5 x5n x5c =>
  N_r10_words.j8 Q s0 x5 x5n x5c s5 w4) :
N_r10_words.j7 Q s0 s3 s3n s3c s4 s5 w := Nd_fold K_r10_words (by kernel_rfl) h
theorem N_r10_words.j8_eq (Q : Value → World → Prop) (s0 : ByteArray) (s3 : Option Addr) (s3n : Nat) (s3c : Nat) (s5 : Int) (w : World) (h :
  N_r10_words.j5 Q s0 s3 s3n s3c (IntKind.wrap .i64 (s5 + 1)) s5 w) :
N_r10_words.j8 Q s0 s3 s3n s3c s5 w := Nd_fold K_r10_words (by kernel_rfl) h
theorem C_r10_words_eq (Q : Value → World → Prop) (a0 : ByteArray) (w : World) (h :
  N_r10_words.j4 Q a0 none 0 0 0 0 w) :
C_r10_words #[.string a0] w Q := C_fold K_r10_words (by kernel_rfl) h
/-! ### ledger/ledgerref10.loose -/
noncomputable def B_r10_loose : Code := match Tryd.f66.body with | some c => c | _ => .skip
noncomputable def X_r10_loose : Cx := { P := PP, fn := 66, N := 34, tab := tab, results := [.tmp 2], iter := fun _ => (.none, .none), dyn := fun _ => false, live := fun r => cond (Nat.beq r 3) (some [0, 3, 4]) (cond (Nat.beq r 4) (some [0, 3, 4]) (none)) }
theorem K_r10_loose : OkF X_r10_loose B_r10_loose Tryd.f66 := ⟨⟨tab_ok, mix_ok⟩, Tryd.func66, by kernel_rfl, by kernel_rfl, by kernel_rfl, by kernel_rfl⟩
noncomputable def N_r10_loose.j3 (Q : Value → World → Prop) (s0 : ByteArray) (s3 : Int) (s4 : Int) (w : World) : Prop := Nd X_r10_loose Q [(0, 0, .string s0), (3, 3, .int .i64 s3), (4, 4, .int .i64 s4)] [.code (B_r10_loose.r.r.l.r.l.l.l.l), .code (B_r10_loose.r.r.l.r.l.l.l.r), .code (B_r10_loose.r.r.l.r.l.l.r), .inLoop (B_r10_loose.r.r.l.r.l.l), .inBlock 0, .code (B_r10_loose.r.r.r)] w
noncomputable def N_r10_loose.j4 (Q : Value → World → Prop) (s0 : ByteArray) (s3 : Int) (s4 : Int) (w : World) : Prop := Nd X_r10_loose Q [(0, 0, .string s0), (3, 3, .int .i64 s3), (4, 4, .int .i64 s4)] [.code (B_r10_loose.r.r.l.r.l.l.r.r), .inLoop (B_r10_loose.r.r.l.r.l.l), .inBlock 0, .code (B_r10_loose.r.r.r)] w
theorem N_r10_loose.j3_eq (Q : Value → World → Prop) (s0 : ByteArray) (s3 : Int) (s4 : Int) (w : World) (h :
  cond (decide (s4 < ((s0.size : Nat) : Int)))
  ((0 : Int) ≤ s4 ∧
  s4 < ((s0.size : Nat) : Int) ∧
  cond (decide ((bt s0 (Int.toNat s4)) ≥ 48))
  ((0 : Int) ≤ s4 ∧
  s4 < ((s0.size : Nat) : Int) ∧
  cond (decide ((bt s0 (Int.toNat s4)) ≤ 57))
  (cond (decide (s3 < 1125899906842624))
  ((0 : Int) ≤ s4 ∧
  s4 < ((s0.size : Nat) : Int) ∧
  N_r10_loose.j4 Q s0 (IntKind.wrap .i64 ((IntKind.wrap .i64 (s3 * 10)) + (IntKind.wrap .i64 (IntKind.wrap .u8 ((bt s0 (Int.toNat s4)) - 48))))) s4 w)
  (N_r10_loose.j4 Q s0 s3 s4 w))
  (N_r10_loose.j4 Q s0 s3 s4 w))
  (N_r10_loose.j4 Q s0 s3 s4 w))
  (Q (.int .i64 s3) w)) :
N_r10_loose.j3 Q s0 s3 s4 w := Nd_fold K_r10_loose (by kernel_rfl) h
theorem N_r10_loose.j4_eq (Q : Value → World → Prop) (s0 : ByteArray) (s3 : Int) (s4 : Int) (w : World) (h :
  N_r10_loose.j3 Q s0 s3 (IntKind.wrap .i64 (s4 + 1)) w) :
N_r10_loose.j4 Q s0 s3 s4 w := Nd_fold K_r10_loose (by kernel_rfl) h
theorem C_r10_loose_eq (Q : Value → World → Prop) (a0 : ByteArray) (w : World) (h :
  N_r10_loose.j3 Q a0 0 0 w) :
C_r10_loose #[.string a0] w Q := C_fold K_r10_loose (by kernel_rfl) h
end Go.Proofs.YtccjncflbbhldaaDoor
