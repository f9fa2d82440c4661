/- ShP0, PlSeat, PlWide, ShGj0, ShL16, TreeMem, TreeAdd, TreeRoot, TreeAll, FromTree, Joined, Inside, WidthsPure, ShL17, WidthsLaw, ShL5, ShL7, ShL11, ShL12, ShL13, ShL18, ShaStdOf -/
import Derived.Test.YtccjncflbbhldaaDoorPkA
import Derived.Test.YtccjncflbbhldaaDoorPkE
import Derived.Test.YtccjncflbbhldaaDoorPkB
import Derived.Test.YtccjncflbbhldaaDoorPkD
import Derived.ChangeSame
import Derived.OpenShut
import Derived.WideKeyArgs
import Derived.Below
import Derived.RowKit
import Derived.SizedLaws
import Derived.HandedShaped
import Derived.LaidMore
import Derived.Lay
import Derived.Lib.LaidTab
import Derived.Shelf.Vars
import Derived.ChangeArms
import Derived.Test.YtccjncflbbhldaaDoorRows
/-! ## ShP0 -/
set_option maxRecDepth 100000
namespace Go.Proofs.YtccjncflbbhldaaDoor
open Go.Sh
/-! ### ledger/ledgerlaw10.TilePaths -/
noncomputable def B_l10_TilePaths : Code := match Tryd.f7.body with | some c => c | _ => .skip
noncomputable def X_l10_TilePaths : Cx := { P := PP, fn := 7, N := 58, tab := tab, results := [.tmp 4], iter := fun _ => (.none, .none), dyn := fun _ => false, live := fun r => cond (Nat.beq r 6) (some []) (none) }
theorem K_l10_TilePaths : OkF X_l10_TilePaths B_l10_TilePaths Tryd.f7 := ⟨⟨tab_ok, mix_ok⟩, Tryd.func7, by kernel_rfl, by kernel_rfl, by kernel_rfl, by kernel_rfl⟩
noncomputable def N_l10_TilePaths.j6 (Q : Value → World → Prop) (w : World) : Prop := Nd X_l10_TilePaths Q [] [.code (B_l10_TilePaths.r.r.r.r.l.r.l.l), .code (B_l10_TilePaths.r.r.r.r.l.r.l.r), .code (B_l10_TilePaths.r.r.r.r.r)] w
theorem N_l10_TilePaths.j6_eq (Q : Value → World → Prop) (w : World) (h :
  Q (.bool false) w) :
N_l10_TilePaths.j6 Q w := Nd_fold K_l10_TilePaths (by kernel_rfl) h
theorem C_l10_TilePaths_eq (Q : Value → World → Prop) (a0_0 : Int) (a0_1 : Int) (a0_2 : Int) (a0_3 : Int) (a0_4 : Bool) (a1 : ByteArray) (w : World) (h :
  alC #[.int .i64 a0_0, .int .i64 a0_1, .int .i64 a0_2, .int .i64 a0_3, .bool a0_4] 24 w fun p1 w2 =>
  drw w2 fun w3 =>
  opnI .i64 (w3.cell? (p1.add 0)) fun x4 =>
  opnI .i64 (w3.cell? (p1.add 1)) fun x5 =>
  opnI .i64 (w3.cell? (p1.add 2)) fun x6 =>
  opnI .i64 (w3.cell? (p1.add 3)) fun x7 =>
  opnB (w3.cell? (p1.add 4)) fun x8 =>
  opnI .i64 (w3.cell? (p1.add 0)) fun x9 =>
  opnI .i64 (w3.cell? (p1.add 1)) fun x10 =>
  opnI .i64 (w3.cell? (p1.add 2)) fun x11 =>
  opnI .i64 (w3.cell? (p1.add 3)) fun x12 =>
  opnB (w3.cell? (p1.add 4)) fun x13 =>
  C_tile_Check #[.agg #[.int .i64 x4, .int .i64 x5, .int .i64 x6, .int .i64 x7, .bool x8]] w3 fun v14 w15 =>
  opnI .i64 (some v14) fun x16 =>
  (opnI .i64 (w15.cell? (p1.add 0)) fun x17 =>
  opnI .i64 (w15.cell? (p1.add 1)) fun x18 =>
  opnI .i64 (w15.cell? (p1.add 2)) fun x19 =>
  opnI .i64 (w15.cell? (p1.add 3)) fun x20 =>
  opnB (w15.cell? (p1.add 4)) fun x21 =>
  ((.agg #[.int .i64 x17, .int .i64 x18, .int .i64 x19, .int .i64 x20, .bool x21]) : Value) = .agg #[.int .i64 x9, .int .i64 x10, .int .i64 x11, .int .i64 x12, .bool x13]) ∧
  C_l10_num #[.int .i64 x16] w15 fun v22 w23 =>
  opnI .i64 (some v22) fun x24 =>
  (opnI .i64 (w23.cell? (p1.add 0)) fun x25 =>
  opnI .i64 (w23.cell? (p1.add 1)) fun x26 =>
  opnI .i64 (w23.cell? (p1.add 2)) fun x27 =>
  opnI .i64 (w23.cell? (p1.add 3)) fun x28 =>
  opnB (w23.cell? (p1.add 4)) fun x29 =>
  ((.agg #[.int .i64 x25, .int .i64 x26, .int .i64 x27, .int .i64 x28, .bool x29]) : Value) = .agg #[.int .i64 x9, .int .i64 x10, .int .i64 x11, .int .i64 x12, .bool x13]) ∧
  C_l10_doc #[.agg #[.int .i64 x9, .int .i64 x10, .int .i64 x11, .int .i64 x12, .bool x13]] w23 fun v30 w31 =>
  opnG (some v30) fun x32 =>
  x32.size = 5 ∧
  opnI .i64 (x32[0]?) fun x33 =>
  opnI .i64 (x32[1]?) fun x34 =>
  opnI .i64 (x32[2]?) fun x35 =>
  opnI .i64 (x32[3]?) fun x36 =>
  opnB (x32[4]?) fun x37 =>
  C_r10_Check #[.agg #[.int .i64 x33, .int .i64 x34, .int .i64 x35, .int .i64 x36, .bool x37]] w31 fun v38 w39 =>
  opnI .i64 (some v38) fun x40 =>
  cond (x24 != x40)
  (Q (.bool false) w39)
  (opnI .i64 (w39.cell? (p1.add 0)) fun x41 =>
  opnI .i64 (w39.cell? (p1.add 1)) fun x42 =>
  opnI .i64 (w39.cell? (p1.add 2)) fun x43 =>
  opnI .i64 (w39.cell? (p1.add 3)) fun x44 =>
  opnB (w39.cell? (p1.add 4)) fun x45 =>
  C_tile_Path #[.agg #[.int .i64 x41, .int .i64 x42, .int .i64 x43, .int .i64 x44, .bool x45]] w39 fun v46 w47 =>
  opnT (some v46) fun x48 =>
  x48.size = 2 ∧
  opnS (x48[0]?) fun x49 =>
  opnI .i64 (x48[1]?) fun x50 =>
  opnI .i64 (w47.cell? (p1.add 0)) fun x51 =>
  opnI .i64 (w47.cell? (p1.add 1)) fun x52 =>
  opnI .i64 (w47.cell? (p1.add 2)) fun x53 =>
  opnI .i64 (w47.cell? (p1.add 3)) fun x54 =>
  opnB (w47.cell? (p1.add 4)) fun x55 =>
  C_l10_doc #[.agg #[.int .i64 x51, .int .i64 x52, .int .i64 x53, .int .i64 x54, .bool x55]] w47 fun v56 w57 =>
  opnG (some v56) fun x58 =>
  x58.size = 5 ∧
  opnI .i64 (x58[0]?) fun x59 =>
  opnI .i64 (x58[1]?) fun x60 =>
  opnI .i64 (x58[2]?) fun x61 =>
  opnI .i64 (x58[3]?) fun x62 =>
  opnB (x58[4]?) fun x63 =>
  C_r10_Path #[.agg #[.int .i64 x59, .int .i64 x60, .int .i64 x61, .int .i64 x62, .bool x63]] w57 fun v64 w65 =>
  opnT (some v64) fun x66 =>
  x66.size = 2 ∧
  opnS (x66[0]?) fun x67 =>
  opnI .i64 (x66[1]?) fun x68 =>
  cond (!(x49.toList == x67.toList))
  (N_l10_TilePaths.j6 Q w65)
  (C_l10_num #[.int .i64 x50] w65 fun v69 w70 =>
  opnI .i64 (some v69) fun x71 =>
  cond (x71 != x68)
  (N_l10_TilePaths.j6 Q w70)
  (C_tile_ParsePath #[.string a1] w70 fun v72 w73 =>
  opnT (some v72) fun x74 =>
  x74.size = 2 ∧
  opnG (x74[0]?) fun x75 =>
  x75.size = 5 ∧
  opnI .i64 (x75[0]?) fun x76 =>
  opnI .i64 (x75[1]?) fun x77 =>
  opnI .i64 (x75[2]?) fun x78 =>
  opnI .i64 (x75[3]?) fun x79 =>
  opnB (x75[4]?) fun x80 =>
  opnI .i64 (x74[1]?) fun x81 =>
  alC #[.int .i64 0, .int .i64 0, .int .i64 0, .int .i64 0, .bool false] 24 w73 fun p82 w83 =>
  Array.size (#[.int .i64 x76, .int .i64 x77, .int .i64 x78, .int .i64 x79, .bool x80] : Array Value) = 5 ∧
  stC (p82.add 0) (.int .i64 x76) w83 fun w84 =>
  stC (p82.add 1) (.int .i64 x77) w84 fun w85 =>
  stC (p82.add 2) (.int .i64 x78) w85 fun w86 =>
  stC (p82.add 3) (.int .i64 x79) w86 fun w87 =>
  stC (p82.add 4) (.bool x80) w87 fun w88 =>
  C_r10_ParsePath #[.string a1] w88 fun v89 w90 =>
  opnT (some v89) fun x91 =>
  x91.size = 2 ∧
  opnG (x91[0]?) fun x92 =>
  x92.size = 5 ∧
  opnI .i64 (x92[0]?) fun x93 =>
  opnI .i64 (x92[1]?) fun x94 =>
  opnI .i64 (x92[2]?) fun x95 =>
  opnI .i64 (x92[3]?) fun x96 =>
  opnB (x92[4]?) fun x97 =>
  opnI .i64 (x91[1]?) fun x98 =>
  alC #[.int .i64 0, .int .i64 0, .int .i64 0, .int .i64 0, .bool false] 37 w90 fun p99 w100 =>
  Array.size (#[.int .i64 x93, .int .i64 x94, .int .i64 x95, .int .i64 x96, .bool x97] : Array Value) = 5 ∧
  stC (p99.add 0) (.int .i64 x93) w100 fun w101 =>
  stC (p99.add 1) (.int .i64 x94) w101 fun w102 =>
  stC (p99.add 2) (.int .i64 x95) w102 fun w103 =>
  stC (p99.add 3) (.int .i64 x96) w103 fun w104 =>
  stC (p99.add 4) (.bool x97) w104 fun w105 =>
  drw w105 fun w106 =>
  opnI .i64 (w106.cell? (p82.add 0)) fun x107 =>
  opnI .i64 (w106.cell? (p82.add 1)) fun x108 =>
  opnI .i64 (w106.cell? (p82.add 2)) fun x109 =>
  opnI .i64 (w106.cell? (p82.add 3)) fun x110 =>
  opnB (w106.cell? (p82.add 4)) fun x111 =>
  opnI .i64 (w106.cell? (p99.add 0)) fun x112 =>
  opnI .i64 (w106.cell? (p99.add 1)) fun x113 =>
  opnI .i64 (w106.cell? (p99.add 2)) fun x114 =>
  opnI .i64 (w106.cell? (p99.add 3)) fun x115 =>
  opnB (w106.cell? (p99.add 4)) fun x116 =>
  C_l10_doc #[.agg #[.int .i64 x107, .int .i64 x108, .int .i64 x109, .int .i64 x110, .bool x111]] w106 fun v117 w118 =>
  opnG (some v117) fun x119 =>
  x119.size = 5 ∧
  opnI .i64 (x119[0]?) fun x120 =>
  opnI .i64 (x119[1]?) fun x121 =>
  opnI .i64 (x119[2]?) fun x122 =>
  opnI .i64 (x119[3]?) fun x123 =>
  opnB (x119[4]?) fun x124 =>
  (opnI .i64 (w118.cell? (p99.add 0)) fun x125 =>
  opnI .i64 (w118.cell? (p99.add 1)) fun x126 =>
  opnI .i64 (w118.cell? (p99.add 2)) fun x127 =>
  opnI .i64 (w118.cell? (p99.add 3)) fun x128 =>
  opnB (w118.cell? (p99.add 4)) fun x129 =>
  ((.agg #[.int .i64 x125, .int .i64 x126, .int .i64 x127, .int .i64 x128, .bool x129]) : Value) = .agg #[.int .i64 x112, .int .i64 x113, .int .i64 x114, .int .i64 x115, .bool x116]) ∧
  semR PP (do eqGuard .eql 37 (.tmp 49) (.tmp 50) (.agg #[.int .i64 x120, .int .i64 x121, .int .i64 x122, .int .i64 x123, .bool x124]) (.agg #[.int .i64 x112, .int .i64 x113, .int .i64 x114, .int .i64 x115, .bool x116]); binOp .eql 37 (.agg #[.int .i64 x120, .int .i64 x121, .int .i64 x122, .int .i64 x123, .bool x124]) (.agg #[.int .i64 x112, .int .i64 x113, .int .i64 x114, .int .i64 x115, .bool x116])) w118 fun x130 =>
  opnB (some x130) fun x131 =>
  cond x131
  (C_l10_num #[.int .i64 x81] w118 fun v132 w133 =>
  opnI .i64 (some v132) fun x134 =>
  Q (.bool (x134 == x98)) w133)
  (Q (.bool false) w118))))) :
C_l10_TilePaths #[.agg #[.int .i64 a0_0, .int .i64 a0_1, .int .i64 a0_2, .int .i64 a0_3, .bool a0_4], .string a1] w Q := C_fold K_l10_TilePaths (by kernel_rfl) h
/-! ### ledger/ledgerlaw10.doc -/
noncomputable def B_l10_doc : Code := match Tryd.f12.body with | some c => c | _ => .skip
noncomputable def X_l10_doc : Cx := { P := PP, fn := 12, N := 14, tab := tab, results := [.cell 2 37], iter := fun _ => (.none, .none), dyn := fun _ => false, live := fun _ => none }
theorem K_l10_doc : OkF X_l10_doc B_l10_doc Tryd.f12 := ⟨⟨tab_ok, mix_ok⟩, Tryd.func12, by kernel_rfl, by kernel_rfl, by kernel_rfl, by kernel_rfl⟩
theorem C_l10_doc_eq (Q : Value → World → Prop) (a0_0 : Int) (a0_1 : Int) (a0_2 : Int) (a0_3 : Int) (a0_4 : Bool) (w : World) (h :
  alC #[.int .i64 a0_0, .int .i64 a0_1, .int .i64 a0_2, .int .i64 a0_3, .bool a0_4] 24 w fun p1 w2 =>
  alC #[.int .i64 0, .int .i64 0, .int .i64 0, .int .i64 0, .bool false] 37 w2 fun p3 w4 =>
  opnI .i64 (w4.cell? (p1.add 0)) fun x5 =>
  opnI .i64 (w4.cell? (p1.add 1)) fun x6 =>
  opnI .i64 (w4.cell? (p1.add 2)) fun x7 =>
  opnI .i64 (w4.cell? (p1.add 3)) fun x8 =>
  opnB (w4.cell? (p1.add 4)) fun x9 =>
  Array.size (#[.int .i64 x5, .int .i64 x6, .int .i64 x7, .int .i64 x8, .bool x9] : Array Value) = 5 ∧
  stC (p3.add 0) (.int .i64 x5) w4 fun w10 =>
  stC (p3.add 1) (.int .i64 x6) w10 fun w11 =>
  stC (p3.add 2) (.int .i64 x7) w11 fun w12 =>
  stC (p3.add 3) (.int .i64 x8) w12 fun w13 =>
  stC (p3.add 4) (.bool x9) w13 fun w14 =>
  opnI .i64 (w14.cell? (p3.add 0)) fun x15 =>
  opnI .i64 (w14.cell? (p3.add 1)) fun x16 =>
  opnI .i64 (w14.cell? (p3.add 2)) fun x17 =>
  opnI .i64 (w14.cell? (p3.add 3)) fun x18 =>
  opnB (w14.cell? (p3.add 4)) fun x19 =>
  Q (.agg #[.int .i64 x15, .int .i64 x16, .int .i64 x17, .int .i64 x18, .bool x19]) w14) :
C_l10_doc #[.agg #[.int .i64 a0_0, .int .i64 a0_1, .int .i64 a0_2, .int .i64 a0_3, .bool a0_4]] w Q := C_fold K_l10_doc (by kernel_rfl) h
/-! ### ledger/ledgerref10.Check -/
noncomputable def B_r10_Check : Code := match Tryd.f30.body with | some c => c | _ => .skip
noncomputable def X_r10_Check : Cx := { P := PP, fn := 30, N := 83, tab := tab, results := [.tmp 2], iter := fun _ => (.none, .none), dyn := fun _ => false, live := fun r => cond (Nat.beq r 2) (some []) (cond (Nat.beq r 5) (some []) (cond (Nat.beq r 8) (some []) (none))) }
theorem K_r10_Check : OkF X_r10_Check B_r10_Check Tryd.f30 := ⟨⟨tab_ok, mix_ok⟩, Tryd.func30, by kernel_rfl, by kernel_rfl, by kernel_rfl, by kernel_rfl⟩
noncomputable def N_r10_Check.j2 (Q : Value → World → Prop) (w : World) : Prop := Nd X_r10_Check Q [] [.code (B_r10_Check.r.l.r.l.l), .code (B_r10_Check.r.l.r.l.r), .code (B_r10_Check.r.r)] w
noncomputable def N_r10_Check.j5 (Q : Value → World → Prop) (w : World) : Prop := Nd X_r10_Check Q [] [.code (B_r10_Check.r.r.r.l.r.l.l), .code (B_r10_Check.r.r.r.l.r.l.r), .code (B_r10_Check.r.r.r.r)] w
noncomputable def N_r10_Check.j8 (Q : Value → World → Prop) (w : World) : Prop := Nd X_r10_Check Q [] [.code (B_r10_Check.r.r.r.r.r.l), .code (B_r10_Check.r.r.r.r.r.r)] w
theorem N_r10_Check.j2_eq (Q : Value → World → Prop) (w : World) (h :
  Q (.int .i64 101) w) :
N_r10_Check.j2 Q w := Nd_fold K_r10_Check (by kernel_rfl) h
theorem N_r10_Check.j5_eq (Q : Value → World → Prop) (w : World) (h :
  Q (.int .i64 101) w) :
N_r10_Check.j5 Q w := Nd_fold K_r10_Check (by kernel_rfl) h
theorem N_r10_Check.j8_eq (Q : Value → World → Prop) (w : World) (h :
  Q (.int .i64 0) w) :
N_r10_Check.j8 Q w := Nd_fold K_r10_Check (by kernel_rfl) h
theorem C_r10_Check_eq (Q : Value → World → Prop) (a0_0 : Int) (a0_1 : Int) (a0_2 : Int) (a0_3 : Int) (a0_4 : Bool) (w : World) (h :
  alC #[.int .i64 a0_0, .int .i64 a0_1, .int .i64 a0_2, .int .i64 a0_3, .bool a0_4] 37 w fun p1 w2 =>
  opnI .i64 (w2.cell? (p1.add 0)) fun x3 =>
  cond (decide (x3 < 1))
  (N_r10_Check.j2 Q w2)
  (opnI .i64 (w2.cell? (p1.add 0)) fun x4 =>
  cond (decide (x4 > 8))
  (N_r10_Check.j2 Q w2)
  (opnI .i64 (w2.cell? (p1.add 1)) fun x5 =>
  cond (decide (x5 < 0))
  (N_r10_Check.j2 Q w2)
  (opnI .i64 (w2.cell? (p1.add 1)) fun x6 =>
  cond (decide (x6 > 48))
  (N_r10_Check.j2 Q w2)
  (opnI .i64 (w2.cell? (p1.add 0)) fun x7 =>
  opnI .i64 (w2.cell? (p1.add 1)) fun x8 =>
  cond (decide ((IntKind.wrap .i64 (x7 * x8)) > 48))
  (N_r10_Check.j2 Q w2)
  (opnI .i64 (w2.cell? (p1.add 2)) fun x9 =>
  cond (decide (x9 < 0))
  (N_r10_Check.j2 Q w2)
  (opnI .i64 (w2.cell? (p1.add 3)) fun x10 =>
  cond (decide (x10 < 1))
  (N_r10_Check.j2 Q w2)
  (opnI .i64 (w2.cell? (p1.add 0)) fun x11 =>
  opnI .i64 (w2.cell? (p1.add 1)) fun x12 =>
  C_r10_power #[.int .i64 (IntKind.wrap .i64 (x11 * x12))] w2 fun v13 w14 =>
  opnI .i64 (some v13) fun x15 =>
  x15 ≠ (0 : Int) ∧
  drw w14 fun w16 =>
  opnI .i64 (w16.cell? (p1.add 3)) fun x17 =>
  opnI .i64 (w16.cell? (p1.add 0)) fun x18 =>
  C_r10_power #[.int .i64 x18] w16 fun v19 w20 =>
  opnI .i64 (some v19) fun x21 =>
  (opnI .i64 (w20.cell? (p1.add 3)) fun x22 =>
  ((.int .i64 x22) : Value) = .int .i64 x17) ∧
  cond (decide (x17 > x21))
  (N_r10_Check.j5 Q w20)
  (opnI .i64 (w20.cell? (p1.add 2)) fun x23 =>
  opnI .i64 (w20.cell? (p1.add 0)) fun x24 =>
  C_r10_power #[.int .i64 x24] w20 fun v25 w26 =>
  opnI .i64 (some v25) fun x27 =>
  (opnI .i64 (w26.cell? (p1.add 2)) fun x28 =>
  ((.int .i64 x28) : Value) = .int .i64 x23) ∧
  x27 ≠ (0 : Int) ∧
  cond (decide (x23 > (IntKind.wrap .i64 (Int.tdiv (IntKind.wrap .i64 (Int.tdiv 281474976710656 x15)) x27))))
  (N_r10_Check.j5 Q w26)
  (opnI .i64 (w26.cell? (p1.add 2)) fun x29 =>
  opnI .i64 (w26.cell? (p1.add 0)) fun x30 =>
  opnI .i64 (w26.cell? (p1.add 3)) fun x31 =>
  C_r10_power #[.int .i64 x30] w26 fun v32 w33 =>
  opnI .i64 (some v32) fun x34 =>
  (opnI .i64 (w33.cell? (p1.add 3)) fun x35 =>
  ((.int .i64 x35) : Value) = .int .i64 x31) ∧
  (opnI .i64 (w33.cell? (p1.add 2)) fun x36 =>
  ((.int .i64 x36) : Value) = .int .i64 x29) ∧
  cond (decide ((IntKind.wrap .i64 ((IntKind.wrap .i64 (x29 * x34)) + x31)) > (IntKind.wrap .i64 (Int.tdiv 281474976710656 x15))))
  (N_r10_Check.j5 Q w33)
  (opnB (w33.cell? (p1.add 4)) fun x37 =>
  cond x37
  (opnI .i64 (w33.cell? (p1.add 1)) fun x38 =>
  cond (x38 != 0)
  (Q (.int .i64 101) w33)
  (N_r10_Check.j8 Q w33))
  (N_r10_Check.j8 Q w33)))))))))))) :
C_r10_Check #[.agg #[.int .i64 a0_0, .int .i64 a0_1, .int .i64 a0_2, .int .i64 a0_3, .bool a0_4]] w Q := C_fold K_r10_Check (by kernel_rfl) h
/-! ### ledger/ledgerref10.Path -/
noncomputable def B_r10_Path : Code := match Tryd.f32.body with | some c => c | _ => .skip
noncomputable def X_r10_Path : Cx := { P := PP, fn := 32, N := 75, tab := tab, results := [.tmp 2, .tmp 3], iter := fun _ => (.none, .none), dyn := fun _ => false, live := fun r => cond (Nat.beq r 6) (some [1, 4]) (cond (Nat.beq r 7) (some [1, 4, 5]) (cond (Nat.beq r 11) (some [1, 4, 5, 6, 7]) (cond (Nat.beq r 12) (some [1, 4, 5, 6, 7]) (cond (Nat.beq r 19) (some [5]) (none))))) }
theorem K_r10_Path : OkF X_r10_Path B_r10_Path Tryd.f32 := ⟨⟨tab_ok, mix_ok⟩, Tryd.func32, by kernel_rfl, by kernel_rfl, by kernel_rfl, by kernel_rfl⟩
noncomputable def N_r10_Path.j6 (Q : Value → World → Prop) (s1 : Addr) (s4 : ByteArray) (w : World) : Prop := Nd X_r10_Path Q [(1, 1, .pointer (some s1)), (4, 4, .string s4)] [.code (B_r10_Path.r.r.r.r.l), .code (B_r10_Path.r.r.r.r.r)] w
noncomputable def N_r10_Path.j7 (Q : Value → World → Prop) (s1 : Addr) (s4 : ByteArray) (s5 : ByteArray) (w : World) : Prop := Nd X_r10_Path Q [(1, 1, .pointer (some s1)), (4, 4, .string s4), (5, 5, .string s5)] [.code (B_r10_Path.r.r.r.r.r.l.l.l.l.l), .code (B_r10_Path.r.r.r.r.r.l.l.l.l.r), .code (B_r10_Path.r.r.r.r.r.l.l.l.r), .inLoop (B_r10_Path.r.r.r.r.r.l.l.l), .inBlock 0, .code (B_r10_Path.r.r.r.r.r.r)] w
noncomputable def N_r10_Path.j11 (Q : Value → World → Prop) (s1 : Addr) (s4 : ByteArray) (s5 : ByteArray) (s6 : ByteArray) (s7 : Int) (w : World) : Prop := Nd X_r10_Path Q [(1, 1, .pointer (some s1)), (4, 4, .string s4), (5, 5, .string s5), (6, 6, .string s6), (7, 7, .int .i64 s7)] [.code (B_r10_Path.r.r.r.r.r.r.r.l.r.l.l.l.l), .code (B_r10_Path.r.r.r.r.r.r.r.l.r.l.l.l.r), .code (B_r10_Path.r.r.r.r.r.r.r.l.r.l.l.r), .inLoop (B_r10_Path.r.r.r.r.r.r.r.l.r.l.l), .inBlock 2, .code (B_r10_Path.r.r.r.r.r.r.r.r)] w
noncomputable def N_r10_Path.j12 (Q : Value → World → Prop) (s1 : Addr) (s4 : ByteArray) (s5 : ByteArray) (s6 : ByteArray) (s7 : Int) (w : World) : Prop := Nd X_r10_Path Q [(1, 1, .pointer (some s1)), (4, 4, .string s4), (5, 5, .string s5), (6, 6, .string s6), (7, 7, .int .i64 s7)] [.code (B_r10_Path.r.r.r.r.r.r.r.l.r.l.l.r.r), .inLoop (B_r10_Path.r.r.r.r.r.r.r.l.r.l.l), .inBlock 2, .code (B_r10_Path.r.r.r.r.r.r.r.r)] w
noncomputable def N_r10_Path.j19 (Q : Value → World → Prop) (s5 : ByteArray) (w : World) : Prop := Nd X_r10_Path Q [(5, 5, .string s5)] [.code (B_r10_Path.r.r.r.r.r.r.r.r.r.r.l), .code (B_r10_Path.r.r.r.r.r.r.r.r.r.r.r)] w
theorem N_r10_Path.j6_eq (Q : Value → World → Prop) (s1 : Addr) (s4 : ByteArray) (w : World) (h :
  opnI .i64 (w.cell? (s1.add 2)) fun x1 =>
  C_r10_digits #[.int .i64 x1] w fun v2 w3 =>
  opnS (some v2) fun x4 =>
  N_r10_Path.j7 Q s1 s4 x4 w3) :
N_r10_Path.j6 Q s1 s4 w := Nd_fold K_r10_Path (by kernel_rfl) h
theorem N_r10_Path.j7_eq (Q : Value → World → Prop) (s1 : Addr) (s4 : ByteArray) (s5 : ByteArray) (w : World) (h :
  3 ≠ (0 : Int) ∧
  cond ((Int.tmod ((s5.size : Nat) : Int) 3) != 0)
  ((⟨#[48]⟩ : ByteArray).size + s5.size ≤ 9223372036854775807 ∧
  N_r10_Path.j7 Q s1 s4 ((⟨#[48]⟩ : ByteArray) ++ s5) w)
  (N_r10_Path.j11 Q s1 s4 s5 (⟨#[]⟩ : ByteArray) 0 w)) :
N_r10_Path.j7 Q s1 s4 s5 w := Nd_fold K_r10_Path (by kernel_rfl) h
theorem N_r10_Path.j11_eq (Q : Value → World → Prop) (s1 : Addr) (s4 : ByteArray) (s5 : ByteArray) (s6 : ByteArray) (s7 : Int) (w : World) (h :
  cond (decide (s7 < ((s5.size : Nat) : Int)))
  (cond (decide ((IntKind.wrap .i64 (s7 + 3)) < ((s5.size : Nat) : Int)))
  (s6.size + (⟨#[120]⟩ : ByteArray).size ≤ 9223372036854775807 ∧
  (0 : Int) ≤ (IntKind.wrap .i64 (s7 + 3)) ∧
  (IntKind.wrap .i64 (s7 + 3)) ≤ ((s5.size : Nat) : Int) ∧
  (0 : Int) ≤ s7 ∧
  s7 ≤ (IntKind.wrap .i64 (s7 + 3)) ∧
  (s6 ++ (⟨#[120]⟩ : ByteArray)).size + (s5.extract (Int.toNat s7) (Int.toNat (IntKind.wrap .i64 (s7 + 3)))).size ≤ 9223372036854775807 ∧
  ((s6 ++ (⟨#[120]⟩ : ByteArray)) ++ (s5.extract (Int.toNat s7) (Int.toNat (IntKind.wrap .i64 (s7 + 3))))).size + (⟨#[47]⟩ : ByteArray).size ≤ 9223372036854775807 ∧
  N_r10_Path.j12 Q s1 s4 s5 (((s6 ++ (⟨#[120]⟩ : ByteArray)) ++ (s5.extract (Int.toNat s7) (Int.toNat (IntKind.wrap .i64 (s7 + 3))))) ++ (⟨#[47]⟩ : ByteArray)) s7 w)
  ((0 : Int) ≤ (IntKind.wrap .i64 (s7 + 3)) ∧
  (IntKind.wrap .i64 (s7 + 3)) ≤ ((s5.size : Nat) : Int) ∧
  (0 : Int) ≤ s7 ∧
  s7 ≤ (IntKind.wrap .i64 (s7 + 3)) ∧
  s6.size + (s5.extract (Int.toNat s7) (Int.toNat (IntKind.wrap .i64 (s7 + 3)))).size ≤ 9223372036854775807 ∧
  N_r10_Path.j12 Q s1 s4 s5 (s6 ++ (s5.extract (Int.toNat s7) (Int.toNat (IntKind.wrap .i64 (s7 + 3))))) s7 w))
  (opnI .i64 (w.cell? (s1.add 0)) fun x1 =>
  C_r10_digits #[.int .i64 x1] w fun v2 w3 =>
  opnS (some v2) fun x4 =>
  (⟨#[116, 105, 108, 101, 47]⟩ : ByteArray).size + x4.size ≤ 9223372036854775807 ∧
  ((⟨#[116, 105, 108, 101, 47]⟩ : ByteArray) ++ x4).size + (⟨#[47]⟩ : ByteArray).size ≤ 9223372036854775807 ∧
  (((⟨#[116, 105, 108, 101, 47]⟩ : ByteArray) ++ x4) ++ (⟨#[47]⟩ : ByteArray)).size + s4.size ≤ 9223372036854775807 ∧
  ((((⟨#[116, 105, 108, 101, 47]⟩ : ByteArray) ++ x4) ++ (⟨#[47]⟩ : ByteArray)) ++ s4).size + (⟨#[47]⟩ : ByteArray).size ≤ 9223372036854775807 ∧
  (((((⟨#[116, 105, 108, 101, 47]⟩ : ByteArray) ++ x4) ++ (⟨#[47]⟩ : ByteArray)) ++ s4) ++ (⟨#[47]⟩ : ByteArray)).size + s6.size ≤ 9223372036854775807 ∧
  drw w3 fun w5 =>
  opnI .i64 (w5.cell? (s1.add 3)) fun x6 =>
  opnI .i64 (w5.cell? (s1.add 0)) fun x7 =>
  C_r10_power #[.int .i64 x7] w5 fun v8 w9 =>
  opnI .i64 (some v8) fun x10 =>
  (opnI .i64 (w9.cell? (s1.add 3)) fun x11 =>
  ((.int .i64 x11) : Value) = .int .i64 x6) ∧
  cond (decide (x6 < x10))
  (((((((⟨#[116, 105, 108, 101, 47]⟩ : ByteArray) ++ x4) ++ (⟨#[47]⟩ : ByteArray)) ++ s4) ++ (⟨#[47]⟩ : ByteArray)) ++ s6).size + (⟨#[46, 112, 47]⟩ : ByteArray).size ≤ 9223372036854775807 ∧
  opnI .i64 (w9.cell? (s1.add 3)) fun x12 =>
  C_r10_digits #[.int .i64 x12] w9 fun v13 w14 =>
  opnS (some v13) fun x15 =>
  (((((((⟨#[116, 105, 108, 101, 47]⟩ : ByteArray) ++ x4) ++ (⟨#[47]⟩ : ByteArray)) ++ s4) ++ (⟨#[47]⟩ : ByteArray)) ++ s6) ++ (⟨#[46, 112, 47]⟩ : ByteArray)).size + x15.size ≤ 9223372036854775807 ∧
  N_r10_Path.j19 Q ((((((((⟨#[116, 105, 108, 101, 47]⟩ : ByteArray) ++ x4) ++ (⟨#[47]⟩ : ByteArray)) ++ s4) ++ (⟨#[47]⟩ : ByteArray)) ++ s6) ++ (⟨#[46, 112, 47]⟩ : ByteArray)) ++ x15) w14)
  (N_r10_Path.j19 Q ((((((⟨#[116, 105, 108, 101, 47]⟩ : ByteArray) ++ x4) ++ (⟨#[47]⟩ : ByteArray)) ++ s4) ++ (⟨#[47]⟩ : ByteArray)) ++ s6) w9))) :
N_r10_Path.j11 Q s1 s4 s5 s6 s7 w := Nd_fold K_r10_Path (by kernel_rfl) h
theorem N_r10_Path.j12_eq (Q : Value → World → Prop) (s1 : Addr) (s4 : ByteArray) (s5 : ByteArray) (s6 : ByteArray) (s7 : Int) (w : World) (h :
  N_r10_Path.j11 Q s1 s4 s5 s6 (IntKind.wrap .i64 (s7 + 3)) w) :
N_r10_Path.j12 Q s1 s4 s5 s6 s7 w := Nd_fold K_r10_Path (by kernel_rfl) h
theorem N_r10_Path.j19_eq (Q : Value → World → Prop) (s5 : ByteArray) (w : World) (h :
  Q (.tuple #[.string s5, .int .i64 0]) w) :
N_r10_Path.j19 Q s5 w := Nd_fold K_r10_Path (by kernel_rfl) h
theorem C_r10_Path_eq (Q : Value → World → Prop) (a0_0 : Int) (a0_1 : Int) (a0_2 : Int) (a0_3 : Int) (a0_4 : Bool) (w : World) (h :
  alC #[.int .i64 a0_0, .int .i64 a0_1, .int .i64 a0_2, .int .i64 a0_3, .bool a0_4] 37 w fun p1 w2 =>
  opnI .i64 (w2.cell? (p1.add 0)) fun x3 =>
  opnI .i64 (w2.cell? (p1.add 1)) fun x4 =>
  opnI .i64 (w2.cell? (p1.add 2)) fun x5 =>
  opnI .i64 (w2.cell? (p1.add 3)) fun x6 =>
  opnB (w2.cell? (p1.add 4)) fun x7 =>
  C_r10_Check #[.agg #[.int .i64 x3, .int .i64 x4, .int .i64 x5, .int .i64 x6, .bool x7]] w2 fun v8 w9 =>
  opnI .i64 (some v8) fun x10 =>
  cond (x10 != 0)
  (Q (.tuple #[.string (⟨#[]⟩ : ByteArray), .int .i64 101]) w9)
  (opnI .i64 (w9.cell? (p1.add 1)) fun x11 =>
  C_r10_digits #[.int .i64 x11] w9 fun v12 w13 =>
  opnS (some v12) fun x14 =>
  opnB (w13.cell? (p1.add 4)) fun x15 =>
  cond x15
  (N_r10_Path.j6 Q p1 (⟨#[100, 97, 116, 97]⟩ : ByteArray) w13)
  (N_r10_Path.j6 Q p1 x14 w13))) :
C_r10_Path #[.agg #[.int .i64 a0_0, .int .i64 a0_1, .int .i64 a0_2, .int .i64 a0_3, .bool a0_4]] w Q := C_fold K_r10_Path (by kernel_rfl) h
/-! ### ledger/ledgerref10.ParsePath -/
noncomputable def B_r10_ParsePath : Code := match Tryd.f34.body with | some c => c | _ => .skip
noncomputable def X_r10_ParsePath : Cx := { P := PP, fn := 34, N := 106, tab := tab, results := [.cell 2 37, .tmp 3], iter := fun _ => (.none, .none), dyn := fun _ => false, live := fun r => cond (Nat.beq r 17) (some [0, 2, 4, 5, 6]) (cond (Nat.beq r 18) (some [0, 2, 4, 5, 6, 7]) (cond (Nat.beq r 19) (some [0, 2, 4, 5, 6, 7, 8]) (cond (Nat.beq r 25) (some [2]) (none)))) }
theorem K_r10_ParsePath : OkF X_r10_ParsePath B_r10_ParsePath Tryd.f34 := ⟨⟨tab_ok, mix_ok⟩, Tryd.func34, by kernel_rfl, by kernel_rfl, by kernel_rfl, by kernel_rfl⟩
noncomputable def N_r10_ParsePath.j17 (Q : Value → World → Prop) (s0 : ByteArray) (s2 : Addr) (s4 : Option Addr) (s4n : Nat) (s4c : Nat) (s5 : Addr) (s6 : Int) (w : World) : Prop := Nd X_r10_ParsePath Q [(0, 0, .string s0), (2, 2, .pointer (some s2)), (4, 4, .slice s4 s4n s4c), (5, 5, .pointer (some s5)), (6, 6, .int .i64 s6)] [.code (B_r10_ParsePath.r.r.r.r.r.r.r.r.r.r.r.r.l), .code (B_r10_ParsePath.r.r.r.r.r.r.r.r.r.r.r.r.r)] w
noncomputable def N_r10_ParsePath.j18 (Q : Value → World → Prop) (s0 : ByteArray) (s2 : Addr) (s4 : Option Addr) (s4n : Nat) (s4c : Nat) (s5 : Addr) (s6 : Int) (s7 : ByteArray) (w : World) : Prop := Nd X_r10_ParsePath Q [(0, 0, .string s0), (2, 2, .pointer (some s2)), (4, 4, .slice s4 s4n s4c), (5, 5, .pointer (some s5)), (6, 6, .int .i64 s6), (7, 7, .string s7)] [.code (B_r10_ParsePath.r.r.r.r.r.r.r.r.r.r.r.r.r.l.l), .code (B_r10_ParsePath.r.r.r.r.r.r.r.r.r.r.r.r.r.l.r), .code (B_r10_ParsePath.r.r.r.r.r.r.r.r.r.r.r.r.r.r)] w
noncomputable def N_r10_ParsePath.j19 (Q : Value → World → Prop) (s0 : ByteArray) (s2 : Addr) (s4 : Option Addr) (s4n : Nat) (s4c : Nat) (s5 : Addr) (s6 : Int) (s7 : ByteArray) (s8 : Int) (w : World) : Prop := Nd X_r10_ParsePath Q [(0, 0, .string s0), (2, 2, .pointer (some s2)), (4, 4, .slice s4 s4n s4c), (5, 5, .pointer (some s5)), (6, 6, .int .i64 s6), (7, 7, .string s7), (8, 8, .int .i64 s8)] [.code (B_r10_ParsePath.r.r.r.r.r.r.r.r.r.r.r.r.r.l.r.l.l.l.l), .code (B_r10_ParsePath.r.r.r.r.r.r.r.r.r.r.r.r.r.l.r.l.l.l.r), .code (B_r10_ParsePath.r.r.r.r.r.r.r.r.r.r.r.r.r.l.r.l.l.r), .inLoop (B_r10_ParsePath.r.r.r.r.r.r.r.r.r.r.r.r.r.l.r.l.l), .inBlock 0, .code (B_r10_ParsePath.r.r.r.r.r.r.r.r.r.r.r.r.r.r)] w
noncomputable def N_r10_ParsePath.j25 (Q : Value → World → Prop) (s2 : Addr) (w : World) : Prop := Nd X_r10_ParsePath Q [(2, 2, .pointer (some s2))] [.code (B_r10_ParsePath.r.r.r.r.r.r.r.r.r.r.r.r.r.r.r.r.l.r.l.l), .code (B_r10_ParsePath.r.r.r.r.r.r.r.r.r.r.r.r.r.r.r.r.l.r.l.r), .code (B_r10_ParsePath.r.r.r.r.r.r.r.r.r.r.r.r.r.r.r.r.r)] w
theorem N_r10_ParsePath.j17_eq (Q : Value → World → Prop) (s0 : ByteArray) (s2 : Addr) (s4 : Option Addr) (s4n : Nat) (s4c : Nat) (s5 : Addr) (s6 : Int) (w : World) (h :
  N_r10_ParsePath.j18 Q s0 s2 s4 s4n s4c s5 s6 (⟨#[]⟩ : ByteArray) w) :
N_r10_ParsePath.j17 Q s0 s2 s4 s4n s4c s5 s6 w := Nd_fold K_r10_ParsePath (by kernel_rfl) h
theorem N_r10_ParsePath.j18_eq (Q : Value → World → Prop) (s0 : ByteArray) (s2 : Addr) (s4 : Option Addr) (s4n : Nat) (s4c : Nat) (s5 : Addr) (s6 : Int) (s7 : ByteArray) (w : World) (h :
  N_r10_ParsePath.j19 Q s0 s2 s4 s4n s4c s5 s6 s7 3 w) :
N_r10_ParsePath.j18 Q s0 s2 s4 s4n s4c s5 s6 s7 w := Nd_fold K_r10_ParsePath (by kernel_rfl) h
theorem N_r10_ParsePath.j19_eq (Q : Value → World → Prop) (s0 : ByteArray) (s2 : Addr) (s4 : Option Addr) (s4n : Nat) (s4c : Nat) (s5 : Addr) (s6 : Int) (s7 : ByteArray) (s8 : Int) (w : World) (h :
  cond (decide (s8 ≤ s6))
  ((0 : Int) ≤ s8 ∧
  s8 < ((s4n : Nat) : Int) ∧
  opnA s4 fun ad1 =>
  opnS (w.cell? (ad1.add (Int.toNat s8 * 1))) fun x2 =>
  s7.size + x2.size ≤ 9223372036854775807 ∧
  N_r10_ParsePath.j19 Q s0 s2 s4 s4n s4c s5 s6 (s7 ++ x2) (IntKind.wrap .i64 (s8 + 1)) w)
  (C_r10_loose #[.string s7] w fun v3 w4 =>
  opnI .i64 (some v3) fun x5 =>
  stC (s5.add 2) (.int .i64 x5) w4 fun w6 =>
  opnI .i64 (w6.cell? (s5.add 0)) fun x7 =>
  opnI .i64 (w6.cell? (s5.add 1)) fun x8 =>
  opnI .i64 (w6.cell? (s5.add 2)) fun x9 =>
  opnI .i64 (w6.cell? (s5.add 3)) fun x10 =>
  opnB (w6.cell? (s5.add 4)) fun x11 =>
  C_r10_Path #[.agg #[.int .i64 x7, .int .i64 x8, .int .i64 x9, .int .i64 x10, .bool x11]] w6 fun v12 w13 =>
  opnT (some v12) fun x14 =>
  x14.size = 2 ∧
  opnS (x14[0]?) fun x15 =>
  opnI .i64 (x14[1]?) fun x16 =>
  cond (x16 != 0)
  (N_r10_ParsePath.j25 Q s2 w13)
  (cond (!(x15.toList == s0.toList))
  (N_r10_ParsePath.j25 Q s2 w13)
  (opnI .i64 (w13.cell? (s5.add 0)) fun x17 =>
  opnI .i64 (w13.cell? (s5.add 1)) fun x18 =>
  opnI .i64 (w13.cell? (s5.add 2)) fun x19 =>
  opnI .i64 (w13.cell? (s5.add 3)) fun x20 =>
  opnB (w13.cell? (s5.add 4)) fun x21 =>
  Array.size (#[.int .i64 x17, .int .i64 x18, .int .i64 x19, .int .i64 x20, .bool x21] : Array Value) = 5 ∧
  stC (s2.add 0) (.int .i64 x17) w13 fun w22 =>
  stC (s2.add 1) (.int .i64 x18) w22 fun w23 =>
  stC (s2.add 2) (.int .i64 x19) w23 fun w24 =>
  stC (s2.add 3) (.int .i64 x20) w24 fun w25 =>
  stC (s2.add 4) (.bool x21) w25 fun w26 =>
  opnI .i64 (w26.cell? (s2.add 0)) fun x27 =>
  opnI .i64 (w26.cell? (s2.add 1)) fun x28 =>
  opnI .i64 (w26.cell? (s2.add 2)) fun x29 =>
  opnI .i64 (w26.cell? (s2.add 3)) fun x30 =>
  opnB (w26.cell? (s2.add 4)) fun x31 =>
  Q (.tuple #[.agg #[.int .i64 x27, .int .i64 x28, .int .i64 x29, .int .i64 x30, .bool x31], .int .i64 0]) w26)))) :
N_r10_ParsePath.j19 Q s0 s2 s4 s4n s4c s5 s6 s7 s8 w := Nd_fold K_r10_ParsePath (by kernel_rfl) h
theorem N_r10_ParsePath.j25_eq (Q : Value → World → Prop) (s2 : Addr) (w : World) (h :
  Array.size (#[.int .i64 0, .int .i64 0, .int .i64 0, .int .i64 0, .bool false] : Array Value) = 5 ∧
  stC (s2.add 0) (.int .i64 0) w fun w1 =>
  stC (s2.add 1) (.int .i64 0) w1 fun w2 =>
  stC (s2.add 2) (.int .i64 0) w2 fun w3 =>
  stC (s2.add 3) (.int .i64 0) w3 fun w4 =>
  stC (s2.add 4) (.bool false) w4 fun w5 =>
  opnI .i64 (w5.cell? (s2.add 0)) fun x6 =>
  opnI .i64 (w5.cell? (s2.add 1)) fun x7 =>
  opnI .i64 (w5.cell? (s2.add 2)) fun x8 =>
  opnI .i64 (w5.cell? (s2.add 3)) fun x9 =>
  opnB (w5.cell? (s2.add 4)) fun x10 =>
  Q (.tuple #[.agg #[.int .i64 x6, .int .i64 x7, .int .i64 x8, .int .i64 x9, .bool x10], .int .i64 100]) w5) :
N_r10_ParsePath.j25 Q s2 w := Nd_fold K_r10_ParsePath (by kernel_rfl) h
theorem C_r10_ParsePath_eq (Q : Value → World → Prop) (a0 : ByteArray) (w : World) (h :
  alC #[.int .i64 0, .int .i64 0, .int .i64 0, .int .i64 0, .bool false] 37 w fun p1 w2 =>
  cond (decide (((a0.size : Nat) : Int) > 100))
  (Array.size (#[.int .i64 0, .int .i64 0, .int .i64 0, .int .i64 0, .bool false] : Array Value) = 5 ∧
  stC (p1.add 0) (.int .i64 0) w2 fun w3 =>
  stC (p1.add 1) (.int .i64 0) w3 fun w4 =>
  stC (p1.add 2) (.int .i64 0) w4 fun w5 =>
  stC (p1.add 3) (.int .i64 0) w5 fun w6 =>
  stC (p1.add 4) (.bool false) w6 fun w7 =>
  opnI .i64 (w7.cell? (p1.add 0)) fun x8 =>
  opnI .i64 (w7.cell? (p1.add 1)) fun x9 =>
  opnI .i64 (w7.cell? (p1.add 2)) fun x10 =>
  opnI .i64 (w7.cell? (p1.add 3)) fun x11 =>
  opnB (w7.cell? (p1.add 4)) fun x12 =>
  Q (.tuple #[.agg #[.int .i64 x8, .int .i64 x9, .int .i64 x10, .int .i64 x11, .bool x12], .int .i64 100]) w7)
  (C_r10_words #[.string a0] w2 fun v13 w14 =>
  opnL (some v13) fun x15 x15n x15c =>
  cond (decide (((x15n : Nat) : Int) < 4))
  (Array.size (#[.int .i64 0, .int .i64 0, .int .i64 0, .int .i64 0, .bool false] : Array Value) = 5 ∧
  stC (p1.add 0) (.int .i64 0) w14 fun w16 =>
  stC (p1.add 1) (.int .i64 0) w16 fun w17 =>
  stC (p1.add 2) (.int .i64 0) w17 fun w18 =>
  stC (p1.add 3) (.int .i64 0) w18 fun w19 =>
  stC (p1.add 4) (.bool false) w19 fun w20 =>
  opnI .i64 (w20.cell? (p1.add 0)) fun x21 =>
  opnI .i64 (w20.cell? (p1.add 1)) fun x22 =>
  opnI .i64 (w20.cell? (p1.add 2)) fun x23 =>
  opnI .i64 (w20.cell? (p1.add 3)) fun x24 =>
  opnB (w20.cell? (p1.add 4)) fun x25 =>
  Q (.tuple #[.agg #[.int .i64 x21, .int .i64 x22, .int .i64 x23, .int .i64 x24, .bool x25], .int .i64 100]) w20)
  (alC #[.int .i64 0, .int .i64 0, .int .i64 0, .int .i64 0, .bool false] 37 w14 fun p26 w27 =>
  (0 : Int) ≤ 1 ∧
  1 < ((x15n : Nat) : Int) ∧
  opnA x15 fun ad28 =>
  opnS (w27.cell? (ad28.add (Int.toNat 1 * 1))) fun x29 =>
  C_r10_loose #[.string x29] w27 fun v30 w31 =>
  opnI .i64 (some v30) fun x32 =>
  stC (p26.add 0) (.int .i64 x32) w31 fun w33 =>
  (0 : Int) ≤ 2 ∧
  2 < ((x15n : Nat) : Int) ∧
  opnA x15 fun ad34 =>
  opnS (w33.cell? (ad34.add (Int.toNat 2 * 1))) fun x35 =>
  C_r10_loose #[.string x35] w33 fun v36 w37 =>
  opnI .i64 (some v36) fun x38 =>
  stC (p26.add 1) (.int .i64 x38) w37 fun w39 =>
  (0 : Int) ≤ 2 ∧
  2 < ((x15n : Nat) : Int) ∧
  opnA x15 fun ad40 =>
  opnS (w39.cell? (ad40.add (Int.toNat 2 * 1))) fun x41 =>
  stC (p26.add 4) (.bool (x41.toList == (⟨#[100, 97, 116, 97]⟩ : ByteArray).toList)) w39 fun w42 =>
  opnI .i64 (w42.cell? (p26.add 0)) fun x43 =>
  cond (decide (x43 > 8))
  (Array.size (#[.int .i64 0, .int .i64 0, .int .i64 0, .int .i64 0, .bool false] : Array Value) = 5 ∧
  stC (p1.add 0) (.int .i64 0) w42 fun w44 =>
  stC (p1.add 1) (.int .i64 0) w44 fun w45 =>
  stC (p1.add 2) (.int .i64 0) w45 fun w46 =>
  stC (p1.add 3) (.int .i64 0) w46 fun w47 =>
  stC (p1.add 4) (.bool false) w47 fun w48 =>
  opnI .i64 (w48.cell? (p1.add 0)) fun x49 =>
  opnI .i64 (w48.cell? (p1.add 1)) fun x50 =>
  opnI .i64 (w48.cell? (p1.add 2)) fun x51 =>
  opnI .i64 (w48.cell? (p1.add 3)) fun x52 =>
  opnB (w48.cell? (p1.add 4)) fun x53 =>
  Q (.tuple #[.agg #[.int .i64 x49, .int .i64 x50, .int .i64 x51, .int .i64 x52, .bool x53], .int .i64 100]) w48)
  (opnI .i64 (w42.cell? (p26.add 0)) fun x54 =>
  C_r10_power #[.int .i64 x54] w42 fun v55 w56 =>
  opnI .i64 (some v55) fun x57 =>
  stC (p26.add 3) (.int .i64 x57) w56 fun w58 =>
  drw w58 fun w59 =>
  (0 : Int) ≤ IntKind.wrap .i64 ((IntKind.wrap .i64 (((x15n : Nat) : Int) - 1)) - 1) ∧
  (IntKind.wrap .i64 ((IntKind.wrap .i64 (((x15n : Nat) : Int) - 1)) - 1)) < ((x15n : Nat) : Int) ∧
  opnA x15 fun ad60 =>
  opnS (w59.cell? (ad60.add (Int.toNat (IntKind.wrap .i64 ((IntKind.wrap .i64 (((x15n : Nat) : Int) - 1)) - 1)) * 1))) fun x61 =>
  cond (decide (((x61.size : Nat) : Int) > 2))
  ((0 : Int) ≤ IntKind.wrap .i64 ((IntKind.wrap .i64 (((x15n : Nat) : Int) - 1)) - 1) ∧
  (IntKind.wrap .i64 ((IntKind.wrap .i64 (((x15n : Nat) : Int) - 1)) - 1)) < ((x15n : Nat) : Int) ∧
  opnA x15 fun ad62 =>
  (0 : Int) ≤ IntKind.wrap .i64 ((IntKind.wrap .i64 (((x15n : Nat) : Int) - 1)) - 1) ∧
  (IntKind.wrap .i64 ((IntKind.wrap .i64 (((x15n : Nat) : Int) - 1)) - 1)) < ((x15n : Nat) : Int) ∧
  opnA x15 fun ad63 =>
  opnS (w59.cell? (ad62.add (Int.toNat (IntKind.wrap .i64 ((IntKind.wrap .i64 (((x15n : Nat) : Int) - 1)) - 1)) * 1))) fun x64 =>
  opnS (w59.cell? (ad63.add (Int.toNat (IntKind.wrap .i64 ((IntKind.wrap .i64 (((x15n : Nat) : Int) - 1)) - 1)) * 1))) fun x65 =>
  (0 : Int) ≤ (IntKind.wrap .i64 (((x65.size : Nat) : Int) - 2)) ∧
  (IntKind.wrap .i64 (((x65.size : Nat) : Int) - 2)) ≤ ((x64.size : Nat) : Int) ∧
  cond ((x64.extract (Int.toNat (IntKind.wrap .i64 (((x65.size : Nat) : Int) - 2))) x64.size).toList == (⟨#[46, 112]⟩ : ByteArray).toList)
  ((0 : Int) ≤ IntKind.wrap .i64 (((x15n : Nat) : Int) - 1) ∧
  (IntKind.wrap .i64 (((x15n : Nat) : Int) - 1)) < ((x15n : Nat) : Int) ∧
  opnA x15 fun ad66 =>
  opnS (w59.cell? (ad66.add (Int.toNat (IntKind.wrap .i64 (((x15n : Nat) : Int) - 1)) * 1))) fun x67 =>
  C_r10_loose #[.string x67] w59 fun v68 w69 =>
  opnI .i64 (some v68) fun x70 =>
  stC (p26.add 3) (.int .i64 x70) w69 fun w71 =>
  N_r10_ParsePath.j17 Q a0 p1 x15 x15n x15c p26 (IntKind.wrap .i64 ((IntKind.wrap .i64 (((x15n : Nat) : Int) - 1)) - 1)) w71)
  (N_r10_ParsePath.j17 Q a0 p1 x15 x15n x15c p26 (IntKind.wrap .i64 (((x15n : Nat) : Int) - 1)) w59))
  (N_r10_ParsePath.j17 Q a0 p1 x15 x15n x15c p26 (IntKind.wrap .i64 (((x15n : Nat) : Int) - 1)) w59))))) :
C_r10_ParsePath #[.string a0] w Q := C_fold K_r10_ParsePath (by kernel_rfl) h
/-! ### ledger/ledgerref10.power -/
noncomputable def B_r10_power : Code := match Tryd.f41.body with | some c => c | _ => .skip
noncomputable def X_r10_power : Cx := { P := PP, fn := 41, N := 6, tab := tab, results := [.tmp 2], iter := fun _ => (.none, .none), dyn := fun _ => false, live := fun _ => none }
theorem K_r10_power : OkF X_r10_power B_r10_power Tryd.f41 := ⟨⟨tab_ok, mix_ok⟩, Tryd.func41, by kernel_rfl, by kernel_rfl, by kernel_rfl, by kernel_rfl⟩
theorem C_r10_power_eq (Q : Value → World → Prop) (a0 : Int) (w : World) (h :
  nn (IntKind.wrap .u64 a0) (
  Q (.int .i64 (shlI .i64 1 (IntKind.wrap .u64 a0))) w)) :
C_r10_power #[.int .i64 a0] w Q := C_fold K_r10_power (by kernel_rfl) h
/-! ### ledger/ledgerref10.digits -/
noncomputable def B_r10_digits : Code := match Tryd.f63.body with | some c => c | _ => .skip
noncomputable def X_r10_digits : Cx := { P := PP, fn := 63, N := 21, tab := tab, results := [.tmp 2], iter := fun _ => (.none, .none), dyn := fun _ => false, live := fun r => cond (Nat.beq r 2) (some [0, 3]) (cond (Nat.beq r 3) (some [0, 3]) (cond (Nat.beq r 4) (some [0, 3]) (none))) }
theorem K_r10_digits : OkF X_r10_digits B_r10_digits Tryd.f63 := ⟨⟨tab_ok, mix_ok⟩, Tryd.func63, by kernel_rfl, by kernel_rfl, by kernel_rfl, by kernel_rfl⟩
noncomputable def N_r10_digits.j2 (Q : Value → World → Prop) (s0 : Int) (s3 : ByteArray) (w : World) : Prop := Nd X_r10_digits Q [(0, 0, .int .i64 s0), (3, 3, .string s3)] [.code (B_r10_digits.r.r.l.l.l.l.l), .code (B_r10_digits.r.r.l.l.l.l.r), .code (B_r10_digits.r.r.l.l.l.r), .inLoop (B_r10_digits.r.r.l.l.l), .inBlock 0, .code (B_r10_digits.r.r.r)] w
noncomputable def N_r10_digits.j3 (Q : Value → World → Prop) (s0 : Int) (s3 : ByteArray) (w : World) : Prop := Nd X_r10_digits Q [(0, 0, .int .i64 s0), (3, 3, .string s3)] [.code (B_r10_digits.r.r.l.l.l.r.l.l), .code (B_r10_digits.r.r.l.l.l.r.l.r), .inBlock 1, .inLoop (B_r10_digits.r.r.l.l.l), .inBlock 0, .code (B_r10_digits.r.r.r)] w
noncomputable def N_r10_digits.j4 (Q : Value → World → Prop) (s0 : Int) (s3 : ByteArray) (w : World) : Prop := Nd X_r10_digits Q [(0, 0, .int .i64 s0), (3, 3, .string s3)] [.code (B_r10_digits.r.r.l.l.l.r.l.r), .inBlock 1, .inLoop (B_r10_digits.r.r.l.l.l), .inBlock 0, .code (B_r10_digits.r.r.r)] w
theorem N_r10_digits.j2_eq (Q : Value → World → Prop) (s0 : Int) (s3 : ByteArray) (w : World) (h :
  cond (decide (s0 > 0))
  (N_r10_digits.j3 Q s0 s3 w)
  (cond (s3.toList == (⟨#[]⟩ : ByteArray).toList)
  (N_r10_digits.j3 Q s0 s3 w)
  (Q (.string s3) w))) :
N_r10_digits.j2 Q s0 s3 w := Nd_fold K_r10_digits (by kernel_rfl) h
theorem N_r10_digits.j3_eq (Q : Value → World → Prop) (s0 : Int) (s3 : ByteArray) (w : World) (h :
  10 ≠ (0 : Int) ∧
  alC #[.int .u8 (IntKind.wrap .u8 (IntKind.wrap .i64 (48 + (Int.tmod s0 10))))] 5 w fun p1 w2 =>
  semR PP (convert 25 9 (.slice (some p1) 1 1)) w2 fun x3 =>
  opnS (some x3) fun x4 =>
  x4.size + s3.size ≤ 9223372036854775807 ∧
  N_r10_digits.j4 Q s0 (x4 ++ s3) w2) :
N_r10_digits.j3 Q s0 s3 w := Nd_fold K_r10_digits (by kernel_rfl) h
theorem N_r10_digits.j4_eq (Q : Value → World → Prop) (s0 : Int) (s3 : ByteArray) (w : World) (h :
  10 ≠ (0 : Int) ∧
  N_r10_digits.j2 Q (IntKind.wrap .i64 (Int.tdiv s0 10)) s3 w) :
N_r10_digits.j4 Q s0 s3 w := Nd_fold K_r10_digits (by kernel_rfl) h
theorem C_r10_digits_eq (Q : Value → World → Prop) (a0 : Int) (w : World) (h :
  N_r10_digits.j2 Q a0 (⟨#[]⟩ : ByteArray) w) :
C_r10_digits #[.int .i64 a0] w Q := C_fold K_r10_digits (by kernel_rfl) h
/-! ### ledger/ledgerref10.words -/
noncomputable def B_r10_words : Code := match Tryd.f65.body with | some c => c | _ => .skip
noncomputable def X_r10_words : Cx := { P := PP, fn := 65, N := 32, tab := tab, results := [.tmp 2], iter := fun _ => (.none, .none), dyn := fun _ => false, live := fun r => cond (Nat.beq r 4) (some [0, 3, 4, 5]) (cond (Nat.beq r 5) (some [0, 3, 4, 5]) (cond (Nat.beq r 7) (some [0, 3, 4, 5]) (cond (Nat.beq r 8) (some [0, 3, 5]) (none)))) }
theorem K_r10_words : OkF X_r10_words B_r10_words Tryd.f65 := ⟨⟨tab_ok, mix_ok⟩, Tryd.func65, by kernel_rfl, by kernel_rfl, by kernel_rfl, by kernel_rfl⟩
noncomputable def N_r10_words.j4 (Q : Value → World → Prop) (s0 : ByteArray) (s3 : Option Addr) (s3n : Nat) (s3c : Nat) (s4 : Int) (s5 : Int) (w : World) : Prop := Nd X_r10_words Q [(0, 0, .string s0), (3, 3, .slice s3 s3n s3c), (4, 4, .int .i64 s4), (5, 5, .int .i64 s5)] [.code (B_r10_words.r.r.r.l.r.l.l.l.l), .code (B_r10_words.r.r.r.l.r.l.l.l.r), .code (B_r10_words.r.r.r.l.r.l.l.r), .inLoop (B_r10_words.r.r.r.l.r.l.l), .inBlock 0, .code (B_r10_words.r.r.r.r)] w
noncomputable def N_r10_words.j5 (Q : Value → World → Prop) (s0 : ByteArray) (s3 : Option Addr) (s3n : Nat) (s3c : Nat) (s4 : Int) (s5 : Int) (w : World) : Prop := Nd X_r10_words Q [(0, 0, .string s0), (3, 3, .slice s3 s3n s3c), (4, 4, .int .i64 s4), (5, 5, .int .i64 s5)] [.code (B_r10_words.r.r.r.l.r.l.l.r.r), .inLoop (B_r10_words.r.r.r.l.r.l.l), .inBlock 0, .code (B_r10_words.r.r.r.r)] w
noncomputable def N_r10_words.j7 (Q : Value → World → Prop) (s0 : ByteArray) (s3 : Option Addr) (s3n : Nat) (s3c : Nat) (s4 : Int) (s5 : Int) (w : World) : Prop := Nd X_r10_words Q [(0, 0, .string s0), (3, 3, .slice s3 s3n s3c), (4, 4, .int .i64 s4), (5, 5, .int .i64 s5)] [.code (B_r10_words.r.r.r.l.r.l.l.r.l.l.r.l.l), .code (B_r10_words.r.r.r.l.r.l.l.r.l.l.r.l.r), .inBlock 1, .code (B_r10_words.r.r.r.l.r.l.l.r.r), .inLoop (B_r10_words.r.r.r.l.r.l.l), .inBlock 0, .code (B_r10_words.r.r.r.r)] w
noncomputable def N_r10_words.j8 (Q : Value → World → Prop) (s0 : ByteArray) (s3 : Option Addr) (s3n : Nat) (s3c : Nat) (s5 : Int) (w : World) : Prop := Nd X_r10_words Q [(0, 0, .string s0), (3, 3, .slice s3 s3n s3c), (5, 5, .int .i64 s5)] [.code (B_r10_words.r.r.r.l.r.l.l.r.l.l.r.l.r), .inBlock 1, .code (B_r10_words.r.r.r.l.r.l.l.r.r), .inLoop (B_r10_words.r.r.r.l.r.l.l), .inBlock 0, .code (B_r10_words.r.r.r.r)] w
theorem N_r10_words.j4_eq (Q : Value → World → Prop) (s0 : ByteArray) (s3 : Option Addr) (s3n : Nat) (s3c : Nat) (s4 : Int) (s5 : Int) (w : World) (h :
  cond (decide (s5 ≤ ((s0.size : Nat) : Int)))
  (cond (s5 == ((s0.size : Nat) : Int))
  (N_r10_words.j7 Q s0 s3 s3n s3c s4 s5 w)
  ((0 : Int) ≤ s5 ∧
  s5 < ((s0.size : Nat) : Int) ∧
  cond ((bt s0 (Int.toNat s5)) == 47)
  (N_r10_words.j7 Q s0 s3 s3n s3c s4 s5 w)
  (N_r10_words.j5 Q s0 s3 s3n s3c s4 s5 w)))
  (Q (.slice s3 s3n s3c) w)) :
N_r10_words.j4 Q s0 s3 s3n s3c s4 s5 w := Nd_fold K_r10_words (by kernel_rfl) h
theorem N_r10_words.j5_eq (Q : Value → World → Prop) (s0 : ByteArray) (s3 : Option Addr) (s3n : Nat) (s3c : Nat) (s4 : Int) (s5 : Int) (w : World) (h :
  N_r10_words.j4 Q s0 s3 s3n s3c s4 (IntKind.wrap .i64 (s5 + 1)) w) :
N_r10_words.j5 Q s0 s3 s3n s3c s4 s5 w := Nd_fold K_r10_words (by kernel_rfl) h
theorem N_r10_words.j7_eq (Q : Value → World → Prop) (s0 : ByteArray) (s3 : Option Addr) (s3n : Nat) (s3c : Nat) (s4 : Int) (s5 : Int) (w : World) (h :
  (0 : Int) ≤ s5 ∧
  s5 ≤ ((s0.size : Nat) : Int) ∧
  (0 : Int) ≤ s4 ∧
  s4 ≤ s5 ∧
  alC #[.string (s0.extract (Int.toNat s4) (Int.toNat s5))] 9 w fun p1 w2 =>
  sem PP (Builtin.append_ #[125, 125] 125 #[.slice s3 s3n s3c, .slice (some p1) 1 1]) w2 fun v3 w4 =>
  opnL (some v3) fun x5 x5n x5c =>
  N_r10_words.j8 Q s0 x5 x5n x5c s5 w4) :
N_r10_words.j7 Q s0 s3 s3n s3c s4 s5 w := Nd_fold K_r10_words (by kernel_rfl) h
theorem N_r10_words.j8_eq (Q : Value → World → Prop) (s0 : ByteArray) (s3 : Option Addr) (s3n : Nat) (s3c : Nat) (s5 : Int) (w : World) (h :
  N_r10_words.j5 Q s0 s3 s3n s3c (IntKind.wrap .i64 (s5 + 1)) s5 w) :
N_r10_words.j8 Q s0 s3 s3n s3c s5 w := Nd_fold K_r10_words (by kernel_rfl) h
theorem C_r10_words_eq (Q : Value → World → Prop) (a0 : ByteArray) (w : World) (h :
  N_r10_words.j4 Q a0 none 0 0 0 0 w) :
C_r10_words #[.string a0] w Q := C_fold K_r10_words (by kernel_rfl) h
/-! ### ledger/ledgerref10.loose -/
noncomputable def B_r10_loose : Code := match Tryd.f66.body with | some c => c | _ => .skip
noncomputable def X_r10_loose : Cx := { P := PP, fn := 66, N := 34, tab := tab, results := [.tmp 2], iter := fun _ => (.none, .none), dyn := fun _ => false, live := fun r => cond (Nat.beq r 3) (some [0, 3, 4]) (cond (Nat.beq r 4) (some [0, 3, 4]) (none)) }
theorem K_r10_loose : OkF X_r10_loose B_r10_loose Tryd.f66 := ⟨⟨tab_ok, mix_ok⟩, Tryd.func66, by kernel_rfl, by kernel_rfl, by kernel_rfl, by kernel_rfl⟩
noncomputable def N_r10_loose.j3 (Q : Value → World → Prop) (s0 : ByteArray) (s3 : Int) (s4 : Int) (w : World) : Prop := Nd X_r10_loose Q [(0, 0, .string s0), (3, 3, .int .i64 s3), (4, 4, .int .i64 s4)] [.code (B_r10_loose.r.r.l.r.l.l.l.l), .code (B_r10_loose.r.r.l.r.l.l.l.r), .code (B_r10_loose.r.r.l.r.l.l.r), .inLoop (B_r10_loose.r.r.l.r.l.l), .inBlock 0, .code (B_r10_loose.r.r.r)] w
noncomputable def N_r10_loose.j4 (Q : Value → World → Prop) (s0 : ByteArray) (s3 : Int) (s4 : Int) (w : World) : Prop := Nd X_r10_loose Q [(0, 0, .string s0), (3, 3, .int .i64 s3), (4, 4, .int .i64 s4)] [.code (B_r10_loose.r.r.l.r.l.l.r.r), .inLoop (B_r10_loose.r.r.l.r.l.l), .inBlock 0, .code (B_r10_loose.r.r.r)] w
theorem N_r10_loose.j3_eq (Q : Value → World → Prop) (s0 : ByteArray) (s3 : Int) (s4 : Int) (w : World) (h :
  cond (decide (s4 < ((s0.size : Nat) : Int)))
  ((0 : Int) ≤ s4 ∧
  s4 < ((s0.size : Nat) : Int) ∧
  cond (decide ((bt s0 (Int.toNat s4)) ≥ 48))
  ((0 : Int) ≤ s4 ∧
  s4 < ((s0.size : Nat) : Int) ∧
  cond (decide ((bt s0 (Int.toNat s4)) ≤ 57))
  (cond (decide (s3 < 1125899906842624))
  ((0 : Int) ≤ s4 ∧
  s4 < ((s0.size : Nat) : Int) ∧
  N_r10_loose.j4 Q s0 (IntKind.wrap .i64 ((IntKind.wrap .i64 (s3 * 10)) + (IntKind.wrap .i64 (IntKind.wrap .u8 ((bt s0 (Int.toNat s4)) - 48))))) s4 w)
  (N_r10_loose.j4 Q s0 s3 s4 w))
  (N_r10_loose.j4 Q s0 s3 s4 w))
  (N_r10_loose.j4 Q s0 s3 s4 w))
  (Q (.int .i64 s3) w)) :
N_r10_loose.j3 Q s0 s3 s4 w := Nd_fold K_r10_loose (by kernel_rfl) h
theorem N_r10_loose.j4_eq (Q : Value → World → Prop) (s0 : ByteArray) (s3 : Int) (s4 : Int) (w : World) (h :
  N_r10_loose.j3 Q s0 s3 (IntKind.wrap .i64 (s4 + 1)) w) :
N_r10_loose.j4 Q s0 s3 s4 w := Nd_fold K_r10_loose (by kernel_rfl) h
theorem C_r10_loose_eq (Q : Value → World → Prop) (a0 : ByteArray) (w : World) (h :
  N_r10_loose.j3 Q a0 0 0 w) :
C_r10_loose #[.string a0] w Q := C_fold K_r10_loose (by kernel_rfl) h
end Go.Proofs.YtccjncflbbhldaaDoor
/-! ## PlSeat -/
set_option maxRecDepth 10000
namespace Go.Proofs.YtccjncflbbhldaaDoor.Pl
open Go.Sh

/-! ### tiles as values and in boxes -/
theorem tv_one (t : Tl) : ([Value.int .i64 t.H, .int .i64 t.L, .int .i64 t.N, .int .i64 t.W, .bool t.D] : List Value).all Value.oneCell' = true := rfl
section
variable {w : World} {b T : Nat}
theorem rd_tile {t : Tl} (h : Blk w b T (tv t)) {K : Int → Int → Int → Int → Bool → Prop} (hK : K t.H t.L t.N t.W t.D) :
    opnI .i64 (w.cell? ((⟨b, 0, none⟩ : Addr).add 0)) fun x0 => opnI .i64 (w.cell? ((⟨b, 0, none⟩ : Addr).add 1)) fun x1 => opnI .i64 (w.cell? ((⟨b, 0, none⟩ : Addr).add 2)) fun x2 => opnI .i64 (w.cell? ((⟨b, 0, none⟩ : Addr).add 3)) fun x3 => opnB (w.cell? ((⟨b, 0, none⟩ : Addr).add 4)) fun x4 => K x0 x1 x2 x3 x4 := by
  rw [h.rd 0 rfl, h.rd 1 rfl, h.rd 2 rfl, h.rd 3 rfl, h.rd 4 rfl]
  exact ⟨rfl, ⟨rfl, ⟨rfl, ⟨rfl, hK⟩⟩⟩⟩
theorem rd_tile2 {t : Tl} {l : List Value} (h : Blk w b T l) (hl : l.take 5 = tv t) {K : Int → Int → Int → Int → Bool → Prop} (hK : K t.H t.L t.N t.W t.D) :
    opnI .i64 (w.cell? (((⟨b, 0, none⟩ : Addr).add 0).add 0)) fun x0 => opnI .i64 (w.cell? (((⟨b, 0, none⟩ : Addr).add 0).add 1)) fun x1 => opnI .i64 (w.cell? (((⟨b, 0, none⟩ : Addr).add 0).add 2)) fun x2 => opnI .i64 (w.cell? (((⟨b, 0, none⟩ : Addr).add 0).add 3)) fun x3 => opnB (w.cell? (((⟨b, 0, none⟩ : Addr).add 0).add 4)) fun x4 => K x0 x1 x2 x3 x4 := by
  have g : ∀ j v, (tv t)[j]? = some v → j < 5 → l[0 + j]? = some v := fun j v hv hj => by rw [← hl, List.getElem?_take, if_pos hj] at hv; rw [Nat.zero_add]; exact hv
  rw [h.rd2 0 0 (g 0 _ rfl (by decide)), h.rd2 0 1 (g 1 _ rfl (by decide)), h.rd2 0 2 (g 2 _ rfl (by decide)), h.rd2 0 3 (g 3 _ rfl (by decide)), h.rd2 0 4 (g 4 _ rfl (by decide))]
  exact ⟨rfl, ⟨rfl, ⟨rfl, ⟨rfl, hK⟩⟩⟩⟩
theorem opn_tile {t : Tl} {K : Int → Int → Int → Int → Bool → Prop} (hK : K t.H t.L t.N t.W t.D) :
    opnG (some (tg t)) fun x => x.size = 5 ∧ opnI .i64 (x[0]?) fun x0 => opnI .i64 (x[1]?) fun x1 => opnI .i64 (x[2]?) fun x2 => opnI .i64 (x[3]?) fun x3 => opnB (x[4]?) fun x4 => K x0 x1 x2 x3 x4 := ⟨rfl, ⟨rfl, ⟨rfl, ⟨rfl, ⟨rfl, hK⟩⟩⟩⟩⟩
theorem set_tile {t : Tl} {old : List Value} (h : Blk w b T old) (hl : old.length = 5) {K : World → Prop} (hK : ∀ w', Blk w' b T (tv t) → Chg (fun k => k = b) w w' → K w') :
    Array.size (#[.int .i64 t.H, .int .i64 t.L, .int .i64 t.N, .int .i64 t.W, .bool t.D] : Array Value) = 5 ∧ stC ((⟨b, 0, none⟩ : Addr).add 0) (.int .i64 t.H) w fun w1 => stC ((⟨b, 0, none⟩ : Addr).add 1) (.int .i64 t.L) w1 fun w2 => stC ((⟨b, 0, none⟩ : Addr).add 2) (.int .i64 t.N) w2 fun w3 => stC ((⟨b, 0, none⟩ : Addr).add 3) (.int .i64 t.W) w3 fun w4 => stC ((⟨b, 0, none⟩ : Addr).add 4) (.bool t.D) w4 fun w5 => K w5 :=
  ⟨rfl, box5 h hl (tv_one t) hK⟩
theorem mk_tile {t : Tl} {z0 z1 z2 z3 z4 : Value} {K : Addr → World → Prop} (hK : ∀ b w', Blk w' b T (tv t) → Chg None w w' → w.heap.size ≤ b → K ⟨b, 0, none⟩ w') :
    alC #[z0, z1, z2, z3, z4] T w fun p w0 => Array.size (#[.int .i64 t.H, .int .i64 t.L, .int .i64 t.N, .int .i64 t.W, .bool t.D] : Array Value) = 5 ∧ stC (p.add 0) (.int .i64 t.H) w0 fun w1 => stC (p.add 1) (.int .i64 t.L) w1 fun w2 => stC (p.add 2) (.int .i64 t.N) w2 fun w3 => stC (p.add 3) (.int .i64 t.W) w3 fun w4 => stC (p.add 4) (.bool t.D) w4 fun w5 => K p w5 :=
  mkbox5 (tv_one t) hK
theorem arg_tile {t : Tl} {K : Addr → World → Prop} (hK : ∀ b w', Blk w' b T (tv t) → Chg None w w' → w.heap.size ≤ b → K ⟨b, 0, none⟩ w') : alC #[.int .i64 t.H, .int .i64 t.L, .int .i64 t.N, .int .i64 t.W, .bool t.D] T w K := alC_box hK
end
/-! ### the tile of a place -/
noncomputable def foldOf (h c : Nat) : Nat := levOf c % h
noncomputable def atOf (h c : Nat) : Nat := nodOf c * 2 ^ foldOf h c
noncomputable def firstOf (h c : Nat) : Nat := atOf h c % 2 ^ h
noncomputable def tlOf (h c : Nat) : Tl := ⟨h, (levOf c / h : Nat), (atOf h c / 2 ^ h : Nat), (firstOf h c + 2 ^ foldOf h c : Nat), false⟩
theorem fold_lt {h c : Nat} (h1 : 1 ≤ h) : foldOf h c < h := Nat.mod_lt _ (by omega)
theorem at_le {h c : Nat} (hc : c < 562949953421311) : atOf h c ≤ 281474976710656 := by
  have h1 := nod_lt hc
  have h2 : 2 ^ foldOf h c ≤ 2 ^ levOf c := Nat.pow_le_pow_right (by decide) (Nat.mod_le _ _)
  have h3 : nodOf c * 2 ^ foldOf h c ≤ nodOf c * 2 ^ levOf c := Nat.mul_le_mul_left _ h2
  rw [Nat.add_mul] at h1
  unfold atOf; omega
theorem mask_mod (x h : Nat) (hx : x < 9223372036854775808) (h8 : h ≤ 8) : bits .and .i64 (x : Int) (IntKind.wrap .i64 (((2 ^ h : Nat) : Int) - 1)) = ((x % 2 ^ h : Nat) : Int) := by
  have hp := pow_le h h8
  have hp0 := pow_pos2 h
  rw [wrap_id (by omega) (by omega), show ((2 ^ h : Nat) : Int) - 1 = ((2 ^ h - 1 : Nat) : Int) by omega, i64_and x (2 ^ h - 1) hx (by omega), Nat.and_two_pow_sub_one_eq_mod]

theorem seat_word {Q : Value → World → Prop} {h : Nat} {c : Int} {w0 : World} (h1 : 1 ≤ h) (h8 : h ≤ 8)
    (hok : ∀ c' : Nat, c = c' → c' < 562949953421311 → ∀ w', Chg None w0 w' → Q (.tuple #[.agg #[.int .i64 (tlOf h c').H, .int .i64 (tlOf h c').L, .int .i64 (tlOf h c').N, .int .i64 (tlOf h c').W, .bool (tlOf h c').D, .int .i64 (firstOf h c' : Nat), .int .i64 (foldOf h c' : Nat)], .bool true]) w')
    (hno : ¬ (0 ≤ c ∧ c < 562949953421311) → ∀ w', Chg None w0 w' → Q (.tuple #[.agg #[.int .i64 0, .int .i64 0, .int .i64 0, .int .i64 0, .bool false, .int .i64 0, .int .i64 0], .bool false]) w') :
    C_tile_seatOf #[.int .i64 (h : Int), .int .i64 c] w0 Q := by
  refine C_tile_seatOf_eq _ _ _ _ ?_
  refine alC_box fun b w1 hb k1 hb1 => ?_
  have fin : ∀ (vs : List Value) (w : World), Blk w b 80 vs → Chg None w0 w → True := fun _ _ _ _ => trivial
  refine split_word (fun c' hc hlt w2 k2 => ⟨rfl, ⟨rfl, ⟨rfl, ⟨rfl, c_nne rfl ?_⟩⟩⟩⟩) fun hn => ⟨rfl, ⟨rfl, ⟨rfl, ⟨rfl, c_ne (by decide) ?_⟩⟩⟩⟩
  · subst hc
    rw [drw_s]
    have k3 : Chg None w0 w2.drew := (k1.none_trans k2).drew
    refine ⟨by omega, by omega, ?_⟩
    have hf := fold_lt (c := c') h1
    have hat := at_le (h := h) hlt
    have hnl := nod_lt hlt
    have hnod : nodOf c' < 281474976710656 := by
      have : nodOf c' + 1 ≤ (nodOf c' + 1) * 2 ^ levOf c' := Nat.le_mul_of_pos_right _ (pow_pos2 _)
      omega
    have hlv := lev_le hlt
    have hdv : levOf c' / h ≤ levOf c' := Nat.div_le_self _ _
    have hmod := Nat.mod_lt (atOf h c') (pow_pos2 h)
    have hp := pow_le h h8
    have hpf : 2 ^ foldOf h c' ≤ 256 := pow_le _ (by omega)
    rw [tmod_nat, show levOf c' % h = foldOf h c' from rfl]
    refine nn_nat (full_word h8 (opnI_s ?_))
    rw [drw_s]
    refine nn_nat (nn_nat ?_)
    have hs1 := shl_nat (nodOf c') (foldOf h c') (by omega) (by show atOf h c' < _; omega)
    have hs2 := shl_nat 1 (foldOf h c') (by omega) (by omega)
    rw [Nat.one_mul] at hs2
    have hs2' : shlI .i64 1 ((foldOf h c' : Nat) : Int) = ((2 ^ foldOf h c' : Nat) : Int) := hs2
    have hat' : nodOf c' * 2 ^ foldOf h c' = atOf h c' := rfl
    rw [hs1, hat', shr_nat _ h (by omega), mask_mod _ h (by omega) h8, hs2', tdiv_nat, wrap_n _ (by omega), ← Int.natCast_add, wrap_n _ (by omega)]
    refine ⟨rfl, box7 (hb.chg (k2.drew.drew) (fun h => h)) rfl rfl fun w3 hb3 k4 => ?_⟩
    simp only [hb3.rd 0 rfl, hb3.rd 1 rfl, hb3.rd 2 rfl, hb3.rd 3 rfl, hb3.rd 4 rfl, hb3.rd 5 rfl, hb3.rd 6 rfl, opnI, true_and]
    rw [opnB_s]
    exact hok c' rfl hlt w3 (Chg.fresh k3.drew k4 fun x hx => by rw [hx]; exact hb1)
  · refine ⟨rfl, box7 hb rfl rfl fun w3 hb3 k4 => ?_⟩
    simp only [hb3.rd 0 rfl, hb3.rd 1 rfl, hb3.rd 2 rfl, hb3.rd 3 rfl, hb3.rd 4 rfl, hb3.rd 5 rfl, hb3.rd 6 rfl, opnI, true_and]
    rw [opnB_s]
    exact hno hn w3 (Chg.fresh k1 k4 fun x hx => by rw [hx]; exact hb1)

theorem opn_seat {a0 a1 a2 a3 a5 a6 : Int} {a4 ok : Bool} {K : Int → Int → Int → Int → Bool → Int → Int → Bool → Prop} (hK : K a0 a1 a2 a3 a4 a5 a6 ok) :
    opnT (some (.tuple #[.agg #[.int .i64 a0, .int .i64 a1, .int .i64 a2, .int .i64 a3, .bool a4, .int .i64 a5, .int .i64 a6], .bool ok])) fun x => x.size = 2 ∧ opnG (x[0]?) fun y => y.size = 7 ∧ opnI .i64 (y[0]?) fun y0 => opnI .i64 (y[1]?) fun y1 => opnI .i64 (y[2]?) fun y2 => opnI .i64 (y[3]?) fun y3 => opnB (y[4]?) fun y4 => opnI .i64 (y[5]?) fun y5 => opnI .i64 (y[6]?) fun y6 => opnB (x[1]?) fun b => K y0 y1 y2 y3 y4 y5 y6 b :=
  ⟨rfl, ⟨rfl, ⟨rfl, ⟨rfl, ⟨rfl, ⟨rfl, ⟨rfl, ⟨rfl, hK⟩⟩⟩⟩⟩⟩⟩⟩
/-! what Of answers -/
noncomputable def ofV (h c : Int) : Tl × Int := if 1 ≤ h ∧ h ≤ 8 ∧ 0 ≤ c ∧ c < 562949953421311 then (tlOf h.toNat c.toNat, 0) else (tz, 1)
theorem of_word {Q : Value → World → Prop} {h c : Int} {w0 : World} (hQ : ∀ w', Chg None w0 w' → Q (.tuple #[tg (ofV h c).1, .int .i64 (ofV h c).2]) w') : C_tile_Of #[.int .i64 h, .int .i64 c] w0 Q := by
  refine C_tile_Of_eq _ _ _ _ ?_
  refine alC_box fun b w1 hb k1 hb1 => ?_
  have bad : ¬ (1 ≤ h ∧ h ≤ 8 ∧ 0 ≤ c ∧ c < 562949953421311) → N_tile_Of.j2 Q ⟨b, 0, none⟩ w1 := by
    intro hn
    refine N_tile_Of.j2_eq (h := set_tile (t := tz) hb rfl fun w2 hb2 k2 => rd_tile hb2 ?_)
    have := hQ w2 (Chg.fresh k1 k2 fun x hx => by rw [hx]; exact hb1)
    rw [ofV, if_neg hn] at this
    exact this
  by_cases g1 : h < 1
  · exact c_lt g1 (bad (by omega))
  refine c_nlt (by omega) ?_
  by_cases g2 : h > 8
  · exact c_gt g2 (bad (by omega))
  refine c_ngt (by omega) ?_
  obtain ⟨h, rfl⟩ := Int.eq_ofNat_of_zero_le (by omega : 0 ≤ h)
  refine seat_word (by omega) (by omega) (fun c' hc hlt w2 k2 => opn_seat ?_) fun hn w2 k2 => opn_seat ?_
  · subst hc
    refine mkbox7 rfl fun b2 w3 hb3 k3 hlt3 => ?_
    refine (rd_tile2 hb3 rfl ?_ : opnI .i64 (w3.cell? (((⟨b2, 0, none⟩ : Addr).add 0).add 0)) _)
    refine set_tile (hb.chg (k2.none_trans k3) (fun h => h)) rfl fun w4 hb4 k4 => rd_tile hb4 ?_
    have := hQ w4 (Chg.fresh (k1.none_trans (k2.none_trans k3)) k4 fun x hx => by rw [hx]; exact hb1)
    rw [ofV, if_pos (by omega)] at this
    exact this
  · refine mkbox7 rfl fun b2 w3 hb3 k3 hlt3 => ?_
    refine (set_tile (t := tz) (hb.chg (k2.none_trans k3) (fun h => h)) rfl fun w4 hb4 k4 => rd_tile hb4 ?_ : _ ∧ _)
    have := hQ w4 (Chg.fresh (k1.none_trans (k2.none_trans k3)) k4 fun x hx => by rw [hx]; exact hb1)
    rw [ofV, if_neg (by omega)] at this
    exact this

/-- what Width answers -/
def widV (h l n size : Int) : Int × Int := if 1 ≤ h ∧ h ≤ 8 ∧ 0 ≤ l ∧ 0 ≤ n ∧ 0 ≤ size ∧ size ≤ 281474976710656 then ((wid h.toNat l.toNat n.toNat size.toNat : Nat), 0) else (0, 1)
theorem twidth_word {Q : Value → World → Prop} {h l n size : Int} {w0 : World} (hQ : ∀ w', Chg None w0 w' → Q (.tuple #[.int .i64 (widV h l n size).1, .int .i64 (widV h l n size).2]) w') : C_tile_Width #[.int .i64 h, .int .i64 l, .int .i64 n, .int .i64 size] w0 Q := by
  refine C_tile_Width_eq _ _ _ _ _ _ (C_tile_sizes_eq _ _ _ _ ?_)
  have bad : ¬ (1 ≤ h ∧ h ≤ 8 ∧ 0 ≤ l ∧ 0 ≤ n ∧ 0 ≤ size ∧ size ≤ 281474976710656) → N_tile_Width.j2 Q w0 := by
    intro hn
    refine N_tile_Width.j2_eq (h := ?_)
    have := hQ w0 (Chg.refl _ _)
    rw [widV, if_neg hn] at this
    exact this
  by_cases g1 : 1 ≤ h
  case neg => exact c_nge (by omega) (bad (by omega))
  refine c_ge g1 ?_
  by_cases g2 : h ≤ 8
  case neg => exact c_nle (by omega) (bad (by omega))
  refine c_le g2 ?_
  by_cases g3 : 0 ≤ size
  case neg => exact c_nge (by omega) (bad (by omega))
  refine c_ge g3 ?_
  by_cases g4 : size ≤ 281474976710656
  case neg =>
    rw [decide_eq_false g4]
    exact bad (by omega)
  rw [decide_eq_true g4, opnB_s, Bool.not_true, cond_false]
  by_cases g5 : l < 0
  · exact c_lt g5 (bad (by omega))
  refine c_nlt (by omega) ?_
  by_cases g6 : n < 0
  · exact c_lt g6 (bad (by omega))
  refine c_nlt (by omega) ?_
  obtain ⟨h, rfl⟩ := Int.eq_ofNat_of_zero_le (by omega : 0 ≤ h)
  obtain ⟨l, rfl⟩ := Int.eq_ofNat_of_zero_le (by omega : 0 ≤ l)
  obtain ⟨n, rfl⟩ := Int.eq_ofNat_of_zero_le (by omega : 0 ≤ n)
  obtain ⟨size, rfl⟩ := Int.eq_ofNat_of_zero_le (by omega : 0 ≤ size)
  refine width_word (by omega) (by omega) (by omega) fun w1 k1 => opnI_s ?_
  have := hQ w1 k1
  rw [widV, if_pos (by omega)] at this
  exact this

/-! ### the document's -/
theorem rpow_word {Q : Value → World → Prop} {n : Nat} {w : World} (hn : n ≤ 62) (hQ : Q (.int .i64 ((2 ^ n : Nat) : Int)) w) : C_r10_power #[.int .i64 (n : Int)] w Q := by
  refine C_r10_power_eq _ _ _ ?_
  rw [wrap_u n (by omega)]
  have hle : 2 ^ n ≤ 2 ^ 62 := Nat.pow_le_pow_right (by decide) hn
  have hs := shl_nat 1 n (by omega) (by rw [Nat.one_mul]; omega)
  rw [Nat.one_mul] at hs
  have hs' : shlI .i64 1 ((n : Nat) : Int) = ((2 ^ n : Nat) : Int) := hs
  rw [hs']
  exact nn_nat hQ
def nodesV (h l size : Nat) : Nat := if 48 < l ∨ 48 < h * l then 0 else size / 2 ^ (h * l)
theorem nodes_word {Q : Value → World → Prop} {h l size : Nat} {w : World} (h8 : h ≤ 8) (hl : l ≤ 9223372036854775807) (hs : size ≤ 281474976710656) (hQ : Q (.int .i64 ((nodesV h l size : Nat) : Int)) w) : C_r10_nodes #[.int .i64 (h : Int), .int .i64 (l : Int), .int .i64 (size : Int)] w Q := by
  refine C_r10_nodes_eq _ _ _ _ _ ?_
  unfold nodesV at hQ
  by_cases g1 : 48 < l
  · rw [if_pos (.inl g1)] at hQ
    exact c_gt (by omega) (N_r10_nodes.j2_eq (h := hQ))
  refine c_ngt (by omega) ?_
  have hm : h * l ≤ 8 * 48 := Nat.mul_le_mul h8 (by omega)
  rw [wrap_mul (by omega)]
  by_cases g2 : 48 < h * l
  · rw [if_pos (.inr g2)] at hQ
    exact c_gt (by omega) (N_r10_nodes.j2_eq (h := hQ))
  rw [if_neg (by omega)] at hQ
  have hp := pow_pos2 (h * l)
  have hd : size / 2 ^ (h * l) ≤ size := Nat.div_le_self _ _
  refine c_ngt (by omega) (rpow_word (by omega) (opnI_s ⟨by omega, ?_⟩))
  rw [tdiv_nat, wrap_n _ (by omega)]
  exact hQ
theorem nodes_cnt {h l size : Nat} (h1 : 1 ≤ h) : nodesV h l size = if 48 / h < l then 0 else cnt h l size := by
  unfold nodesV cnt
  by_cases g : 48 / h < l
  · rw [if_pos g, if_pos]
    have := (Nat.div_lt_iff_lt_mul (show 0 < h by omega)).1 g
    rw [Nat.mul_comm]; exact .inr this
  · rw [if_neg g, if_neg]
    have h2 := mul_small h1 (by omega : l ≤ 48 / h)
    have h3 : 48 / h ≤ 48 := Nat.div_le_self _ _
    omega
theorem rwidth_word {Q : Value → World → Prop} {h l n size : Int} {w0 : World} (hl : l ≤ 9223372036854775807) (hQ : Q (.tuple #[.int .i64 (widV h l n size).1, .int .i64 (widV h l n size).2]) w0) : C_r10_Width #[.int .i64 h, .int .i64 l, .int .i64 n, .int .i64 size] w0 Q := by
  refine C_r10_Width_eq _ _ _ _ _ _ ?_
  have bad : ¬ (1 ≤ h ∧ h ≤ 8 ∧ 0 ≤ l ∧ 0 ≤ n ∧ 0 ≤ size ∧ size ≤ 281474976710656) → N_r10_Width.j2 Q w0 := by
    intro hn
    refine N_r10_Width.j2_eq (h := ?_)
    rw [widV, if_neg hn] at hQ
    exact hQ
  by_cases g1 : h < 1
  · exact c_lt g1 (bad (by omega))
  refine c_nlt (by omega) ?_
  by_cases g2 : h > 8
  · exact c_gt g2 (bad (by omega))
  refine c_ngt (by omega) ?_
  by_cases g3 : l < 0
  · exact c_lt g3 (bad (by omega))
  refine c_nlt (by omega) ?_
  by_cases g4 : n < 0
  · exact c_lt g4 (bad (by omega))
  refine c_nlt (by omega) ?_
  by_cases g5 : size < 0
  · exact c_lt g5 (bad (by omega))
  refine c_nlt (by omega) ?_
  by_cases g6 : size > 281474976710656
  · exact c_gt g6 (bad (by omega))
  refine c_ngt (by omega) ?_
  clear bad
  obtain ⟨h, rfl⟩ := Int.eq_ofNat_of_zero_le (by omega : 0 ≤ h)
  obtain ⟨l, rfl⟩ := Int.eq_ofNat_of_zero_le (by omega : 0 ≤ l)
  obtain ⟨n, rfl⟩ := Int.eq_ofNat_of_zero_le (by omega : 0 ≤ n)
  obtain ⟨size, rfl⟩ := Int.eq_ofNat_of_zero_le (by omega : 0 ≤ size)
  rw [widV, if_pos (by omega)] at hQ
  simp only [Int.toNat_natCast] at hQ
  have h1 : 1 ≤ h := by omega
  refine nodes_word (by omega) (by omega) (by omega) (opnI_s ?_)
  have e := nodes_cnt (l := l) (size := size) h1
  have hp := pow_le h (by omega)
  have hp0 := pow_pos2 h
  have hc := cnt_le h l size
  unfold wid at hQ
  by_cases hl2 : 48 / h < l
  · rw [if_pos hl2] at e hQ
    rw [e]
    by_cases hn0 : n = 0
    · subst hn0
      refine c_ngt (by omega) (rpow_word (by omega) (opnI_s ?_))
      have ez : IntKind.wrap .i64 (((0 : Nat) : Int) - IntKind.wrap .i64 (((0 : Nat) : Int) * ((2 ^ h : Nat) : Int))) = 0 := by simp [wrap_id]
      rw [ez]
      refine c_nlt (by omega) (N_r10_Width.j9_eq (h := rpow_word (by omega) (opnI_s (c_ngt (by omega) (N_r10_Width.j11_eq (h := hQ))))))
    · exact c_gt (by omega) hQ
  rw [if_neg hl2] at e hQ
  rw [e]
  by_cases hn1 : cnt h l size < n
  · have : cnt h l size / 2 ^ h < n := Nat.lt_of_le_of_lt (Nat.div_le_self _ _) hn1
    rw [if_pos this] at hQ
    exact c_gt (by omega) hQ
  refine c_ngt (by omega) (rpow_word (by omega) (opnI_s ?_))
  have hmul : n * 2 ^ h ≤ 281474976710656 * 256 := Nat.mul_le_mul (by omega) hp
  rw [show ((n : Int) * ((2 ^ h : Nat) : Int)) = ((n * 2 ^ h : Nat) : Int) by norm_cast, wrap_n _ (by omega), wrap_id (by omega) (by omega)]
  by_cases hn2 : cnt h l size / 2 ^ h < n
  · rw [if_pos hn2] at hQ
    have h2 := (Nat.div_lt_iff_lt_mul hp0).1 hn2
    refine c_lt (by omega) (N_r10_Width.j9_eq (h := rpow_word (by omega) (opnI_s (c_ngt (by omega) (N_r10_Width.j11_eq (h := hQ))))))
  rw [if_neg hn2] at hQ
  have h2 : n * 2 ^ h ≤ cnt h l size := (Nat.le_div_iff_mul_le hp0).1 (by omega)
  refine c_nlt (by omega) (N_r10_Width.j9_eq (h := rpow_word (by omega) (opnI_s ?_)))
  by_cases h3 : 2 ^ h < cnt h l size - n * 2 ^ h
  · rw [Nat.min_eq_right (by omega)] at hQ
    refine c_gt (by omega) (N_r10_Width.j10_eq (h := rpow_word (by omega) (opnI_s (N_r10_Width.j11_eq (h := hQ)))))
  · rw [Nat.min_eq_left (by omega)] at hQ
    rw [show ((cnt h l size : Nat) : Int) - ((n * 2 ^ h : Nat) : Int) = ((cnt h l size - n * 2 ^ h : Nat) : Int) by omega]
    exact c_ngt (by omega) (N_r10_Width.j11_eq (h := hQ))
end Go.Proofs.YtccjncflbbhldaaDoor.Pl
/-! ## PlWide -/
set_option maxRecDepth 10000
namespace Go.Proofs.YtccjncflbbhldaaDoor.Pl
open Go.Sh

/-- t at its full width -/
def wideV (t : Tl) (size : Nat) : Tl := { t with W := (wid t.H.toNat t.L.toNat t.N.toNat size : Nat) }
theorem wide_word {Q : Value → World → Prop} {t : Tl} {h l n size : Nat} {w0 : World} (hH : t.H = h) (hL : t.L = l) (hN : t.N = n) (h1 : 1 ≤ h) (h8 : h ≤ 8) (hs : size ≤ 281474976710656)
    (hQ : ∀ w', Chg None w0 w' → Q (tg (wideV t size)) w') : C_tile_wide #[tg t, .int .i64 (size : Int)] w0 Q := by
  refine C_tile_wide_eq _ _ _ _ _ _ _ _ ?_
  refine alC_box fun b w1 hb k1 hb1 => ?_
  refine alC_box fun b2 w2 hb2 k2 hlt2 => ?_
  have hb' := hb.chg k2 (fun h => h)
  have ne : b2 ≠ b := fun e => by have := hb.lt; omega
  refine opnI_c (hb'.rd 0 rfl) (opnI_c (hb'.rd 1 rfl) (opnI_c (hb'.rd 2 rfl) ?_))
  rw [hH, hL, hN]
  refine width_word h1 h8 hs fun w3 k3 => opnI_s ?_
  refine box_set (hb'.chg k3 (fun h => h)) (by simp) rfl fun w4 hb4 k4 => ?_
  refine rd_tile (t := wideV t size) (by simpa [tv, wideV, hH, hL, hN] using hb4) ?_
  refine set_tile (t := wideV t size) (old := [.int .i64 0, .int .i64 0, .int .i64 0, .int .i64 0, .bool false]) ((hb2.chg k3 (fun h => h)).chg k4 ne) rfl fun w5 hb5 k5 => rd_tile hb5 ?_
  have k04 : Chg None w0 w4 := Chg.fresh (k1.none_trans (k2.none_trans k3)) k4 fun x hx => by rw [hx]; exact hb1
  exact hQ w5 (Chg.fresh k04 k5 fun x hx => by rw [hx]; have := k1.size; omega)
/-- the place over a full tile -/
theorem topOf_word {Q : Value → World → Prop} {t : Tl} {h l n : Nat} {w0 : World} (hH : t.H = h) (hL : t.L = l) (hN : t.N = n) (hl : h * (l + 1) ≤ 48) (hn : (n + 1) * 2 ^ (h * (l + 1)) ≤ 281474976710656)
    (hQ : ∀ w', Chg None w0 w' → Q (.int .i64 ((placeOf (h * (l + 1)) n : Nat) : Int)) w') : C_tile_topOf #[tg t] w0 Q := by
  refine C_tile_topOf_eq _ _ _ _ _ _ _ ?_
  refine alC_box fun b w1 hb k1 hb1 => ?_
  refine opnI_c (hb.rd 0 rfl) (opnI_c (hb.rd 1 rfl) (opnI_c (hb.rd 2 rfl) ?_))
  rw [hH, hL, hN]
  have hl1 : l + 1 ≤ 48 ∨ h = 0 := by
    rcases Nat.eq_zero_or_pos h with g | g
    · exact .inr g
    · have : l + 1 ≤ h * (l + 1) := Nat.le_mul_of_pos_left _ g
      exact .inl (by omega)
  have e : IntKind.wrap .i64 ((h : Int) * IntKind.wrap .i64 ((l : Int) + 1)) = ((h * (l + 1) : Nat) : Int) := by
    rcases hl1 with g | g
    · rw [wrap_nat (by omega), wrap_mul (by omega)]
    · subst g
      rw [Int.natCast_zero, Int.zero_mul, Nat.zero_mul]; rfl
  rw [e]
  refine index_word (fun _ => ⟨rfl, ⟨rfl, ⟨rfl, hQ w1 k1⟩⟩⟩) fun g => absurd ⟨by omega, by omega, by omega, by rw [Int.toNat_natCast, Int.toNat_natCast]; exact hn⟩ g

/-! ### the document's -/
theorem rof_word {Q : Value → World → Prop} {h c : Int} {w0 : World} (hQ : ∀ w', Chg None w0 w' → Q (.tuple #[tg (ofV h c).1, .int .i64 (ofV h c).2]) w') : C_r10_Of #[.int .i64 h, .int .i64 c] w0 Q := by
  refine C_r10_Of_eq _ _ _ _ ?_
  refine alC_box fun b w1 hb k1 hb1 => ?_
  have bad : ¬ (1 ≤ h ∧ h ≤ 8 ∧ 0 ≤ c ∧ c < 562949953421311) → N_r10_Of.j2 Q ⟨b, 0, none⟩ w1 := by
    intro hn
    refine N_r10_Of.j2_eq (h := set_tile (t := tz) hb rfl fun w2 hb2 k2 => rd_tile hb2 ?_)
    have := hQ w2 (Chg.fresh k1 k2 fun x hx => by rw [hx]; exact hb1)
    rw [ofV, if_neg hn] at this
    exact this
  by_cases g1 : h < 1
  · exact c_lt g1 (bad (by omega))
  refine c_nlt (by omega) ?_
  by_cases g2 : h > 8
  · exact c_gt g2 (bad (by omega))
  refine c_ngt (by omega) ?_
  obtain ⟨h, rfl⟩ := Int.eq_ofNat_of_zero_le (by omega : 0 ≤ h)
  have h1 : 1 ≤ h := by omega
  have h8 : h ≤ 8 := by omega
  refine rsplit_word (fun c' hc hlt w2 k2 => ⟨rfl, ⟨rfl, ⟨rfl, ⟨rfl, c_nne rfl ?_⟩⟩⟩⟩) fun hn => ⟨rfl, ⟨rfl, ⟨rfl, ⟨rfl, c_ne (by decide) ?_⟩⟩⟩⟩
  · subst hc
    refine ⟨by omega, ?_⟩
    have hf := fold_lt (c := c') h1
    have hat := at_le (h := h) hlt
    have hlv := lev_le hlt
    have hdv : levOf c' / h ≤ levOf c' := Nat.div_le_self _ _
    have hmod := Nat.mod_lt (atOf h c') (pow_pos2 h)
    have hp := pow_le h h8
    have hp0 := pow_pos2 h
    have hpf : 2 ^ foldOf h c' ≤ 256 := pow_le _ (by omega)
    have hdn : atOf h c' / 2 ^ h ≤ atOf h c' := Nat.div_le_self _ _
    rw [tmod_nat, show levOf c' % h = foldOf h c' from rfl]
    refine rpow_word (by omega) (opnI_s ?_)
    rw [drw_s]
    have hk2 : Chg None w1 w2.drew := k2.drew
    have e1 : IntKind.wrap .i64 (((nodOf c' : Nat) : Int) * ((2 ^ foldOf h c' : Nat) : Int)) = ((atOf h c' : Nat) : Int) := by
      rw [show ((nodOf c' : Nat) : Int) * ((2 ^ foldOf h c' : Nat) : Int) = ((atOf h c' : Nat) : Int) by rw [atOf]; norm_cast]
      exact wrap_n _ (by omega)
    have e2 : IntKind.wrap .i64 (Int.tdiv ((levOf c' : Nat) : Int) (h : Int)) = ((levOf c' / h : Nat) : Int) := by rw [tdiv_nat, wrap_n _ (by omega)]
    have e3 : IntKind.wrap .i64 (Int.tdiv ((atOf h c' : Nat) : Int) ((2 ^ h : Nat) : Int)) = ((atOf h c' / 2 ^ h : Nat) : Int) := by rw [tdiv_nat, wrap_n _ (by omega)]
    have last : ∀ (b2 : Nat) (w3 : World), Blk w3 b2 37 [.int .i64 (h : Int), .int .i64 ((levOf c' / h : Nat) : Int), .int .i64 ((atOf h c' / 2 ^ h : Nat) : Int), .int .i64 0, .bool false] → Chg None w2.drew w3 → w2.drew.heap.size ≤ b2 → N_r10_Of.j9 Q (h : Int) ⟨b, 0, none⟩ ((2 ^ foldOf h c' : Nat) : Int) ((atOf h c' : Nat) : Int) ⟨b2, 0, none⟩ w3 := by
      intro b2 w3 hb3 k3 hlt3
      refine N_r10_Of.j9_eq (h := rpow_word (by omega) (opnI_s ⟨by omega, ?_⟩))
      rw [tmod_nat, ← Int.natCast_add, wrap_n _ (by omega)]
      refine box_set hb3 (by simp [tv]) rfl fun w4 hb4 k4 => ?_
      have hb0 := (hb.chg (hk2.none_trans k3) (fun h => h)).chg k4 (by have := hb.lt; have := hk2.size; omega)
      refine N_r10_Of.j10_eq (h := rd_tile (t := tlOf h c') hb4 ?_)
      refine set_tile (t := tlOf h c') hb0 rfl fun w5 hb5 k5 => rd_tile hb5 ?_
      have k04 : Chg None w0 w4 := Chg.fresh ((k1.none_trans hk2).none_trans k3) k4 fun x hx => by rw [hx]; have := k1.size; have := hk2.size; omega
      have := hQ w5 (Chg.fresh k04 k5 fun x hx => by rw [hx]; exact hb1)
      rw [ofV, if_pos (by omega)] at this
      exact this
    rw [e1, e2]
    refine ⟨by omega, rpow_word (by omega) (opnI_s ⟨by omega, ?_⟩), ?_⟩
    · rw [e3]
      exact mkbox5 rfl fun b2 w3 hb3 k3 hlt3 => last b2 w3 hb3 k3 hlt3
    · refine alC_box fun b2 w3 hb3 k3 hlt3 => rpow_word (by omega) (opnI_s ⟨by omega, ?_⟩)
      rw [e3]
      exact ⟨rfl, box5 hb3 rfl rfl fun w4 hb4 k4 => last b2 w4 hb4 (Chg.fresh k3 k4 fun x hx => by rw [hx]; exact hlt3) hlt3⟩
  · refine set_tile (t := tz) hb rfl fun w2 hb2 k2 => rd_tile hb2 ?_
    have := hQ w2 (Chg.fresh k1 k2 fun x hx => by rw [hx]; exact hb1)
    rw [ofV, if_neg (by omega)] at this
    exact this
/-- what the document's wide answers -/
noncomputable def rwideV (h size c : Int) : Tl := { (ofV h c).1 with W := (widV h (ofV h c).1.L (ofV h c).1.N size).1 }
theorem ofV_L (h c : Int) : (ofV h c).1.L ≤ 9223372036854775807 := by
  unfold ofV
  split
  · rename_i g
    have := lev_le (c := c.toNat) (by omega)
    have h2 : levOf c.toNat / h.toNat ≤ levOf c.toNat := Nat.div_le_self _ _
    simp only [tlOf]; omega
  · decide
end Go.Proofs.YtccjncflbbhldaaDoor.Pl
/-! ## ShGj0 -/
set_option maxRecDepth 100000
namespace Go.Proofs.YtccjncflbbhldaaDoor
open Go.Sh
/-! ### (ledger/tlog.hasher).join -/
noncomputable def B_tlog_hasher_join : Code := match Tryd.f112.body with | some c => c | _ => .skip
noncomputable def X_tlog_hasher_join : Cx := { P := PP, fn := 112, N := 12, tab := tab, results := [.cell 6 29], iter := fun _ => (.none, .none), dyn := fun r => cond (Nat.beq r 8) true (false), live := fun _ => none }
theorem K_tlog_hasher_join : OkF X_tlog_hasher_join B_tlog_hasher_join Tryd.f112 := ⟨⟨tab_ok, mix_ok⟩, Tryd.func112, by kernel_rfl, by kernel_rfl, by kernel_rfl, by kernel_rfl⟩
theorem C_tlog_hasher_join_eq (Q : Value → World → Prop) (a0_0 : Int) (a0_1 : Value) (a0_2 : Value) (a0_3 : Value) (a1 : Array Value) (a2 : Array Value) (w : World) (h :
  alC #[.int .i64 a0_0, a0_1, a0_2, a0_3] 143 w fun p1 w2 =>
  alC a1 29 w2 fun p3 w4 =>
  alC a2 29 w4 fun p5 w6 =>
  alZ PP 29 w6 fun p7 w8 =>
  opnV (w8.cell? (p1.add 3)) fun x9 =>
  opnRow w8 p3 (32 * 1) fun x10 =>
  opnRow w8 p5 (32 * 1) fun x11 =>
  invk PP x9 #[.agg x10, .agg x11] w8 fun v12 w13 =>
  opnG (some v12) fun x14 =>
  stRow p7 x14 (32 * 1) w13 fun w15 =>
  opnRow w15 p7 (32 * 1) fun x16 =>
  Q (.agg x16) w15) :
C_tlog_hasher_join #[.agg #[.int .i64 a0_0, a0_1, a0_2, a0_3], .agg a1, .agg a2] w Q := C_fold K_tlog_hasher_join (by kernel_rfl) h
end Go.Proofs.YtccjncflbbhldaaDoor
/-! ## ShL16 -/
namespace Go.Sh
open Go.ChangeShapes
variable {P : Program}
section
variable {α : Type} {enc : α → List Value} {sz : Nat} {w : World}
/-- a row, read -/
theorem rd_rowP (hs : ∀ x, (enc x).length = sz) {S : Nat → Prop} {p : Addr} {l : List α} (h : Lies w S (some p) (l.flatMap enc)) {i : Nat} {x : α} (hx : l[i]? = some x) {n : Nat} (hn : sz = n) {K : Array Value → Prop} (hK : K (enc x).toArray) : opnRow w (p.add (i * sz)) n K :=
  row_c ((hs x).trans hn) (fun j v hv => by
    have hj : j < sz := by have := (List.getElem?_eq_some_iff.1 hv).1; rwa [hs] at this
    obtain ⟨q, hq, _, hc⟩ := h (i * sz + j) v (by rw [flat_get enc sz hs l _ j x hx hj]; exact hv)
    cases hq
    rw [add_add']; exact hc) hK
theorem rd_row (hs : ∀ x, (enc x).length = sz) {S : Nat → Prop} {a : Option Addr} {l : List α} (h0 : 0 < sz) (h : Lies w S a (l.flatMap enc)) {i : Nat} {x : α} (hx : l[i]? = some x) {n : Nat} (hn : sz = n) {K : Array Value → Prop} (hK : K (enc x).toArray) : opnA a fun ad => opnRow w (ad.add (i * sz)) n K := by
  obtain ⟨p, rfl⟩ := lies_flat_some hs h0 h (i := i) (List.getElem?_eq_some_iff.1 hx).1
  exact rd_rowP hs h hx hn hK
/-- a row, written -/
theorem st_row (hs : ∀ x, (enc x).length = sz) {e n c : Nat} {a : Option Addr} {l : List α} (h : Own w e sz a n c (l.flatMap enc)) {i : Nat} (hi : i < l.length) (x : α) (h0 : 0 < sz) (h1 : (enc x).all Value.oneCell' = true) {m : Nat} (hm : sz = m) {K : World → Prop} (hK : ∀ w', Own w' e sz a n c ((l.set i x).flatMap enc) → Chg (At a) w w' → K w') :
    opnA a fun ad => stRow (ad.add (i * sz)) (enc x).toArray m w K := by
  have hl := h.len
  rw [flat_len enc sz hs] at hl
  have hln : l.length = n := Nat.eq_of_mul_eq_mul_right h0 hl
  rcases h.row with ⟨rfl, h2, h3⟩ | ⟨b, rest, rfl, h2, h3, h4⟩
  · omega
  · have el : l = l.take i ++ l[i] :: l.drop (i + 1) := by rw [List.getElem_cons_drop, List.take_append_drop]
    have e : l.flatMap enc ++ rest = (l.take i).flatMap enc ++ enc l[i] ++ ((l.drop (i + 1)).flatMap enc ++ rest) := by
      have := congrArg (fun q => List.flatMap enc q ++ rest) el
      simp only [List.flatMap_append, List.flatMap_cons] at this
      rw [this]; simp
    have es : (l.set i x).flatMap enc ++ rest = (l.take i).flatMap enc ++ enc x ++ ((l.drop (i + 1)).flatMap enc ++ rest) := by
      rw [List.set_eq_take_append_cons_drop, if_pos hi]; simp
    rw [e] at h2
    show stRow ((⟨b, 0, none⟩ : Addr).add (i * sz)) (enc x).toArray m w K
    rw [add_at, Nat.zero_add]
    refine Blk.stRow h2 ?_ ?_ ?_ ?_ fun w' hb k => hK w' ⟨?_, .inr ⟨b, rest, rfl, ?_, ?_, h4⟩⟩ (k.mono fun j _ hj => ⟨_, rfl, hj.symm⟩)
    · rw [flat_len enc sz hs, List.length_take]; congr 1; omega
    · simp [hs, hm]
    · simp [hs]
    · simpa using h1
    · rw [flat_len enc sz hs, List.length_set]; exact congrArg (· * sz) hln
    · rw [es]; exact hb
    · have : ((l.set i x).flatMap enc ++ rest).length = (l.flatMap enc ++ rest).length := by simp only [List.length_append, flat_len enc sz hs, List.length_set]
      rw [this]; exact h3
end
/-- make of elements whose cells are all one value -/
theorem make_same {t e sz by_ : Nat} {v : Value} (T : SlT P t e sz by_) (hz : ((P.info? e).bind (·.zero)).map (·.cells) = some (List.replicate sz v).toArray) {w : World} {l c : Nat} (hlc : l ≤ c) (hb : by_ * c ≤ 281474976710656) (h63 : c ≤ 9223372036854775807) {K : Value → World → Prop}
    (hK : ∀ b w', Own w' e sz (some ⟨b, 0, .none⟩) l c (List.replicate (l * sz) v) → Chg None w w' → w.heap.size ≤ b → K (.slice (some ⟨b, 0, .none⟩) l c) w') : sem P (Instr.makeSlice t (.int .i64 (l : Int)) (.int .i64 (c : Int))) w K := by
  obtain ⟨i, z, hi, hzz, rfl, rfl, hzs⟩ := T.get
  have hz' : z.cells = (List.replicate i.size v).toArray := by
    rw [hi] at hz
    simpa [hzz] using hz
  have hb' : (i.bytes : Int) * (c : Int) ≤ 281474976710656 := by
    have h : ((i.bytes * c : Nat) : Int) ≤ 281474976710656 := by omega
    rwa [Int.natCast_mul] at h
  unfold sem
  rw [run_make (P := P) w t e i z T.ht hi hzz .i64 .i64 l c (by omega) (by omega) hb' (by omega)]
  simp only [Int.toNat_natCast]
  have hle : l * i.size ≤ c * i.size := Nat.mul_le_mul_right _ hlc
  have e1 : (madeCells z.cells (c * i.size)).toList = List.replicate (l * i.size) v ++ List.replicate (c * i.size - l * i.size) v := by
    rw [List.replicate_append_replicate, show l * i.size + (c * i.size - l * i.size) = c * i.size by omega]
    apply List.ext_getElem?
    intro j
    by_cases hj : j < c * i.size
    · have hp : 0 < i.size := by
        rcases Nat.eq_zero_or_pos i.size with h | h
        · rw [h, Nat.mul_zero] at hj; omega
        · exact h
      have : j % i.size < i.size := Nat.mod_lt _ hp
      simp [madeCells, hj, hz', this]
    · simp [madeCells, hj]
  refine hK _ _ ⟨by simp, .inr ⟨w.heap.size, List.replicate (c * i.size - l * i.size) v, rfl, ?_, ?_, hlc⟩⟩ (chg_alloc w _) (Nat.le_refl _)
  · have := blk_alloc (w := w) (t := e) (cs := madeCells z.cells (c * i.size))
    rw [e1] at this; exact this
  · simp only [List.length_append, List.length_replicate]; omega
end Go.Sh
/-! ## TreeMem -/
set_option maxRecDepth 10000
namespace Go.Proofs.YtccjncflbbhldaaDoor
open Go.Sh Go.RowKit
open Pl (wrap_n tdiv_nat)
theorem T22 : SlT PP 22 29 32 32 := ⟨by kernel_rfl, by kernel_rfl⟩
section
variable {Q : Value → World → Prop} {w : World}
/-- a leaf's hash -/
theorem leaf_word {k : Int} {d : List UInt8} {a : Option Addr} {c : Nat} {S : Nat → Prop} (st : ShaStd w) (hd : Lies w S a (bvs d)) (hc : d.length ≤ c) (hl : d.length ≤ 1000000000) (hQ : ∀ w', Chg None w w' → Q (.agg (hb (leafH k d)).toArray) w') : C_tlog_LeafHash #[.int .i64 k, .slice a d.length c] w Q := by
  refine C_tlog_LeafHash_eq _ _ _ _ _ _ ?_
  refine alZ_box zero29 fun p1 w1 h1 k1 lo1 => ?_
  refine hasher_word (k := k) fun b1 b3 w2 H lob1 lob3 k2 => ?_
  unfold hasherV
  rw [opnG_s]
  refine ⟨rfl, opnI_c rfl (opnV_c (v := fOf b1) rfl (opnV_c (v := fLeaf b3) rfl (opnV_c (v := fNode b3) rfl ?_)))⟩
  rw [P_inv109]
  refine C_tlog_hasherOf_S2_eq _ _ _ _ _ _ ?_
  refine alZ_box zero29 fun p3 w3 h3 k3 lo3 => ?_
  have k03 := k1.none_trans (k2.none_trans k3)
  rw [wrap_nat (by omega)]
  refine make_empty T25 (c := d.length + 1) (by omega) (by omega) fun bt w4 o4 k4 lo4 => ?_
  rw [opnL_s]
  refine push_u8 T25 (w0 := w3) (l := []) (by simpa [bvs] using o4) (fun k ⟨p, hp, hk⟩ => by cases hp; subst hk; exact lo4) k4 0 rfl (by omega) fun a5 c5 w5 o5 f5 k5 => ?_
  rw [drw_s]
  have k6 : Chg None w3 w5.drew := k5.drew
  have o6 := o5.chg0 (Chg.drew0 w5)
  have hf6 := (H.chg0 k3).f.chg k6 (fun h => h)
  generalize w5.drew = w6 at k6 o6 hf6
  refine opnV_c (v := fOf b1) (by have := hf6.rd 0 rfl; rwa [add_zero] at this) ?_
  refine app_u8 T25 V25 (w0 := w3) o6 f5 k6 (hd.chg0 (k03.none_trans k6)) (m := d.length) rfl (by omega) fun a8 c8 w8 o8 f8 k8 => ?_
  have hf8 := (H.chg0 k3).f.chg k8 (fun h => h)
  refine ⟨opnV_c (v := fOf b1) (by have := hf8.rd 0 rfl; rwa [add_zero] at this) rfl, ?_⟩
  rw [P_inv107]
  have hlen : (([] : List UInt8) ++ [0] ++ d).length = 0 + 1 + d.length := by simp; omega
  have k08 : Chg None w w8 := k03.none_trans k8
  have hle := o8.le
  rw [← hlen] at o8 hle ⊢
  refine of_word (k := k) (st.chg0 k08) ((H.chg0 k3).chg0 k8) o8.lies hle (by rw [hlen]; omega) fun w9 k9 => ?_
  rw [opnG_s]
  have e : (([] : List UInt8) ++ [0] ++ d) = 0 :: d := by simp
  rw [e]
  have hnl : (bvs (leafV k d)).length = 32 := by rw [bvs_len, leafV_len]
  refine Blk.stAll ((h3.chg k8 (fun h => h)).chg k9 (fun h => h)) ?_ ?_ ?_ fun w10 h10 k10 => ?_
  · exact hnl
  · exact hnl
  · rw [List.all_eq_true]; exact bvs_one
  refine Blk.rowAll h10 (n := 32) hnl ?_
  rw [opnG_s]
  have k010 : Chg None w w10 := Chg.fresh (k08.none_trans k9) k10 fun x hx => by rw [hx]; exact Nat.le_trans (k1.none_trans k2).size lo3
  have n13 : p1 ≠ p3 := fun e => by
    have a1 := h1.lt
    have a2 := k2.size
    omega
  refine Blk.stAll ((((h1.chg k2 (fun h => h)).chg (k3.none_trans k8) (fun h => h)).chg k9 (fun h => h)).chg k10 n13) ?_ ?_ ?_ fun w11 h11 k11 => ?_
  · exact hnl
  · exact hnl
  · rw [List.all_eq_true]; exact bvs_one
  refine Blk.rowAll h11 (n := 32) hnl ?_
  exact hQ w11 (Chg.fresh k010 k11 fun x hx => by rw [hx]; exact lo1)
/-- a tree in memory -/
structure Tr (w : World) (k : Int) (b b1 b3 : Nat) (a : Option Addr) (c : Nat) (st : List Hsh) (n : Nat) : Prop where
  hs : Hs w k b1 b3
  box : Blk w b 149 [.int .i64 ((keepK k : Nat) : Int), fOf b1, fLeaf b3, fNode b3, .slice a st.length c, .int .i64 (n : Int)]
  own : Own w 29 32 a st.length c (hvs st)
  d1 : ∀ x, At a x → x ≠ b ∧ x ≠ b1 ∧ x ≠ b3
  d2 : b ≠ b1 ∧ b ≠ b3
theorem Tr.chg0 {w' : World} {k : Int} {b b1 b3 c n : Nat} {a : Option Addr} {st : List Hsh} (T : Tr w k b b1 b3 a c st n) (h : Chg None w w') : Tr w' k b b1 b3 a c st n := ⟨T.hs.chg0 h, T.box.chg h (fun h => h), T.own.chg0 h, T.d1, T.d2⟩
theorem Tr.chg {w' : World} {k : Int} {b b1 b3 c n : Nat} {a : Option Addr} {st : List Hsh} {D : Nat → Prop} (T : Tr w k b b1 b3 a c st n) (h : Chg D w w') (h0 : ¬ D b) (h1 : ¬ D b1) (h3 : ¬ D b3) (ha : ∀ x, At a x → ¬ D x) : Tr w' k b b1 b3 a c st n := ⟨T.hs.chg h h1 h3, T.box.chg h h0, T.own.chg h ha, T.d1, T.d2⟩
/-- one more hash behind the stored ones: the append and the field's store -/
theorem tr_push {k : Int} {b b1 b3 c n p : Nat} {a : Option Addr} {st : List Hsh} {x : Hsh} (T : Tr w k b b1 b3 a c st n) (hp : Blk w p 29 (hb x)) (hn : st.length < 1000000) {K : World → Prop}
    (hK : ∀ a' c' w', Tr w' k b b1 b3 a' c' (st ++ [x]) n → Chg (fun y => At a y ∨ y = b) w w' → (a' = a ∨ ∃ b', a' = some ⟨b', 0, none⟩ ∧ w.heap.size ≤ b') → K w') :
    sem PP (Builtin.append_ #[22, 22] 22 #[.slice a st.length c, .slice (some ⟨p, 0, none⟩) 1 1]) w fun v27 w28 => opnL (some v27) fun x29 x29n x29c => opnA (some ⟨b, 0, none⟩) fun ad30 => stC (ad30.add 4) (.slice x29 x29n x29c) w28 K := by
  have hsrc : Src PP 32 22 (.slice (some ⟨p, 0, none⟩) 1 1) 1 (hb x) w := src_lies T22.ht (hp.lies (S := fun _ => True) trivial) (by rw [hb_len]) (.inr (by decide)) (List.all_eq_true.1 (hb_one x))
  refine append_own T22 T.own hsrc (by simp only [maxLen]; omega) (by omega) fun a' c' w1 o1 k1 f1 => ?_
  rw [opnL_s, opnA_e]
  have hfr : ∀ y, At a' y → y ≠ b ∧ y ≠ b1 ∧ y ≠ b3 := by
    rcases f1 with rfl | ⟨b', rfl, hlo⟩
    · exact T.d1
    · rintro y ⟨q, hq, hy⟩
      cases hq
      have hy' : b' = y := hy
      have e1 := T.box.lt
      have e2 := T.hs.k.lt
      have e3 := T.hs.f.lt
      exact ⟨by omega, by omega, by omega⟩
  have hb1 := T.box.chg k1 fun h => (T.d1 _ h).1 rfl
  refine box_set hb1 (j := 4) (show 4 < 6 by decide) rfl fun w2 hb2 k2 => ?_
  have e1 : (st ++ [x]).length = st.length + 1 := by simp
  have e2 : hvs (st ++ [x]) = hvs st ++ hb x := by simp [hvs]
  refine hK a' c' w2 ⟨(T.hs.chg k1 (fun h => (T.d1 _ h).2.1 rfl) (fun h => (T.d1 _ h).2.2 rfl)).chg k2 (fun e => T.d2.1 e.symm) (fun e => T.d2.2 e.symm), ?_, ?_, hfr, T.d2⟩ ?_ f1
  · rw [e1]; exact hb2
  · rw [e1, e2]; exact o1.chg k2 fun y hy e => (hfr y hy).1 e
  · exact Chg.trans k1 k2 (fun _ _ h => .inl h) (fun _ _ h => .inr h)
end
end Go.Proofs.YtccjncflbbhldaaDoor
/-! ## TreeAdd -/
set_option maxRecDepth 10000
namespace Go.Proofs.YtccjncflbbhldaaDoor
open Go.Sh Go.RowKit
open Pl (wrap_n tdiv_nat i64_and shr_nat place_word)
section
variable {Q : Value → World → Prop}
theorem nodeh_word {w : World} {k : Int} {b1 b3 : Nat} {l r : Hsh} (st : ShaStd w) (H : Hs w k b1 b3) (hQ : ∀ w', Chg None w w' → Q (.agg (hb (nodeH k l r)).toArray) w') : invk PP (fNode b3) #[.agg (hb l).toArray, .agg (hb r).toArray] w Q := by
  rw [P_inv110]
  exact nodef_word st H l.2 r.2 hQ
theorem laid_lt17 {n : Nat} (h : n ≤ 65536) : laid n ≤ 131072 := by have := laid_le n; omega
theorem addloop {k : Int} {f : Nat → Hsh} {n b b1 b3 p : Nat} {w0 : World} (sd0 : ShaStd w0) (hn : n < 65536)
    (hQ : ∀ a c st w', Tr w' k b b1 b3 a c st (n + 1) → Stored k f (n + 1) st → (∀ x, At a x → w0.heap.size ≤ x) → Chg None w0 w' → Q (.tuple #[.int .i64 (n : Int), .int .i64 0]) w') (hb0 : w0.heap.size ≤ b) (hp0 : w0.heap.size ≤ p) (pb : p ≠ b ∧ p ≠ b1 ∧ p ≠ b3) :
    ∀ (m level : Nat) (a : Option Addr) (c : Nat) (st : List Hsh) (w : World), Tr w k b b1 b3 a c st n → Going k f n level m st → Blk w p 29 (hb (nodeAt k f level m)) → (∀ x, At a x → w0.heap.size ≤ x ∧ x ≠ p) → Chg None w0 w →
    N_p_tlog_Tree_Add.j7 Q (some ⟨b, 0, none⟩) (n : Int) ⟨p, 0, none⟩ (level : Int) (m : Int) w := by
  intro m
  induction m using Nat.strongRecOn with
  | _ m ih =>
  intro level a c st w T G hp ha k0
  have hm65 : m ≤ n := by
    have h1 := G.num
    have h2 := Nat.pow_pos (n := level) (show 0 < 2 by decide)
    have h3 : (m + 1) * 1 ≤ (m + 1) * 2 ^ level := Nat.mul_le_mul_left _ h2
    omega
  have hlev : level ≤ 16 := by
    rcases Nat.lt_or_ge 16 level with g | g
    · exfalso
      have h1 := G.num
      have h2 : 2 ^ 17 ≤ 2 ^ level := Nat.pow_le_pow_right (by decide) g
      have h3 : 1 * 2 ^ level ≤ (m + 1) * 2 ^ level := Nat.mul_le_mul_right _ (by omega)
      have h4 : (2 : Nat) ^ 17 = 131072 := by decide
      omega
    · exact g
  refine N_p_tlog_Tree_Add.j7_eq (h := ?_)
  have hbit : bits .and .i64 (m : Int) 1 = ((m % 2 : Nat) : Int) := by
    have := i64_and m 1 (by omega) (by decide)
    rw [show ((1 : Nat) : Int) = 1 from rfl, Nat.and_one_is_mod] at this
    exact this
  rw [hbit]
  by_cases g : m % 2 = 1
  · refine c_t (by rw [g]; rfl) ?_
    rw [drw_s]
    have T1 := T.chg0 (Chg.drew0 (D := None) w)
    have hp1 := hp.chg (Chg.drew0 (D := None) w) (fun h => h)
    have k1 := k0.none_trans (Chg.drew0 (D := None) w)
    generalize w.drew = w1 at T1 hp1 k1
    rw [opnA_e, opnA_e]
    have r4 : w1.cell? (((⟨b, 0, none⟩ : Addr).add 0).add 3) = some (fNode b3) := T1.box.rd2 0 3 rfl
    have r5 : w1.cell? ((⟨b, 0, none⟩ : Addr).add 4) = some (.slice a st.length c) := T1.box.rd 4 rfl
    refine opnV_c r4 (opnL_c r5 (Blk.rowAll hp1 (n := 32) (hb_len _) ?_))
    have e1 : IntKind.wrap .i64 ((m : Int) - 1) = ((m - 1 : Nat) : Int) := by rw [wrap_id (by omega) (by omega)]; omega
    rw [e1]
    have hmp : (m - 1 + 1) * 2 ^ level ≤ n := by
      have h1 := G.num
      have hpw := Nat.pow_pos (n := level) (show 0 < 2 by decide)
      rw [show m - 1 + 1 = m by omega]
      rw [Nat.add_mul, Nat.one_mul] at h1
      omega
    refine place_word (by omega) (by omega) ?_
    refine opnI_c rfl ⟨Blk.rowAll hp1 (n := 32) (hb_len _) rfl, opnL_c r5 rfl, opnV_c r4 rfl, by omega, ?_⟩
    have hsib := G.sib g
    have hlt : placeOf level (m - 1) < st.length := (List.getElem?_eq_some_iff.1 hsib).1
    refine ⟨by omega, ?_⟩
    rw [Int.toNat_natCast]
    refine rd_row hb_len (by decide) T1.own.lies hsib (n := 32 * 1) rfl ?_
    refine nodeh_word (sd0.chg0 k1) T1.hs fun w2 k2 => ?_
    rw [opnG_s]
    have hp2 := hp1.chg k2 (fun h => h)
    refine Blk.stAll hp2 ?_ ?_ ?_ fun w3 hp3 k3 => ?_
    · exact hb_len _
    · simp [hb_len]
    · exact hb_one _
    have T3 := (T1.chg0 k2).chg k3 (fun e => pb.1 e.symm) (fun e => pb.2.1 e.symm) (fun e => pb.2.2 e.symm) fun x hx => (ha x hx).2
    have k03 : Chg None w0 w3 := Chg.fresh (k1.none_trans k2) k3 fun x hx => by rw [hx]; exact hp0
    rw [drw_s]
    have T4 := T3.chg0 (Chg.drew0 (D := None) w3)
    have hp4 := hp3.chg (Chg.drew0 (D := None) w3) (fun h => h)
    have k04 := k03.none_trans (Chg.drew0 (D := None) w3)
    generalize w3.drew = w4 at T4 hp4 k04
    rw [opnA_e]
    refine opnL_c (T4.box.rd 4 rfl) (Blk.rowAll hp4 (n := 32) (by simp [hb_len]) ⟨by simp [hb_len], ?_⟩)
    refine alC_box fun q w5 hq5 k5 lo5 => ?_
    have T5 := T4.chg0 k5
    refine ⟨opnL_c (T5.box.rd 4 rfl) rfl, ?_⟩
    have hlen := G.len
    have hl17 := laid_lt17 (n := n) (by omega)
    refine tr_push (x := nodeH k (nodeAt k f level (m - 1)) (nodeAt k f level m)) T5 (by simpa using hq5) (by omega) fun a' c' w6 T6 k6 f6 => ?_
    have e2 : IntKind.wrap .i64 ((level : Int) + 1) = ((level + 1 : Nat) : Int) := wrap_nat (by omega)
    have e3 : shrI .i64 (m : Int) 1 = ((m / 2 : Nat) : Int) := by have := shr_nat m 1 (by omega); simpa using this
    rw [e2, e3]
    have k06 : Chg None w0 w6 := Chg.fresh (k04.none_trans k5) k6 fun x hx => by
      rcases hx with h | h
      · exact (ha x h).1
      · rw [h]; exact hb0
    have pq : p ≠ q := fun e => by have := hp4.lt; omega
    have hp6 : Blk w6 p 29 (hb (nodeH k (nodeAt k f level (m - 1)) (nodeAt k f level m))) := by
      have := (hp4.chg k5 (fun h => h)).chg k6 fun h => h.elim (fun h => (ha p h).2 rfl) pb.1
      simpa using this
    refine ih (m / 2) (by omega) (level + 1) a' c' _ w6 T6 (G.step g) ?_ ?_ k06
    · rw [nodeAt, show 2 * (m / 2) = m - 1 by omega, show m - 1 + 1 = m by omega]; exact hp6
    · rcases f6 with rfl | ⟨b', rfl, hlo⟩
      · exact ha
      · rintro x ⟨y, hy, hx⟩
        cases hy
        have hx' : b' = x := hx
        have a1 := k04.size
        have a2 := k5.size
        have a3 := hp4.lt
        exact ⟨by omega, by omega⟩
  · have g0 : m % 2 = 0 := by omega
    refine c_f (by rw [g0]; rfl) ?_
    rw [opnA_e]
    refine opnI_c (T.box.rd 5 rfl) ?_
    rw [opnA_e, wrap_nat (by omega)]
    refine box_set T.box (j := 5) (show 5 < 6 by decide) rfl fun w1 h1 k1 => ?_
    refine hQ a c st w1 ⟨T.hs.chg k1 (fun e => T.d2.1 e.symm) (fun e => T.d2.2 e.symm), h1, T.own.chg k1 fun x hx e => (T.d1 x hx).1 e, T.d1, T.d2⟩ (G.done g0) (fun x hx => (ha x hx).1) (Chg.fresh k0 k1 fun x hx => by rw [hx]; exact hb0)
/-- a record goes in -/
theorem add_word {k : Int} {f : Nat → Hsh} {n b b1 b3 : Nat} {w0 w : World} {a : Option Addr} {c : Nat} {st : List Hsh} (sd0 : ShaStd w0) (hn : n < 65536) (hb0 : w0.heap.size ≤ b) (T : Tr w k b b1 b3 a c st n) (G : Stored k f n st) (ha : ∀ x, At a x → w0.heap.size ≤ x) (k0 : Chg None w0 w)
    (hQ : ∀ a c st w', Tr w' k b b1 b3 a c st (n + 1) → Stored k f (n + 1) st → (∀ x, At a x → w0.heap.size ≤ x) → Chg None w0 w' → Q (.tuple #[.int .i64 (n : Int), .int .i64 0]) w') :
    C_p_tlog_Tree_Add #[.pointer (some ⟨b, 0, none⟩), .agg (hb (f n)).toArray] w Q := by
  refine C_p_tlog_Tree_Add_eq _ _ _ _ ?_
  refine alC_box fun p1 w1 h1 k1 lo1 => ?_
  have T1 := T.chg0 k1
  rw [opnA_e]
  refine opnI_c (T1.box.rd 5 rfl) (c_f (by rw [decide_eq_false]; omega) ?_)
  rw [opnA_e]
  refine opnI_c (T1.box.rd 5 rfl) ?_
  rw [drw_s]
  have T2 := T1.chg0 (Chg.drew0 (D := None) w1)
  have h2 := h1.chg (Chg.drew0 (D := None) w1) (fun h => h)
  have k2 := (k0.none_trans k1).none_trans (Chg.drew0 (D := None) w1)
  generalize w1.drew = w2 at T2 h2 k2
  rw [opnA_e]
  refine opnL_c (T2.box.rd 4 rfl) (Blk.rowAll h2 (n := 32) (by simp [hb_len]) ⟨by simp [hb_len], ?_⟩)
  refine alC_box fun p3 w3 h3 k3 lo3 => ?_
  have T3 := T2.chg0 k3
  refine ⟨opnL_c (T3.box.rd 4 rfl) rfl, ?_⟩
  have hl17 := laid_lt17 (n := n) (by omega)
  refine tr_push (x := f n) T3 (by simpa using h3) (by rw [G.len]; omega) fun a' c' w4 T4 k4 f4 => ?_
  have k04 : Chg None w0 w4 := Chg.fresh (k2.none_trans k3) k4 fun x hx => by
    rcases hx with h | h
    · exact ha x h
    · rw [h]; exact hb0
  have n1 : ¬ (At a p1 ∨ p1 = b) := by
    rintro (h | h)
    · have := T.own.lt h; omega
    · have := T.box.lt; omega
  have h4 := (h2.chg k3 (fun h => h)).chg k4 n1
  refine Blk.rowAll h4 (n := 32) (by simp [hb_len]) ?_
  refine alZ_box zero29 fun p w5 h5 k5 lo5 => ?_
  have T5 := T4.chg0 k5
  refine Blk.stAll h5 ?_ ?_ ?_ fun w6 h6 k6 => ?_
  · simp [hb_len]
  · simp [hb_len]
  · simpa using hb_one (f n)
  have a1 := T4.box.lt
  have a2 := T4.hs.k.lt
  have a3 := T4.hs.f.lt
  have a4 := k04.size
  have ha' : ∀ x, At a' x → w0.heap.size ≤ x ∧ x ≠ p := by
    intro x hx
    have := T4.own.lt hx
    refine ⟨?_, by omega⟩
    rcases f4 with rfl | ⟨b', rfl, hlo⟩
    · exact ha x hx
    · obtain ⟨y, hy, hxx⟩ := hx
      cases hy
      have hx' : b' = x := hxx
      have b1 := k2.size
      have b2 := k3.size
      omega
  have T6 := T5.chg k6 (fun e => by omega) (fun e => by omega) (fun e => by omega) fun x hx => (ha' x hx).2
  have := addloop (Q := Q) (k := k) (f := f) (p := p) sd0 hn hQ hb0 (by omega) ⟨by omega, by omega, by omega⟩ n 0 a' c' _ w6 T6 (Going.start G) (by simpa [nodeAt] using h6) ha' (Chg.fresh (k04.none_trans k5) k6 fun x hx => by rw [hx]; omega)
  exact this
end
end Go.Proofs.YtccjncflbbhldaaDoor
/-! ## TreeRoot -/
set_option maxRecDepth 10000
namespace Go.Proofs.YtccjncflbbhldaaDoor
open Go.Sh Go.RowKit
open Pl (wrap_n tdiv_nat i64_and shr_nat place_word count_word filled_word peaks_word ivs iv)
theorem run149 (k : Int) (b1 b3 : Nat) (w : World) : (Instr.build 149 #[(0, .agg #[.int .i64 k, fOf b1, fLeaf b3, fNode b3])]).run PP w = .ok (.agg #[.int .i64 k, fOf b1, fLeaf b3, fNode b3, .slice none 0 0, .int .i64 0]) w := run_build w 149 _ _ (by kernel_rfl)
theorem build149 {k : Int} {b1 b3 : Nat} {K : Value → Prop} : semP PP (Instr.build 149 #[(0, .agg #[.int .i64 k, fOf b1, fLeaf b3, fNode b3])]) K = K (.agg #[.int .i64 k, fOf b1, fLeaf b3, fNode b3, .slice none 0 0, .int .i64 0]) := by
  unfold semP
  rw [run149]
section
variable {Q : Value → World → Prop} {w : World}
theorem tnew_word {k : Int} (hQ : ∀ b b1 b3 w', Tr w' k b b1 b3 none 0 [] 0 → w.heap.size ≤ b → Chg None w w' → Q (.pointer (some ⟨b, 0, none⟩)) w') : C_tlog_New #[.int .i64 k] w Q := by
  refine C_tlog_New_eq _ _ _ ?_
  refine hasher_word (k := k) fun b1 b3 w1 H lob1 lob3 k1 => ?_
  unfold hasherV
  rw [opnG_s]
  refine ⟨rfl, opnI_c rfl (opnV_c (v := fOf b1) rfl (opnV_c (v := fLeaf b3) rfl (opnV_c (v := fNode b3) rfl ?_)))⟩
  rw [build149, opnG_s]
  refine ⟨rfl, opnI_c rfl (opnV_c (v := fOf b1) rfl (opnV_c (v := fLeaf b3) rfl (opnV_c (v := fNode b3) rfl (opnL_c rfl (opnI_c rfl ?_)))))⟩
  refine alC_box fun b w2 h2 k2 lo2 => ?_
  have H2 := H.chg0 k2
  have a1 := H.k.lt
  have a2 := H.f.lt
  exact hQ b b1 b3 w2 ⟨H2, h2, Own.nil, (by rintro x ⟨p, hp, _⟩; cases hp), by omega, by omega⟩ (Nat.le_trans k1.size lo2) (k1.none_trans k2)
def atL (ls : List Hsh) (i : Nat) : Hsh := ls.getD i zeroH
theorem atL_get {ls : List Hsh} {i : Nat} (h : i < ls.length) : ls[i]? = some (atL ls i) := by simp [atL, h]
theorem buildloop {k : Int} {ls : List Hsh} {a1 : Option Addr} {c1 b b1 b3 : Nat} {S : Nat → Prop} (sd : ShaStd w) (hl : Lies w S a1 (hvs ls)) (h65 : ls.length ≤ 65536) (hb0 : w.heap.size ≤ b)
    (hQ : ∀ a c st w', Stored k (atL ls) ls.length st → Own w' 29 32 a st.length c (hvs st) → (∀ x, At a x → w.heap.size ≤ x) → Chg None w w' → Q (.tuple #[.slice a st.length c, .int .i64 0]) w') :
    ∀ (d i : Nat) (a : Option Addr) (c : Nat) (st : List Hsh) (w1 : World), i + d = ls.length → Tr w1 k b b1 b3 a c st i → Stored k (atL ls) i st → (∀ x, At a x → w.heap.size ≤ x) → Chg None w w1 →
    N_tlog_Build.j5 Q (some ⟨b, 0, none⟩) a1 ls.length c1 ((ls.length : Nat) : Int) (i : Int) w1 := by
  intro d
  induction d with
  | zero =>
    intro i a c st w1 hi T G ha k1
    have hi' : i = ls.length := by omega
    subst hi'
    refine N_tlog_Build.j5_eq (h := c_nlt (by omega) ?_)
    rw [opnA_e]
    exact opnL_c (T.box.rd 4 rfl) (hQ a c st w1 G T.own ha k1)
  | succ d ih =>
    intro i a c st w1 hi T G ha k1
    have hil : i < ls.length := by omega
    refine N_tlog_Build.j5_eq (h := c_lt (by omega) ⟨by omega, by omega, ?_⟩)
    rw [Int.toNat_natCast]
    refine rd_row hb_len (by decide) (hl.chg0 k1) (atL_get hil) (n := 32 * 1) rfl ?_
    refine alZ_box zero29 fun p w2 h2 k2 lo2 => ?_
    refine Blk.stAll h2 ?_ ?_ ?_ fun w3 h3 k3 => ?_
    · simp [hb_len]
    · simp [hb_len]
    · simpa using hb_one (atL ls i)
    refine Blk.rowAll h3 (n := 32) (by simp [hb_len]) ?_
    have a1 := T.box.lt
    have a2 := T.hs.k.lt
    have a3 := T.hs.f.lt
    have T3 := (T.chg0 k2).chg k3 (fun e => by omega) (fun e => by omega) (fun e => by omega) fun x hx => by have := T.own.lt hx; omega
    refine add_word (f := atL ls) (n := i) sd (by omega) hb0 T3 G ha (Chg.fresh (k1.none_trans k2) k3 fun x hx => by have := k1.size; omega) fun a' c' st' w4 T4 G4 ha4 k4 => ?_
    rw [opnT_s]
    refine ⟨rfl, opnI_c rfl (opnI_c rfl ?_)⟩
    rw [wrap_nat (by omega)]
    exact ih (i + 1) a' c' st' w4 (by omega) T4 G4 ha4 k4
theorem build_word {k : Int} {ls : List Hsh} {a1 : Option Addr} {c1 : Nat} {S : Nat → Prop} (sd : ShaStd w) (hl : Lies w S a1 (hvs ls)) (h65 : ls.length ≤ 65536)
    (hQ : ∀ a c st w', Stored k (atL ls) ls.length st → Own w' 29 32 a st.length c (hvs st) → (∀ x, At a x → w.heap.size ≤ x) → Chg None w w' → Q (.tuple #[.slice a st.length c, .int .i64 0]) w') :
    C_tlog_Build #[.int .i64 k, .slice a1 ls.length c1] w Q := by
  refine C_tlog_Build_eq _ _ _ _ _ _ (c_ngt (by omega) ?_)
  refine tnew_word (k := k) fun b b1 b3 w1 T lo k1 => ?_
  rw [opnP_s]
  exact buildloop sd hl h65 lo hQ ls.length 0 none 0 [] w1 (by omega) T Stored.nil (by rintro x ⟨p, hp, _⟩; cases hp) k1
/-- how many records have so many stored hashes -/
theorem records_word {c : Nat} (hc : c ≤ 562949953421311) (hok : laid (recOf c) = c → Q (.tuple #[.int .i64 ((recOf c : Nat) : Int), .int .i64 0]) w) (hno : laid (recOf c) ≠ c → Q (.tuple #[.int .i64 0, .int .i64 80]) w) : C_tlog_Records #[.int .i64 (c : Int)] w Q := by
  refine C_tlog_Records_eq _ _ _ (c_nlt (by omega) ?_)
  rw [show (281474976710656 : Int) = ((281474976710656 : Nat) : Int) from rfl]
  refine count_word (by decide) (opnI_c rfl ?_)
  rw [laid_max]
  refine c_ngt (by omega) ?_
  refine filled_word hc (opnI_c rfl ?_)
  refine count_word (by have := (recOf_is c).1; omega) (opnI_c rfl ?_)
  by_cases g : laid (recOf c) = c
  · refine c_f ?_ (hok g)
    rw [g]; simp
  · refine c_t ?_ (hno g)
    simp only [bne_iff_ne, ne_eq]; omega
theorem recOf_laid {n : Nat} (h : n ≤ 281474976710656) : recOf (laid n) = n := recOf_eq (IsRec.mk h (Nat.le_refl _) fun _ => laid_lt (Nat.lt_succ_self _))
/-- the hash over tops -/
def foldH (k : Int) : List Hsh → Hsh
  | [] => emptyH k
  | [x] => x
  | x :: y :: l => nodeH k x (foldH k (y :: l))
theorem foldH_cons {k : Int} {x : Hsh} {l : List Hsh} (h : l ≠ []) : foldH k (x :: l) = nodeH k x (foldH k l) := by
  cases l with
  | nil => exact absurd rfl h
  | cons y l => rfl
theorem P_inv112 {k : Int} {b1 b3 : Nat} {x y : Value} {K : Value → World → Prop} : invk PP (.func (.func 112) #[.agg #[.int .i64 ((keepK k : Nat) : Int), fOf b1, fLeaf b3, fNode b3]] #[]) #[x, y] w K = C_tlog_hasher_join #[.agg #[.int .i64 ((keepK k : Nat) : Int), fOf b1, fLeaf b3, fNode b3], x, y] w K := rfl
theorem bind_word {k : Int} {b1 b3 : Nat} {l r : Hsh} (sd : ShaStd w) (H : Hs w k b1 b3) (hQ : ∀ w', Chg None w w' → Q (.agg (hb (nodeH k l r)).toArray) w') : invk PP (.func (.func 112) #[.agg #[.int .i64 ((keepK k : Nat) : Int), fOf b1, fLeaf b3, fNode b3]] #[]) #[.agg (hb l).toArray, .agg (hb r).toArray] w Q := by
  rw [P_inv112]
  refine C_tlog_hasher_join_eq _ _ _ _ _ _ _ _ ?_
  refine alC_box fun p1 w1 h1 k1 lo1 => ?_
  refine alC_box fun p3 w2 h3 k2 lo2 => ?_
  refine alC_box fun p5 w3 h5 k3 lo3 => ?_
  refine alZ_box zero29 fun p7 w4 h7 k4 lo4 => ?_
  have k14 := k2.none_trans (k3.none_trans k4)
  refine opnV_c (v := fNode b3) ((h1.chg k14 (fun h => h)).rd 3 rfl) ?_
  refine Blk.rowAll (h3.chg (k3.none_trans k4) (fun h => h)) (n := 32) (by simp [hb_len]) ?_
  refine Blk.rowAll (h5.chg k4 (fun h => h)) (n := 32) (by simp [hb_len]) ?_
  have k04 := k1.none_trans k14
  refine nodeh_word (l := l) (r := r) (sd.chg0 k04) (H.chg0 k04) fun w5 k5 => ?_
  rw [opnG_s]
  refine Blk.stAll (h7.chg k5 (fun h => h)) ?_ ?_ ?_ fun w6 h6 k6 => ?_
  · simp [hb_len]
  · simp [hb_len]
  · simpa using hb_one (nodeH k l r)
  refine Blk.rowAll h6 (n := 32) (by simp [hb_len]) ?_
  have := hQ w6 (Chg.fresh (k04.none_trans k5) k6 fun x hx => by have := (k1.none_trans (k2.none_trans k3)).size; omega)
  simpa using this
theorem foldloop {k : Int} {b1 b3 : Nat} {hs : List Hsh} {a : Option Addr} {c b4 b6 : Nat} {S : Nat → Prop} (sd : ShaStd w) (H : Hs w k b1 b3) (hl : Lies w S a (hvs hs)) (n4 : w.heap.size ≤ b4) (n6 : w.heap.size ≤ b6) (n46 : b4 ≠ b6) (h65 : hs.length ≤ 65536)
    (hQ : ∀ w', Chg None w w' → Q (.agg (hb (foldH k hs)).toArray) w') :
    ∀ (i : Nat) (w1 : World), i < hs.length → (∃ o4, Blk w1 b4 29 (hb o4)) → Blk w1 b6 29 (hb (foldH k (hs.drop i))) → Chg None w w1 →
    N_tlog_fold.j4 Q a hs.length c (.func (.func 112) #[.agg #[.int .i64 ((keepK k : Nat) : Int), fOf b1, fLeaf b3, fNode b3]] #[]) ⟨b4, 0, none⟩ ⟨b6, 0, none⟩ ((i : Int) - 1) w1 := by
  intro i
  induction i with
  | zero =>
    intro w1 hi ⟨o4, h4⟩ h6 k1
    refine N_tlog_fold.j4_eq (h := c_f (by simp) ?_)
    refine Blk.rowAll h6 (n := 32) (by simp [hb_len]) ?_
    refine Blk.stAll h4 ?_ ?_ ?_ fun w2 h2 k2 => ?_
    · simp [hb_len]
    · simp [hb_len]
    · simpa using hb_one _
    refine Blk.rowAll h2 (n := 32) (by simp [hb_len]) ?_
    have := hQ w2 (Chg.fresh k1 k2 fun x hx => by omega)
    simpa using this
  | succ i ih =>
    intro w1 hi ⟨o4, h4⟩ h6 k1
    refine N_tlog_fold.j4_eq (h := c_t (by rw [decide_eq_true]; omega) ?_)
    rw [drw_s]
    have h4' := h4.chg (Chg.drew0 (D := None) w1) (fun h => h)
    have h6' := h6.chg (Chg.drew0 (D := None) w1) (fun h => h)
    have k2 := k1.none_trans (Chg.drew0 (D := None) w1)
    generalize w1.drew = w2 at h4' h6' k2
    have e1 : (((i + 1 : Nat) : Int) - 1) = (i : Int) := by omega
    rw [e1]
    refine ⟨by omega, by omega, ?_⟩
    rw [Int.toNat_natCast]
    refine rd_row hb_len (by decide) (hl.chg0 k2) (atL_get (ls := hs) (i := i) (by omega)) (n := 32 * 1) rfl ?_
    refine Blk.rowAll h6' (n := 32) (by simp [hb_len]) ?_
    refine bind_word (l := atL hs i) (r := foldH k (hs.drop (i + 1))) (sd.chg0 k2) (H.chg0 k2) fun w3 k3 => ?_
    rw [opnG_s]
    refine Blk.stAll (h6'.chg k3 (fun h => h)) ?_ ?_ ?_ fun w4 h6b k4 => ?_
    · simp [hb_len]
    · simp [hb_len]
    · simpa using hb_one _
    rw [wrap_id (by omega) (by omega)]
    have ed : hs.drop i = atL hs i :: hs.drop (i + 1) := by
      rw [List.drop_eq_getElem_cons (show i < hs.length by omega)]; simp [atL, show i < hs.length by omega]
    have ef : foldH k (hs.drop i) = nodeH k (atL hs i) (foldH k (hs.drop (i + 1))) := by
      rw [ed, foldH_cons]
      intro h
      have := congrArg List.length h
      simp at this
      omega
    refine ih w4 (by omega) ⟨o4, (h4'.chg k3 (fun h => h)).chg k4 n46⟩ ?_ (Chg.fresh (k2.none_trans k3) k4 fun x hx => by omega)
    rw [ef]; simpa using h6b
theorem zero29h : ((PP.info? 29).bind (·.zero)).map (·.cells) = some (hb zeroH).toArray := by kernel_rfl
theorem root_word {k : Int} {b1 b3 : Nat} {hs : List Hsh} {a : Option Addr} {c : Nat} {S : Nat → Prop} (sd : ShaStd w) (H : Hs w k b1 b3) (hl : Lies w S a (hvs hs)) (h65 : hs.length ≤ 65536)
    (hQ : ∀ w', Chg None w w' → Q (.agg (hb (foldH k hs)).toArray) w') :
    C_tlog_hasher_root #[.agg #[.int .i64 ((keepK k : Nat) : Int), fOf b1, fLeaf b3, fNode b3], .slice a hs.length c] w Q := by
  refine C_tlog_hasher_root_eq _ _ _ _ _ _ _ _ _ ?_
  refine alC_box fun p1 w1 h1 k1 lo1 => ?_
  refine alZ_box zero29h fun p3 w2 h3 k2 lo2 => ?_
  have h1' := h1.chg k2 (fun h => h)
  have k02 := k1.none_trans k2
  have h3' : Blk w2 p3 29 (hb zeroH) := by simpa using h3
  have n13 := k1.size
  by_cases g : hs.length = 0
  · refine c_t (by rw [g]; rfl) ?_
    refine opnV_c (v := fOf b1) (h1'.rd 1 rfl) ?_
    rw [P_inv107]
    have := of_word (Q := fun v6 w7 => opnG (some v6) fun x8 => stRow ⟨p3, 0, none⟩ x8 (32 * 1) w7 fun w9 => opnRow w9 ⟨p3, 0, none⟩ (32 * 1) fun x10 => Q (.agg x10) w9) (k := k) (p := []) (a := none) (c := 0) (S := fun _ => True) (sd.chg0 k02) (H.chg0 k02) Lies.nil (by decide) (by decide) fun w3 k3 => by
      rw [opnG_s]
      refine Blk.stAll (h3'.chg k3 (fun h => h)) ?_ ?_ ?_ fun w4 h4 k4 => ?_
      · exact hb_len (emptyH k)
      · exact (hb_len (emptyH k)).trans (hb_len zeroH).symm
      · exact hb_one (emptyH k)
      refine Blk.rowAll h4 (n := 32) (hb_len (emptyH k)) ?_
      have e : hs = [] := List.eq_nil_of_length_eq_zero g
      have := hQ w4 (Chg.fresh (k02.none_trans k3) k4 fun x hx => by omega)
      rw [e] at this
      exact this
    exact this
  · refine c_f (by simp only [beq_eq_false_iff_ne, ne_eq]; omega) ?_
    refine opnI_c (h1'.rd 0 rfl) (opnV_c (v := fOf b1) (h1'.rd 1 rfl) (opnV_c (v := fLeaf b3) (h1'.rd 2 rfl) (opnV_c (v := fNode b3) (h1'.rd 3 rfl) ?_)))
    refine C_tlog_fold_eq _ _ _ _ _ _ ?_
    refine alZ_box zero29h fun p5 w3 h5 k3 lo3 => ?_
    have el : IntKind.wrap .i64 (((hs.length : Nat) : Int) - 1) = ((hs.length - 1 : Nat) : Int) := by rw [wrap_id (by omega) (by omega)]; omega
    rw [el]
    refine ⟨by omega, by omega, ?_⟩
    rw [Int.toNat_natCast]
    have k03 := k02.none_trans k3
    refine rd_row hb_len (by decide) (hl.chg0 k03) (atL_get (ls := hs) (i := hs.length - 1) (by omega)) (n := 32 * 1) rfl ?_
    refine alZ_box zero29h fun p6 w4 h6 k4 lo4 => ?_
    refine Blk.stAll h6 ?_ ?_ ?_ fun w5 h6b k5 => ?_
    · simp [hb_len]
    · simp [hb_len]
    · simpa using hb_one _
    rw [wrap_id (n := ((hs.length - 1 : Nat) : Int) - 1) (by omega) (by omega)]
    have s3 := k3.size
    have s2 := k2.size
    have l5 := h5.lt
    have n56 : p5 ≠ p6 := by omega
    have k25 := Chg.fresh (k3.none_trans k4) k5 fun x hx => by omega
    have l3 := h3'.lt
    refine foldloop (w := w2) (sd.chg0 k02) (H.chg0 k02) (hl.chg0 k02) (by omega) (by omega) n56 h65 (fun w6 k6 => ?_) (hs.length - 1) w5 (by omega) ⟨zeroH, by simpa using (h5.chg k4 (fun h => h)).chg k5 n56⟩ ?_ k25
    · rw [opnG_s]
      refine Blk.stAll (h3'.chg k6 (fun h => h)) ?_ ?_ ?_ fun w7 h7 k7 => ?_
      · simp [hb_len]
      · simp [hb_len]
      · simpa using hb_one _
      refine Blk.rowAll h7 (n := 32) (by simp [hb_len]) ?_
      have := hQ w7 (Chg.fresh (k02.none_trans k6) k7 fun x hx => by omega)
      simpa using this
    · have ed : hs.drop (hs.length - 1) = [atL hs (hs.length - 1)] := by
        rw [List.drop_eq_getElem_cons (show hs.length - 1 < hs.length by omega), List.drop_eq_nil_of_le (by omega)]; simp [atL, show hs.length - 1 < hs.length by omega]
      rw [ed]; simpa [foldH] using h6b
end
end Go.Proofs.YtccjncflbbhldaaDoor
/-! ## TreeAll -/
set_option maxRecDepth 10000
namespace Go.Proofs.YtccjncflbbhldaaDoor
open Go.Sh Go.RowKit
open Pl (wrap_n tdiv_nat i64_and shr_nat place_word count_word filled_word peaks_word ivs iv)
theorem place_lt_laid {n m j : Nat} (h : (j + 1) * 2 ^ m ≤ n) : placeOf m j < laid n := by
  have h1 := laid_step m (j + 1) (by omega)
  have h2 := laid_mono h
  unfold placeOf
  omega
theorem peak_node {n m : Nat} (hb : n / 2 ^ m % 2 = 1) : (n / 2 ^ (m + 1) * 2 + 1) * 2 ^ m ≤ n := by
  have e : n / 2 ^ (m + 1) * 2 + 1 = n / 2 ^ m := by
    rw [Nat.pow_succ, ← Nat.div_div_eq_div_mul]; omega
  rw [e]
  exact Nat.div_mul_le_self _ _
theorem peaksTo_lt {n : Nat} : ∀ m, ∀ p ∈ peaksTo n m, p < laid n
  | 0, p, h => by simp [peaksTo] at h
  | m + 1, p, h => by
    unfold peaksTo at h
    split at h
    · next hb =>
      rcases List.mem_cons.1 h with rfl | h
      · exact place_lt_laid (peak_node hb)
      · exact peaksTo_lt m p h
    · exact peaksTo_lt m p h
theorem peaksOf_lt {n N p : Nat} (hn : n ≤ N) (h : p ∈ peaksOf n) : p < laid N := by
  have := peaksTo_lt 49 p h
  have := laid_mono hn
  omega
section
variable {Q : Value → World → Prop} {w : World}
theorem hvs_zero (n : Nat) : hvs (List.replicate n zeroH) = List.replicate (n * 32) (.int .u8 0) := by
  have h0 : hb zeroH = List.replicate 32 (Value.int .u8 0) := by rw [hb, zeroH, bvs, List.map_replicate]; rfl
  induction n with
  | zero => rfl
  | succ n ih => rw [List.replicate_succ, hvs, List.flatMap_cons]; show hb zeroH ++ hvs (List.replicate n zeroH) = _; rw [h0, ih, List.replicate_append_replicate]; congr 1; omega
theorem rd_int {S : Nat → Prop} {a : Option Addr} {l : List Nat} (h : Lies w S a (ivs l)) {i x : Nat} (hx : l[i]? = some x) {K : Int → Prop} (hK : K (x : Int)) : opnA a fun ad => opnI .i64 (w.cell? (ad.add (i * 1))) K := by
  obtain ⟨p, rfl, _, hc⟩ := h i (iv x) (by simp [ivs, hx])
  rw [opnA_e, Nat.mul_one]
  exact opnI_c hc hK
theorem pickloop {st : List Hsh} {ps : List Nat} {a0 a1 : Option Addr} {c0 c1 b : Nat} {S0 S1 : Nat → Prop} (h0 : Lies w S0 a0 (hvs st)) (h1 : Lies w S1 a1 (ivs ps)) (hps : ∀ p ∈ ps, p < st.length) (hb0 : w.heap.size ≤ b) (h63 : ps.length ≤ 1000000)
    (hQ : ∀ w', Own w' 29 32 (some ⟨b, 0, none⟩) ps.length ps.length (hvs (ps.map (atL st))) → Chg None w w' → Q (.slice (some ⟨b, 0, none⟩) ps.length ps.length) w') :
    ∀ (d i : Nat) (l : List Hsh) (w1 : World), i + d = ps.length → l.length = ps.length → (∀ j p, j < i → ps[j]? = some p → l[j]? = some (atL st p)) → Own w1 29 32 (some ⟨b, 0, none⟩) ps.length ps.length (hvs l) → Chg None w w1 →
    N_tlog_pick.j3 Q a0 st.length c0 (some ⟨b, 0, none⟩) ps.length ps.length a1 ps.length c1 ((ps.length : Nat) : Int) (i : Int) w1 := by
  intro d
  induction d with
  | zero =>
    intro i l w1 hi hl hd o k1
    refine N_tlog_pick.j3_eq (h := c_nlt (by omega) ?_)
    have : l = ps.map (atL st) := by
      apply List.ext_getElem?
      intro j
      rcases Nat.lt_or_ge j ps.length with g | g
      · rw [hd j ps[j] (by omega) (List.getElem?_eq_getElem g), List.getElem?_map, List.getElem?_eq_getElem g]; rfl
      · rw [List.getElem?_eq_none (by omega), List.getElem?_eq_none (by simpa using g)]
    subst this
    exact hQ w1 o k1
  | succ d ih =>
    intro i l w1 hi hl hd o k1
    have hil : i < ps.length := by omega
    refine N_tlog_pick.j3_eq (h := c_lt (by omega) ⟨by omega, by omega, ?_⟩)
    rw [Int.toNat_natCast]
    have hp := hps ps[i] (List.getElem_mem hil)
    refine rd_int (h1.chg0 k1) (List.getElem?_eq_getElem hil) ⟨by omega, by omega, ?_⟩
    rw [Int.toNat_natCast]
    refine rd_row hb_len (by decide) (h0.chg0 k1) (atL_get hp) (n := 32 * 1) rfl ⟨by omega, by omega, ?_⟩
    refine st_row hb_len o (i := i) (by omega) (atL st ps[i]) (by decide) (hb_one _) (m := 32 * 1) rfl fun w2 o2 k2 => ?_
    rw [wrap_nat (by omega)]
    refine ih (i + 1) (l.set i (atL st ps[i])) w2 (by omega) (by simpa using hl) (fun j p hj hp' => ?_) o2 (Chg.fresh k1 k2 fun x hx => by obtain ⟨q, hq, hx⟩ := hx; cases hq; have : b = x := hx; omega)
    rcases Nat.lt_or_ge j i with g | g
    · rw [List.getElem?_set_ne (by omega)]; exact hd j p g hp'
    · have e : j = i := by omega
      subst e
      rw [List.getElem?_set_self (by omega)]
      rw [List.getElem?_eq_getElem hil] at hp'
      cases hp'; rfl
theorem pick_word {st : List Hsh} {ps : List Nat} {a0 a1 : Option Addr} {c0 c1 : Nat} {S0 S1 : Nat → Prop} (h0 : Lies w S0 a0 (hvs st)) (h1 : Lies w S1 a1 (ivs ps)) (hps : ∀ p ∈ ps, p < st.length) (h63 : ps.length ≤ 1000000)
    (hQ : ∀ b w', Own w' 29 32 (some ⟨b, 0, none⟩) ps.length ps.length (hvs (ps.map (atL st))) → w.heap.size ≤ b → Chg None w w' → Q (.slice (some ⟨b, 0, none⟩) ps.length ps.length) w') :
    C_tlog_pick #[.slice a0 st.length c0, .slice a1 ps.length c1] w Q := by
  refine C_tlog_pick_eq _ _ _ _ _ _ _ _ ?_
  refine make_same T22 (v := .int .u8 0) zero29 (Nat.le_refl _) (by omega) (by omega) fun b w1 o1 k1 lo1 => ?_
  rw [opnL_s]
  rw [← hvs_zero] at o1
  exact pickloop h0 h1 hps lo1 h63 (fun w' o k => hQ b w' o lo1 k) ps.length 0 _ w1 (by omega) (by simp) (fun j p hj => by omega) o1 k1
/-- the root of the first n records -/
def rootH (k : Int) (st : List Hsh) (n : Nat) : Hsh := foldH k ((peaksOf n).map (atL st))
theorem troot_word {k : Int} {st : List Hsh} {a0 : Option Addr} {c0 n N : Nat} {S0 : Nat → Prop} (sd : ShaStd w) (h0 : Lies w S0 a0 (hvs st)) (hst : st.length = laid N) (hN : N ≤ 65536) (hn : n ≤ N)
    (hQ : ∀ w', Chg None w w' → Q (.tuple #[.agg (hb (rootH k st n)).toArray, .int .i64 0]) w') :
    C_tlog_Root #[.int .i64 k, .slice a0 st.length c0, .int .i64 (n : Int)] w Q := by
  refine C_tlog_Root_eq _ _ _ _ _ _ _ ?_
  refine alZ_box zero29h fun p1 w1 h1 k1 lo1 => ?_
  have hl : laid N ≤ 131071 := by
    have := laid_mono hN
    have e : laid 65536 = 131071 := by have := laid_two_pow 16; simpa using this
    omega
  refine c_ngt (by omega) ?_
  refine records_word (by omega) (fun _ => ?_) (fun h => absurd (by rw [hst, recOf_laid (by omega)]) h)
  rw [hst, recOf_laid (by omega), opnT_s]
  refine ⟨rfl, opnI_c rfl (opnI_c rfl (c_f rfl (c_nlt (by omega) (c_ngt (by omega) ?_))))⟩
  refine hasher_word (k := k) fun b1 b3 w2 H _ _ k2 => ?_
  unfold hasherV
  rw [opnG_s]
  refine ⟨rfl, opnI_c rfl (opnV_c (v := fOf b1) rfl (opnV_c (v := fLeaf b3) rfl (opnV_c (v := fNode b3) rfl ?_)))⟩
  refine peaks_word (by omega) fun ap cp w3 op fp k3 => ?_
  rw [opnL_s]
  have k03 := k1.none_trans (k2.none_trans k3)
  rw [← hst]
  have hpl : (peaksOf n).length ≤ 49 := peaksTo_len n 49
  refine pick_word (h0.chg0 k03) op.lies (fun p hp => by rw [hst]; exact peaksOf_lt hn hp) (by omega) fun b w4 o4 lo4 k4 => ?_
  rw [opnL_s]
  have ho := o4.lies
  have e : (peaksOf n).length = ((peaksOf n).map (atL st)).length := by simp
  have k04 := k03.none_trans k4
  have H4 := (H.chg0 k3).chg0 k4
  have sd4 := sd.chg0 k04
  have hf : ∀ m, m = ((peaksOf n).map (atL st)).length → C_tlog_hasher_root #[.agg #[.int .i64 ((keepK k : Nat) : Int), fOf b1, fLeaf b3, fNode b3], .slice (some ⟨b, 0, none⟩) m m] w4 (fun v31 w32 => opnG (some v31) fun x33 => stRow ⟨p1, 0, none⟩ x33 (32 * 1) w32 fun w34 => opnRow w34 ⟨p1, 0, none⟩ (32 * 1) fun x35 => Q (.tuple #[.agg x35, .int .i64 0]) w34) := by
    intro m hm
    subst hm
    refine root_word sd4 H4 ho (by rw [← e]; omega) fun w5 k5 => ?_
    rw [opnG_s]
    have h5 := ((h1.chg (k2.none_trans k3) (fun h => h)).chg k4 (fun h => h)).chg k5 (fun h => h)
    refine Blk.stAll h5 ?_ ?_ ?_ fun w6 h6 k6 => ?_
    · simp [hb_len]
    · simp [hb_len]
    · simpa using hb_one _
    refine Blk.rowAll h6 (n := 32) (by simp [hb_len]) ?_
    have := hQ w6 (Chg.fresh (k04.none_trans k5) k6 fun x hx => by omega)
    simpa [rootH] using this
  exact hf _ e
theorem numw {n : Int} (h : Q (.int .i64 n) w) : C_l10_num #[.int .i64 n] w Q := C_l10_num_eq _ _ _ h
/-- the leaves of the statements' tree -/
def leafOf (k : Int) (salt : UInt8) (i : Nat) : Hsh := leafH k [UInt8.ofNat i, UInt8.ofNat (i / 256), salt]
def leavesOf (k : Int) (salt : UInt8) (n : Nat) : List Hsh := (List.range n).map (leafOf k salt)
theorem leavesOf_succ (k : Int) (salt : UInt8) (n : Nat) : leavesOf k salt (n + 1) = leavesOf k salt n ++ [leafOf k salt n] := by simp [leavesOf, List.range_succ]
theorem leavesOf_len (k : Int) (salt : UInt8) (n : Nat) : (leavesOf k salt n).length = n := by simp [leavesOf]
theorem leavesOf_at (k : Int) (salt : UInt8) (n j : Nat) (h : j < n) : atL (leavesOf k salt n) j = leafOf k salt j := by simp [atL, leavesOf, h]
theorem treeloop {w0 : World} {k : Int} {salt : UInt8} {n b7 : Nat} (sd : ShaStd w) (hn : n ≤ 65536) (lo7 : w0.heap.size ≤ b7) (k0 : Chg None w0 w) (h70 : Blk w b7 29 (hb zeroH))
    (hQ : ∀ a c st w', Stored k (leafOf k salt) n st → Own w' 29 32 a st.length c (hvs st) → (∀ x, At a x → w0.heap.size ≤ x) → Chg None w0 w' → Q (.tuple #[.slice a st.length c, .agg (hb (rootH k st n)).toArray, .bool true]) w') :
    ∀ (d i : Nat) (a : Option Addr) (c : Nat) (w1 : World), i + d = n → Own w1 29 32 a i c (hvs (leavesOf k salt i)) → (∀ x, At a x → w.heap.size ≤ x) → Chg None w w1 →
    N_l10_tree.j3 Q k (n : Int) (salt.toNat : Int) ⟨b7, 0, none⟩ a i c (i : Int) w1 := by
  intro d
  induction d with
  | zero =>
    intro i a c w1 hi o ha k1
    have h7 := h70.chg k1 (fun h => h)
    have hi' : i = n := by omega
    subst hi'
    refine N_l10_tree.j3_eq (h := c_nlt (by omega) ?_)
    have key : ∀ m, m = (leavesOf k salt i).length → ∀ (K : Value → World → Prop), (∀ a2 c2 st w2, Stored k (leafOf k salt) i st → Own w2 29 32 a2 st.length c2 (hvs st) → (∀ x, At a2 x → w1.heap.size ≤ x) → Chg None w1 w2 → K (.tuple #[.slice a2 st.length c2, .int .i64 0]) w2) → C_tlog_Build #[.int .i64 k, .slice a m c] w1 K := by
      intro m hm K hK
      subst hm
      refine build_word (sd.chg0 k1) o.lies (by rw [leavesOf_len]; exact hn) fun a2 c2 st w2 G o2 ha2 k2 => ?_
      rw [leavesOf_len] at G
      exact hK a2 c2 st w2 (G.congr fun j hj => leavesOf_at k salt i j hj) o2 ha2 k2
    refine key i (leavesOf_len k salt i).symm _ fun a2 c2 st w2 G o2 ha2 k2 => ?_
    rw [opnT_s]
    refine ⟨rfl, opnL_c rfl (opnI_c rfl ?_)⟩
    have k02 := k1.none_trans k2
    refine troot_word (sd.chg0 k02) o2.lies G.len hn (Nat.le_refl _) fun w3 k3 => ?_
    rw [opnT_s]
    have o3 := o2.chg0 k3
    have h73 := (h7.chg k2 (fun h => h)).chg k3 (fun h => h)
    have k03 := k02.none_trans k3
    have hx : ∀ x, At a2 x → x < w3.heap.size := fun x hx => o3.lt hx
    refine ⟨rfl, ?_⟩
    show opnG (some (.agg (hb (rootH k st i)).toArray)) _
    rw [opnG_s]
    refine opnI_c rfl ?_
    refine alZ_box zero29h fun p w4 h4 k4 lo4 => ?_
    refine Blk.stAll h4 ?_ ?_ ?_ fun w5 h5 k5 => ?_
    · simp [hb_len]
    · simp [hb_len]
    · simpa using hb_one _
    have lx7 := h73.lt
    have o5 := (o3.chg0 k4).chg k5 fun x h e => by have := hx x h; omega
    have h75 := (h73.chg k4 (fun h => h)).chg k5 (fun e => by omega)
    have sz1 := (k0.none_trans k03).size
    have k05 := Chg.fresh ((k0.none_trans k03).none_trans k4) k5 fun x hx => by omega
    have fin : ∀ b w6, b = true → Chg None w5 w6 → opnRow w6 ⟨p, 0, none⟩ (32 * 1) (fun x => x = (hb (rootH k st i)).toArray) → stRow ⟨b7, 0, none⟩ (hb (rootH k st i)).toArray (32 * 1) w6 fun w35 => opnRow w35 ⟨b7, 0, none⟩ (32 * 1) fun x36 => Q (.tuple #[.slice a2 st.length c2, .agg x36, .bool b]) w35 := by
      intro b w6 hb' k6 _
      subst hb'
      refine Blk.stAll (h75.chg k6 (fun h => h)) ?_ ?_ ?_ fun w7 h7' k7 => ?_
      · simp [hb_len]
      · simp [hb_len]
      · simpa using hb_one _
      refine Blk.rowAll h7' (n := 32) (by simp [hb_len]) ?_
      have := hQ a2 c2 st w7 G ((o5.chg0 k6).chg k7 fun x h e => by
          have h1 := ha2 x h
          have h2 := h7.lt
          omega) (fun x h => by have h1 := ha2 x h; have h2 := (k0.none_trans k1).size; omega) (Chg.fresh (k05.none_trans k6) k7 fun x hx => by omega)
      simpa using this
    have hlen := G.len
    have hge := laid_ge i
    by_cases g : (i : Int) = 0
    · refine c_t (by rw [g]; rfl) ?_
      rw [drw_s]
      have h5' := h5.chg (Chg.drew0 (D := None) w5) (fun h => h)
      have k6 := Chg.drew0 (D := None) w5
      generalize w5.drew = w6 at h5' k6
      refine Blk.rowAll h5' (n := 32) (by simp [hb_len]) (numw (opnI_c rfl ⟨Blk.rowAll h5' (n := 32) (by simp [hb_len]) rfl, c_t rfl (numw (opnI_c rfl ⟨Blk.rowAll h5' (n := 32) (by simp [hb_len]) rfl, c_t rfl ?_⟩))⟩))
      have := fin (((st.length : Nat) : Int) == 0) w6 (by rw [hlen, show i = 0 by omega, laid_zero]; rfl) k6 (Blk.rowAll h5' (n := 32) (by simp [hb_len]) (by simp))
      simpa using this
    · refine c_f (by simpa using g) ?_
      rw [drw_s]
      have h5' := h5.chg (Chg.drew0 (D := None) w5) (fun h => h)
      have k6 := Chg.drew0 (D := None) w5
      generalize w5.drew = w6 at h5' k6
      refine Blk.rowAll h5' (n := 32) (by simp [hb_len]) (numw (opnI_c rfl ⟨Blk.rowAll h5' (n := 32) (by simp [hb_len]) rfl, c_t rfl (numw (opnI_c rfl ⟨Blk.rowAll h5' (n := 32) (by simp [hb_len]) rfl, c_t rfl ?_⟩))⟩))
      have := fin (decide (((st.length : Nat) : Int) ≥ (i : Int))) w6 (by rw [decide_eq_true]; omega) k6 (Blk.rowAll h5' (n := 32) (by simp [hb_len]) (by simp))
      simpa using this
  | succ d ih =>
    intro i a c w1 hi o ha k1
    have h7 := h70.chg k1 (fun h => h)
    refine N_l10_tree.j3_eq (h := c_lt (by omega) ?_)
    have e1 : (Value.int .u8 (IntKind.wrap .u8 (i : Int))) = bv (UInt8.ofNat i) := (u8_eq i).symm
    have e2 : (Value.int .u8 (IntKind.wrap .u8 (shrI .i64 (i : Int) 8))) = bv (UInt8.ofNat (i / 256)) := by
      have := shr_nat i 8 (by omega)
      rw [show ((8 : Nat) : Int) = 8 from rfl] at this
      rw [this]; exact (u8_eq (i / 256)).symm
    rw [e1, e2]
    refine alC_box fun p w2 h2 k2 lo2 => ?_
    have hl : Lies w2 (fun _ => True) (some ⟨p, 0, none⟩) (bvs [UInt8.ofNat i, UInt8.ofNat (i / 256), salt]) := (h2.lies trivial)
    refine leaf_word (k := k) (d := [UInt8.ofNat i, UInt8.ofNat (i / 256), salt]) (sd.chg0 (k1.none_trans k2)) hl (show 3 ≤ 3 by decide) (show 3 ≤ 1000000000 by decide) fun w3 k3 => ?_
    rw [opnG_s]
    refine ⟨by simp [hb_len], ?_⟩
    have k03 := k1.none_trans (k2.none_trans k3)
    have o3 := (o.chg0 k2).chg0 k3
    refine push_struct T22 (w0 := w) (a := a) (l := hvs (leavesOf k salt i)) o3 ha k03 (by simp [hb_len]) (by simpa using hb_one _) (by omega) (by omega) fun a4 c4 w4 o4 f4 k4 => ?_
    rw [wrap_nat (by omega)]
    refine ih (i + 1) a4 c4 w4 (by omega) ?_ f4 k4
    rw [leavesOf_succ, hvs, List.flatMap_append]
    simpa [leafOf] using o4
theorem tree_word {k : Int} {salt : UInt8} {n : Nat} (sd : ShaStd w) (hn : n ≤ 65536)
    (hQ : ∀ a c st w', Stored k (leafOf k salt) n st → Own w' 29 32 a st.length c (hvs st) → (∀ x, At a x → w.heap.size ≤ x) → Chg None w w' → Q (.tuple #[.slice a st.length c, .agg (hb (rootH k st n)).toArray, .bool true]) w') :
    C_l10_tree #[.int .i64 k, .int .i64 (n : Int), .int .u8 (salt.toNat : Int)] w Q := by
  refine C_l10_tree_eq _ _ _ _ _ ?_
  refine alZ_box zero29h fun b7 w1 h1 k1 lo1 => ?_
  exact treeloop (w0 := w) (sd.chg0 k1) hn lo1 k1 (by simpa using h1) hQ n 0 none 0 w1 (by omega) Own.nil (by rintro x ⟨p, hp, _⟩; cases hp) (Chg.refl _ _)
end
end Go.Proofs.YtccjncflbbhldaaDoor
/-! ## FromTree -/
set_option maxRecDepth 10000
namespace Go.Proofs.YtccjncflbbhldaaDoor
open Go.Sh Go.RowKit
open Pl (wrap_n tdiv_nat i64_and shr_nat shl_nat nn_nat wid cnt width_word index_word wrap_mul idxOk)
open Go.ChangeShapes (block_add)
def bytesOf (l : List Hsh) : List UInt8 := l.flatMap (·.1)
theorem bvs_bytesOf (l : List Hsh) : bvs (bytesOf l) = hvs l := by
  induction l with
  | nil => rfl
  | cons x l ih => rw [bytesOf, List.flatMap_cons, bvs_app]; show _ ++ bvs (bytesOf l) = _; rw [ih]; rfl
theorem bytesOf_len (l : List Hsh) : (bytesOf l).length = 32 * l.length := by
  have := congrArg List.length (bvs_bytesOf l)
  rw [bvs_len, hvs_len] at this; omega
/-- the hashes of a tile -/
def tileHs (st : List Hsh) (h l n wd : Nat) : List Hsh := (List.range wd).map fun i => atL st (placeOf (h * l) (n * 2 ^ h + i))
theorem tileHs_len (st : List Hsh) (h l n wd : Nat) : (tileHs st h l n wd).length = wd := by simp [tileHs]
theorem tileHs_succ (st : List Hsh) (h l n wd : Nat) : tileHs st h l n (wd + 1) = tileHs st h l n wd ++ [atL st (placeOf (h * l) (n * 2 ^ h + wd))] := by simp [tileHs, List.range_succ]
theorem okT_nat {t : Tl} (h : okT t) : ∃ h l n wd : Nat, t = ⟨h, l, n, wd, t.D⟩ ∧ 1 ≤ h ∧ h ≤ 8 ∧ 1 ≤ wd ∧ wd ≤ 2 ^ h ∧ h * l ≤ 48 ∧ (n * 2 ^ h + wd) * 2 ^ (h * l) ≤ 281474976710656 := by
  obtain ⟨h1, h2, h3, h4, h5, h6, h7, h8, h9⟩ := h
  obtain ⟨H, L, N, W, D⟩ := t
  simp only at h1 h2 h3 h4 h5 h6 h7 h8 h9
  obtain ⟨h, rfl⟩ := Int.eq_ofNat_of_zero_le (show 0 ≤ H by omega)
  obtain ⟨l, rfl⟩ := Int.eq_ofNat_of_zero_le h5
  obtain ⟨n, rfl⟩ := Int.eq_ofNat_of_zero_le h6
  obtain ⟨wd, rfl⟩ := Int.eq_ofNat_of_zero_le (show 0 ≤ W by omega)
  have e : ((h : Int) * (l : Int)).toNat = h * l := by rw [← Int.natCast_mul, Int.toNat_natCast]
  rw [e] at h9
  rw [Int.toNat_natCast] at h4 h9
  have e8 : h * l ≤ 48 := by rw [← Int.natCast_mul] at h8; omega
  refine ⟨h, l, n, wd, rfl, by omega, by omega, by omega, ?_, e8, ?_⟩
  · have : ((2 ^ h : Nat) : Int) = (2 : Int) ^ h := by simp
    omega
  · have e2 : (n : Int) * 2 ^ h + (wd : Int) = ((n * 2 ^ h + wd : Nat) : Int) := by simp
    have e3 : (281474976710656 : Int) / 2 ^ (h * l) = ((281474976710656 / 2 ^ (h * l) : Nat) : Int) := by simp
    rw [e2, e3] at h9
    have h10 : n * 2 ^ h + wd ≤ 281474976710656 / 2 ^ (h * l) := by omega
    exact Nat.le_trans (Nat.mul_le_mul_right _ h10) (Nat.div_mul_le_self _ _)
/-- a tile no wider than it is in the tree: its nodes are there -/
theorem wid_fits {h l n wd size : Nat} (h1 : 1 ≤ wd) (hw : wd ≤ wid h l n size) : (n * 2 ^ h + wd) * 2 ^ (h * l) ≤ size := by
  unfold wid at hw
  split at hw
  · omega
  · split at hw
    · omega
    · have : n * 2 ^ h + wd ≤ cnt h l size := by omega
      unfold cnt at this
      exact Nat.le_trans (Nat.mul_le_mul_right _ this) (Nat.div_mul_le_self _ _)
section
variable {Q : Value → World → Prop} {w : World}
theorem lies_row {S : Nat → Prop} {p : Addr} {l : List Hsh} (h : Lies w S (some p) (hvs l)) {i : Nat} {x : Hsh} (hx : l[i]? = some x) : Lies w S (some (p.add (i * 32))) (hb x) := fun j v hv => by
  have hj : j < 32 := by have := (List.getElem?_eq_some_iff.1 hv).1; rwa [hb_len] at this
  obtain ⟨q, hq, hS, hc⟩ := h (i * 32 + j) v (by rw [flat_get hb 32 hb_len l _ j x hx hj]; exact hv)
  cases hq
  exact ⟨_, rfl, by rw [block_add]; exact hS, by rw [add_add']; exact hc⟩
theorem fromloop {h l n wd size b : Nat} {D : Bool} {st : List Hsh} {a0 : Option Addr} {c0 : Nat} {S : Nat → Prop} (hst : Lies w S a0 (hvs st)) (h8 : h ≤ 8) (hl48 : h * l ≤ 48) (hwd : wd ≤ 256) (hfit : 1 ≤ wd → (n * 2 ^ h + wd) * 2 ^ (h * l) ≤ size) (hs : size ≤ 281474976710656) (hlen : st.length = laid size) (hb : Blk w b 24 (tv ⟨h, l, n, wd, D⟩))
    (hQ : ∀ a c w', Own w' 5 1 a (32 * wd) c (bvs (bytesOf (tileHs st h l n wd))) → (∀ x, At a x → w.heap.size ≤ x) → Chg None w w' → Q (.tuple #[.slice a (32 * wd) c, .int .i64 0]) w') :
    ∀ (d i : Nat) (a : Option Addr) (c : Nat) (w1 : World), i + d = wd → Own w1 5 1 a (32 * i) c (bvs (bytesOf (tileHs st h l n i))) → (∀ x, At a x → w.heap.size ≤ x) → Chg None w w1 →
    N_tile_FromTree.j12 Q a0 st.length c0 ⟨b, 0, none⟩ a (32 * i) c (wd : Int) (i : Int) w1 := by
  intro d
  induction d with
  | zero =>
    intro i a c w1 hi o ha k1
    have hi' : i = wd := by omega
    subst hi'
    exact N_tile_FromTree.j12_eq (h := c_nlt (by omega) (hQ a c w1 o ha k1))
  | succ d ih =>
    intro i a c w1 hi o ha k1
    refine N_tile_FromTree.j12_eq (h := c_lt (by omega) ?_)
    rw [drw_s]
    have k2 := k1.none_trans (Chg.drew0 (D := None) w1)
    have o2 := o.chg0 (Chg.drew0 (D := None) w1)
    generalize w1.drew = w2 at k2 o2
    have hb2 := hb.chg k2 (fun h => h)
    refine opnI_c (hb2.rd 0 rfl) (opnI_c (hb2.rd 1 rfl) (opnI_c (hb2.rd 2 rfl) (opnI_c (hb2.rd 0 rfl) ?_)))
    have hw1 : (n * 2 ^ h + wd) * 2 ^ (h * l) ≤ size := hfit (by omega)
    have hp1 : 1 ≤ 2 ^ (h * l) := Nat.pow_pos (by decide)
    have hsmall : n * 2 ^ h + wd ≤ 281474976710656 := by
      have : (n * 2 ^ h + wd) * 1 ≤ (n * 2 ^ h + wd) * 2 ^ (h * l) := Nat.mul_le_mul_left _ hp1
      omega
    rw [wrap_mul (by omega), shl_nat n h (by omega) (by omega)]
    have e1 : IntKind.wrap .i64 (((n * 2 ^ h : Nat) : Int) + (i : Int)) = ((n * 2 ^ h + i : Nat) : Int) := by rw [wrap_id (by omega) (by omega)]; omega
    rw [e1]
    refine nn_nat ?_
    have hnode : (n * 2 ^ h + i + 1) * 2 ^ (h * l) ≤ size := Nat.le_trans (Nat.mul_le_mul_right _ (by omega)) hw1
    refine index_word (fun _ => ?_) fun hno => absurd ⟨by omega, by omega, by omega, by rw [Int.toNat_natCast, Int.toNat_natCast]; omega⟩ hno
    rw [Int.toNat_natCast, Int.toNat_natCast, opnT_s]
    have hpl : placeOf (h * l) (n * 2 ^ h + i) < st.length := by rw [hlen]; exact place_lt_laid hnode
    refine ⟨rfl, opnI_c rfl (opnI_c rfl ⟨by omega, by omega, ?_⟩)⟩
    have hg := atL_get hpl
    obtain ⟨p, rfl⟩ := lies_flat_some hb_len (by decide) (hst.chg0 k2) hpl
    rw [opnA_e, Int.toNat_natCast, slP_zero]
    refine app_u8 T25 V25 (w0 := w) (l := bytesOf (tileHs st h l n i)) o2 ha k2 (lies_row (hst.chg0 k2) hg) (m := 32 - 0) (by rw [(atL st _).2]) (by omega) fun a3 c3 w3 o3 f3 k3 => ?_
    rw [wrap_nat (by omega)]
    have e2 : 32 * i + (32 - 0) = 32 * (i + 1) := by omega
    have e3 : bytesOf (tileHs st h l n i) ++ (atL st (placeOf (h * l) (n * 2 ^ h + i))).1 = bytesOf (tileHs st h l n (i + 1)) := by rw [tileHs_succ, bytesOf, bytesOf, List.flatMap_append]; simp
    rw [e2, e3] at o3
    rw [e2]
    exact ih (i + 1) a3 c3 w3 (by omega) o3 f3 k3
/-- what FromTree answers -/
theorem fromtree_word {t : Tl} {st : List Hsh} {a0 : Option Addr} {c0 : Nat} {S : Nat → Prop} (hf : fitsT t) (hst : Lies w S a0 (hvs st))
    (hbad : ¬ okT t ∨ t.D = true → ∀ w', Chg None w w' → Q (.tuple #[.slice none 0 0, .int .i64 101]) w')
    (hlong : okT t → t.D = false → 131071 < st.length → ∀ w', Chg None w w' → Q (.tuple #[.slice none 0 0, .int .i64 2]) w')
    (hcnt : okT t → t.D = false → st.length ≤ 131071 → laid (recOf st.length) ≠ st.length → ∀ w', Chg None w w' → Q (.tuple #[.slice none 0 0, .int .i64 80]) w')
    (hout : okT t → t.D = false → st.length ≤ 131071 → laid (recOf st.length) = st.length → wid t.H.toNat t.L.toNat t.N.toNat (recOf st.length) < t.W.toNat → ∀ w', Chg None w w' → Q (.tuple #[.slice none 0 0, .int .i64 105]) w')
    (hok : okT t → t.D = false → st.length ≤ 131071 → laid (recOf st.length) = st.length → t.W.toNat ≤ wid t.H.toNat t.L.toNat t.N.toNat (recOf st.length) → ∀ a c w', Own w' 5 1 a (32 * t.W.toNat) c (bvs (bytesOf (tileHs st t.H.toNat t.L.toNat t.N.toNat t.W.toNat))) → (∀ x, At a x → w.heap.size ≤ x) → Chg None w w' → Q (.tuple #[.slice a (32 * t.W.toNat) c, .int .i64 0]) w') :
    C_tile_FromTree #[.slice a0 st.length c0, tg t] w Q := by
  refine C_tile_FromTree_eq _ _ _ _ _ _ _ _ _ _ ?_
  refine alC_box fun b w1 h1 k1 lo1 => ?_
  refine ld5 h1 ?_
  refine check_word (t := t) hf (fun hk w2 k2 => ?_) fun hk w2 k2 => ?_
  · rw [opnI_e]
    refine c_nne rfl ?_
    have h2 : Blk w2 b 24 (tv t) := h1.chg k2 (fun h => h)
    have k02 := k1.none_trans k2
    refine opnB_c (h2.rd 4 rfl) ?_
    cases hD : t.D with
    | true => exact c_t rfl (N_tile_FromTree.j2_eq (h := hbad (.inr hD) w2 k02))
    | false =>
      refine c_f rfl ?_
      by_cases g1 : 131071 < st.length
      · exact c_gt (by omega) (hlong hk hD g1 w2 k02)
      refine c_ngt (by omega) (records_word (by omega) (fun g2 => ?_) fun g2 => ?_)
      · rw [opnT_s]
        refine ⟨rfl, opnI_c rfl (opnI_c rfl (c_nne rfl ?_))⟩
        obtain ⟨h, l, n, wd, ht, b1, b2, b3, b4, b5, b6⟩ := okT_nat hk
        generalize t.D = D at ht hD
        subst ht
        subst hD
        have hw8 : wd ≤ 256 := Nat.le_trans b4 (Nat.pow_le_pow_right (by decide) b2)
        rw [drw_s]
        have k3 := k02.none_trans (Chg.drew0 (D := None) w2)
        have h3 := h2.chg (Chg.drew0 (D := None) w2) (fun h => h)
        generalize w2.drew = w3 at k3 h3
        refine opnI_c (h3.rd 3 rfl) (opnI_c (h3.rd 0 rfl) (opnI_c (h3.rd 1 rfl) (opnI_c (h3.rd 2 rfl) ?_)))
        have hsz : recOf st.length ≤ 281474976710656 := (recOf_is st.length).1
        refine width_word b1 b2 hsz fun w4 k4 => opnI_c rfl ?_
        have h4 := h3.chg k4 (fun h => h)
        have k04 := k3.none_trans k4
        refine ⟨opnI_c (h4.rd 3 rfl) rfl, ?_⟩
        by_cases g3 : wid h l n (recOf st.length) < wd
        · exact c_gt (a := (wd : Int)) (by omega) (hout hk rfl (by omega) g2 g3 w4 k04)
        refine c_ngt (a := (wd : Int)) (by omega) (opnI_c (h4.rd 3 rfl) ?_)
        have e1 : IntKind.wrap .i64 (32 * (wd : Int)) = ((32 * wd : Nat) : Int) := by rw [wrap_id (by omega) (by omega)]; omega
        rw [e1]
        refine make_empty T25 (c := 32 * wd) (by omega) (by omega) fun bt w5 o5 k5 lo5 => ?_
        rw [opnL_s]
        have h5 := h4.chg k5 (fun h => h)
        refine opnI_c (h5.rd 3 rfl) ?_
        have k05 := k04.none_trans k5
        exact fromloop (w := w4) (size := recOf st.length) (hst.chg0 k04) b2 b5 hw8 (fun _ => wid_fits b3 (Nat.le_of_not_lt g3)) hsz g2.symm h4
          (fun a c w' o f k => hok hk rfl (by omega) g2 (Nat.le_of_not_lt g3) a c w' o (fun x hx => Nat.le_trans k04.size (f x hx)) (k04.none_trans k)) wd 0 _ _ w5 (by omega) (by simpa [tileHs, bytesOf, bvs] using o5) (fun x ⟨q, hq, hx⟩ => by cases hq; subst hx; exact lo5) k5
      · rw [opnT_s]
        exact ⟨rfl, opnI_c rfl (opnI_c rfl (c_ne (by decide) (hcnt hk hD (by omega) g2 w2 k02)))⟩
  · rw [opnI_e]
    exact c_ne (by decide) (N_tile_FromTree.j2_eq (h := hbad (.inl hk) w2 (k1.none_trans k2)))
end
end Go.Proofs.YtccjncflbbhldaaDoor
/-! ## Joined -/
set_option maxRecDepth 10000
namespace Go.Proofs.YtccjncflbbhldaaDoor
open Go.Sh Go.RowKit
open Pl (wrap_n tdiv_nat i64_and shr_nat shl_nat nn_nat one_shl)
theorem hvs_drop (hs : List Hsh) (j : Nat) : (hvs hs).drop (j * 32) = hvs (hs.drop j) := by
  rcases Nat.lt_or_ge hs.length j with g | g
  · rw [List.drop_eq_nil_of_le (by rw [hvs_len]; omega), show hs.drop j = [] from List.drop_eq_nil_of_le (by omega)]; rfl
  · have h : hvs hs = hvs (hs.take j) ++ hvs (hs.drop j) := by
      have := congrArg hvs (List.take_append_drop j hs).symm
      rw [this, hvs, List.flatMap_append]
    rw [h, List.drop_append_of_le_length (by rw [hvs_len, List.length_take]; omega), List.drop_eq_nil_of_le (by rw [hvs_len, List.length_take]; omega), List.nil_append]
theorem slA_zero (a : Option Addr) (c sz : Nat) : slA a 0 c sz = a := by
  unfold slA
  split
  · rfl
  · cases a with
    | none => rfl
    | some p => simp [add_zero]
section
variable {Q : Value → World → Prop} {w : World}
theorem Own.less {e sz n c m : Nat} {a : Option Addr} {l : List Value} (h : Own w e sz a n c l) (hm : m ≤ n) : Own w e sz a m c (l.take (m * sz)) := by
  have hl := h.len
  have hle : m * sz ≤ n * sz := Nat.mul_le_mul_right _ hm
  refine ⟨by rw [List.length_take]; omega, ?_⟩
  rcases h.row with ⟨h1, h2, h3⟩ | ⟨b, rest, h1, h2, h3, h4⟩
  · exact .inl ⟨h1, by omega, h3⟩
  · refine .inr ⟨b, l.drop (m * sz) ++ rest, h1, ?_, ?_, by omega⟩
    · rw [← List.append_assoc, List.take_append_drop]; exact h2
    · rw [← List.append_assoc, List.take_append_drop]; exact h3
/-- a row out of bytes -/
theorem rd_cut {S : Nat → Prop} {a : Option Addr} {hs : List Hsh} {c j : Nat} (h : Lies w S a (hvs hs)) (hj : j < hs.length) (hc : 32 * hs.length ≤ c) {K : Array Value → Prop} (hK : K (hb (atL hs j)).toArray) : opnA (slA a (32 * j) c 1) fun ad => opnRow w ad (32 * 1) K := by
  have h2 := h.slA (32 * j) c
  rw [if_neg (by omega)] at h2
  have e : (hvs hs).drop (32 * j) = hb (atL hs j) ++ hvs (hs.drop (j + 1)) := by
    rw [Nat.mul_comm, hvs_drop, List.drop_eq_getElem_cons hj, hvs, List.flatMap_cons]
    simp [atL, hj]
  rw [e] at h2
  obtain ⟨p, hp⟩ := h2.some (j := 0) (by rw [List.length_append, hb_len]; omega)
  rw [hp] at h2 ⊢
  rw [opnA_e]
  refine row_c (hb_len _) (fun i v hv => ?_) hK
  obtain ⟨q, hq, _, hcell⟩ := h2 i v (by rw [List.getElem?_append_left (List.getElem?_eq_some_iff.1 hv).1]; exact hv)
  cases hq
  exact hcell
theorem pairloop {k : Int} {b8 : Nat} {b n c : Nat} {l : List Hsh} {g : Nat → Hsh} {w0 : World} (sd : ShaStd w0) (hn : l.length = 2 * n) (hn8 : n ≤ 128) (hb0 : w0.heap.size ≤ b) (hg : ∀ i, i < n → g i = nodeH k (atL l (2 * i)) (atL l (2 * i + 1)))
    (hQ : ∀ l' w', l'.length = 2 * n → (∀ i, i < n → atL l' i = g i) → Own w' 29 32 (some ⟨b, 0, none⟩) (2 * n) c (hvs l') → Chg None w0 w' → N_tile_joined.j7 Q k ⟨b8, 0, none⟩ (some ⟨b, 0, none⟩) n c w') (hnc : n ≤ c) :
    ∀ (d i : Nat) (l' : List Hsh) (w1 : World), i + d = n → l'.length = 2 * n → (∀ j, j < i → atL l' j = g j) → (∀ j, i ≤ j → atL l' j = atL l j) → Own w1 29 32 (some ⟨b, 0, none⟩) (2 * n) c (hvs l') → Chg None w0 w1 →
    N_tile_joined.j9 Q k ⟨b8, 0, none⟩ (some ⟨b, 0, none⟩) (2 * n) c (n : Int) (i : Int) w1 := by
  intro d
  induction d with
  | zero =>
    intro i l' w1 hi hl hd _ o k1
    have hi' : i = n := by omega
    subst hi'
    have e : IntKind.wrap .i64 (Int.tdiv ((2 * i : Nat) : Int) 2) = (i : Int) := by
      have := tdiv_nat (2 * i) 2
      rw [show ((2 : Nat) : Int) = 2 from rfl] at this
      rw [this, wrap_n _ (by omega)]; omega
    refine N_tile_joined.j9_eq (h := c_nlt (by omega) ⟨by decide, ?_⟩)
    rw [e]
    refine ⟨by omega, by omega, ?_⟩
    rw [slA_zero, Int.toNat_natCast]
    exact hQ l' w1 hl hd o k1
  | succ d ih =>
    intro i l' w1 hi hl hd hr o k1
    refine N_tile_joined.j9_eq (h := c_lt (by omega) ?_)
    rw [drw_s]
    have k2 := k1.none_trans (Chg.drew0 (D := None) w1)
    have o2 := o.chg0 (Chg.drew0 (D := None) w1)
    generalize w1.drew = w2 at k2 o2
    have e1 : IntKind.wrap .i64 (2 * (i : Int)) = ((2 * i : Nat) : Int) := by rw [wrap_id (by omega) (by omega)]; omega
    have e2 : IntKind.wrap .i64 (((2 * i : Nat) : Int) + 1) = ((2 * i + 1 : Nat) : Int) := wrap_nat (by omega)
    rw [e1, e2, opnA_e, opnA_e, Int.toNat_natCast, Int.toNat_natCast]
    refine ⟨by omega, by omega, by omega, by omega, ?_⟩
    refine rd_rowP hb_len o2.lies (atL_get (ls := l') (i := 2 * i) (by omega)) (n := 32 * 1) rfl ?_
    refine rd_rowP hb_len o2.lies (atL_get (ls := l') (i := 2 * i + 1) (by omega)) (n := 32 * 1) rfl ?_
    refine node_word (sd.chg0 k2) (atL l' (2 * i)).2 (atL l' (2 * i + 1)).2 fun w3 k3 => ?_
    rw [opnG_s]
    refine ⟨by omega, by omega, ?_⟩
    rw [Int.toNat_natCast]
    refine st_row hb_len (o2.chg0 k3) (i := i) (by omega) (nodeH k (atL l' (2 * i)) (atL l' (2 * i + 1))) (by decide) (hb_one _) (m := 32 * 1) rfl fun w4 o4 k4 => ?_
    rw [wrap_nat (by omega)]
    refine ih (i + 1) _ w4 (by omega) (by simpa using hl) (fun j hj => ?_) (fun j hj => ?_) o4 (Chg.fresh (k2.none_trans k3) k4 fun x ⟨q, hq, hx⟩ => by cases hq; subst hx; exact hb0)
    · rcases Nat.lt_or_ge j i with g1 | g1
      · rw [atL, List.getD_eq_getElem?_getD, List.getElem?_set_ne (by omega), ← List.getD_eq_getElem?_getD]; exact hd j g1
      · have e : j = i := by omega
        subst e
        rw [atL, List.getD_eq_getElem?_getD, List.getElem?_set_self (by omega), hg j (by omega), hr (2 * j) (by omega), hr (2 * j + 1) (by omega)]; rfl
    · rw [atL, List.getD_eq_getElem?_getD, List.getElem?_set_ne (by omega), ← List.getD_eq_getElem?_getD]; exact hr j (by omega)
theorem atL_take {l : List Hsh} {m i : Nat} (h : i < m) : atL (l.take m) i = atL l i := by
  rw [atL, atL, List.getD_eq_getElem?_getD, List.getD_eq_getElem?_getD, List.getElem?_take, if_pos h]
theorem hvs_take (l : List Hsh) (m : Nat) : (hvs l).take (m * 32) = hvs (l.take m) := by
  rcases Nat.lt_or_ge l.length m with g | g
  · rw [List.take_of_length_le (by rw [hvs_len]; omega), show l.take m = l from List.take_of_length_le (by omega)]
  · have h : hvs l = hvs (l.take m) ++ hvs (l.drop m) := by
      have := congrArg hvs (List.take_append_drop m l).symm
      rw [this, hvs, List.flatMap_append]
    rw [h, List.take_append_of_le_length (by rw [hvs_len, List.length_take]; omega), List.take_of_length_le (by rw [hvs_len, List.length_take]; omega)]
theorem halfloop {k : Int} {f : Nat → Hsh} {b8 b folds : Nat} {w0 : World} (sd : ShaStd w0) (hb0 : w0.heap.size ≤ b) (h80 : Blk w0 b8 29 (hb zeroH)) {wb : World} (kb : Chg None wb w0) (lo8 : wb.heap.size ≤ b8) (hf8 : folds ≤ 8)
    (hQ : ∀ w', Chg None wb w' → Q (.agg (hb (nodeAt k f folds 0)).toArray) w') :
    ∀ (r : Nat) (c : Nat) (l : List Hsh) (w1 : World), r ≤ folds → l.length = 2 ^ r → (∀ i, i < 2 ^ r → atL l i = nodeAt k f (folds - r) i) → Own w1 29 32 (some ⟨b, 0, none⟩) (2 ^ r) c (hvs l) → Chg None w0 w1 →
    N_tile_joined.j7 Q k ⟨b8, 0, none⟩ (some ⟨b, 0, none⟩) (2 ^ r) c w1 := by
  intro r
  induction r with
  | zero =>
    intro c l w1 hr hl hn o k1
    refine N_tile_joined.j7_eq (h := c_ngt (by decide) ⟨by decide, by decide, ?_⟩)
    have h0 := hn 0 (by decide)
    rw [Nat.sub_zero] at h0
    refine rd_row hb_len (by decide) o.lies (i := 0) (atL_get (ls := l) (i := 0) (by rw [hl]; decide)) (n := 32 * 1) rfl ?_
    rw [h0]
    refine Blk.stAll (h80.chg k1 (fun h => h)) ?_ ?_ ?_ fun w2 h2 k2 => ?_
    · simp [hb_len]
    · simp [hb_len]
    · simpa using hb_one _
    refine Blk.rowAll h2 (n := 32) (by simp [hb_len]) ?_
    have := hQ w2 (Chg.fresh (kb.none_trans k1) k2 fun x hx => by omega)
    simpa using this
  | succ r ih =>
    intro c l w1 hr hl hn o k1
    have hp : 1 ≤ 2 ^ r := Nat.pow_pos (by decide)
    have e2 : 2 ^ (r + 1) = 2 * 2 ^ r := by rw [Nat.pow_succ, Nat.mul_comm]
    have h128 : 2 ^ r ≤ 2 ^ 7 := Nat.pow_le_pow_right (by decide) (by omega)
    rw [e2] at hl hn o ⊢
    refine N_tile_joined.j7_eq (h := c_gt (by omega) ⟨by decide, ?_⟩)
    have e : IntKind.wrap .i64 (Int.tdiv ((2 * 2 ^ r : Nat) : Int) 2) = ((2 ^ r : Nat) : Int) := by
      have := tdiv_nat (2 * 2 ^ r) 2
      rw [show ((2 : Nat) : Int) = 2 from rfl] at this
      rw [this, wrap_n _ (by omega)]; omega
    rw [e]
    refine pairloop (g := nodeAt k f (folds - r)) sd hl (by omega) hb0 (fun i hi => ?_) (fun l' w2 hl' hd' o' k2 => ?_) (by have := o.le; omega) (2 ^ r) 0 l w1 (by omega) hl (fun j hj => by omega) (fun j hj => rfl) o k1
    · rw [hn (2 * i) (by omega), hn (2 * i + 1) (by omega), show folds - r = (folds - (r + 1)) + 1 by omega]; rfl
    · refine ih c (l'.take (2 ^ r)) w2 (by omega) (by rw [List.length_take]; omega) (fun i hi => by rw [atL_take hi]; exact hd' i hi) ?_ k2
      rw [← hvs_take]
      exact Own.less o' (by omega)
theorem copyloop {k : Int} {hs : List Hsh} {a1 : Option Addr} {c1 first b8 b m c : Nat} {S : Nat → Prop} {w0 : World} (hl : Lies w0 S a1 (hvs hs)) (hc : 32 * hs.length ≤ c1) (hfit : first + m ≤ hs.length) (h56 : hs.length ≤ 65536) (hb0 : w0.heap.size ≤ b)
    (hQ : ∀ l w', l.length = m → (∀ i, i < m → atL l i = atL hs (first + i)) → Own w' 29 32 (some ⟨b, 0, none⟩) m c (hvs l) → Chg None w0 w' → N_tile_joined.j7 Q k ⟨b8, 0, none⟩ (some ⟨b, 0, none⟩) m c w') :
    ∀ (d i : Nat) (l : List Hsh) (w1 : World), i + d = m → l.length = m → (∀ j, j < i → atL l j = atL hs (first + j)) → Own w1 29 32 (some ⟨b, 0, none⟩) m c (hvs l) → Chg None w0 w1 →
    N_tile_joined.j3 Q k a1 (32 * hs.length) c1 (first : Int) ⟨b8, 0, none⟩ (some ⟨b, 0, none⟩) m c (m : Int) (i : Int) w1 := by
  intro d
  induction d with
  | zero =>
    intro i l w1 hi hll hd o k1
    have hi' : i = m := by omega
    subst hi'
    exact N_tile_joined.j3_eq (h := c_nlt (by omega) (hQ l w1 hll hd o k1))
  | succ d ih =>
    intro i l w1 hi hll hd o k1
    refine N_tile_joined.j3_eq (h := c_lt (by omega) ?_)
    have e1 : IntKind.wrap .i64 ((first : Int) + (i : Int)) = ((first + i : Nat) : Int) := by rw [wrap_id (by omega) (by omega)]; omega
    have e2 : IntKind.wrap .i64 (32 * ((first + i : Nat) : Int)) = ((32 * (first + i) : Nat) : Int) := by rw [wrap_id (by omega) (by omega)]; omega
    rw [e1, e2, Int.toNat_natCast]
    refine ⟨by omega, by omega, by omega, ?_⟩
    refine rd_cut (hl.chg0 k1) (by omega) hc ⟨by omega, by omega, ?_⟩
    rw [Int.toNat_natCast]
    refine st_row hb_len o (i := i) (by omega) (atL hs (first + i)) (by decide) (hb_one _) (m := 32 * 1) rfl fun w2 o2 k2 => ?_
    rw [wrap_nat (by omega)]
    refine ih (i + 1) _ w2 (by omega) (by simpa using hll) (fun j hj => ?_) o2 (Chg.fresh k1 k2 fun x ⟨q, hq, hx⟩ => by cases hq; subst hx; exact hb0)
    rcases Nat.lt_or_ge j i with g1 | g1
    · rw [atL, List.getD_eq_getElem?_getD, List.getElem?_set_ne (by omega), ← List.getD_eq_getElem?_getD]; exact hd j g1
    · have e : j = i := by omega
      subst e
      rw [atL, List.getD_eq_getElem?_getD, List.getElem?_set_self (by omega)]; rfl
/-- the hash over 2^folds hashes of a tile -/
theorem joined_word {k : Int} {hs : List Hsh} {a1 : Option Addr} {c1 first folds : Nat} {S : Nat → Prop} (sd : ShaStd w) (hl : Lies w S a1 (hvs hs)) (hc : 32 * hs.length ≤ c1) (hf8 : folds ≤ 8) (hfit : first + 2 ^ folds ≤ hs.length) (h56 : hs.length ≤ 65536)
    (hQ : ∀ w', Chg None w w' → Q (.agg (hb (nodeAt k (fun i => atL hs (first + i)) folds 0)).toArray) w') :
    C_tile_joined #[.int .i64 k, .slice a1 (32 * hs.length) c1, .int .i64 (first : Int), .int .i64 (folds : Int)] w Q := by
  refine C_tile_joined_eq _ _ _ _ _ _ _ _ ?_
  refine alZ_box zero29h fun b8 w1 h1 k1 lo1 => ?_
  refine nn_nat ?_
  rw [one_shl hf8]
  have hp8 : 2 ^ folds ≤ 2 ^ 8 := Nat.pow_le_pow_right (by decide) hf8
  refine make_same T22 (v := .int .u8 0) zero29 (Nat.le_refl _) (by omega) (by omega) fun b w2 o2 k2 lo2 => ?_
  rw [opnL_s, ← hvs_zero] at *
  refine copyloop (w0 := w1) (m := 2 ^ folds) (hl.chg0 k1) hc hfit h56 lo2 (fun l w3 hll hd o3 k3 => ?_) (2 ^ folds) 0 _ w2 (by omega) (by simp) (fun j hj => by omega) o2 k2
  exact halfloop (f := fun i => atL hs (first + i)) (folds := folds) (sd.chg0 k1) lo2 (by simpa using h1) k1 lo1 hf8 hQ folds _ l w3 (Nat.le_refl _) hll (fun i hi => by rw [Nat.sub_self]; exact hd i hi) o3 k3
end
end Go.Proofs.YtccjncflbbhldaaDoor
/-! ## Inside -/
set_option maxRecDepth 10000
namespace Go.Proofs.YtccjncflbbhldaaDoor
open Go.Sh Go.RowKit
open Pl (seat_word opn_seat tlOf firstOf foldOf fold_lt E24p eqTl eqTl_f eqTl_iff)
theorem run29 (w : World) : (Instr.build 29 #[]).run PP w = .ok (.agg (hb zeroH).toArray) w := run_build w 29 _ _ (by kernel_rfl)
theorem build29 {K : Value → Prop} : semP PP (Instr.build 29 #[]) K = K (.agg (hb zeroH).toArray) := by
  unfold semP
  rw [run29]
/-- the tile of a place is this one, and wide enough -/
def inT (t : Tl) (c : Nat) : Prop := (tlOf t.H.toNat c).W ≤ t.W ∧ { tlOf t.H.toNat c with W := t.W } = t
section
variable {Q : Value → World → Prop} {w : World}
theorem st_zero {b8 : Nat} {w1 : World} {o : Hsh} {x : Hsh} {e : Int} (h1 : Blk w1 b8 29 (hb o)) (hQ : ∀ w2, Chg (fun k => k = b8) w1 w2 → Q (.tuple #[.agg (hb x).toArray, .int .i64 e]) w2) : stRow ⟨b8, 0, none⟩ (hb x).toArray (32 * 1) w1 fun w18 => opnRow w18 ⟨b8, 0, none⟩ (32 * 1) fun x19 => Q (.tuple #[.agg x19, .int .i64 e]) w18 := by
  refine Blk.stAll h1 ?_ ?_ ?_ fun w2 h2 k2 => ?_
  · simp [hb_len]
  · simp [hb_len]
  · simpa using hb_one _
  refine Blk.rowAll h2 (n := 32) (by simp [hb_len]) ?_
  simpa using hQ w2 k2
theorem inside_word {k : Int} {t : Tl} {hs : List Hsh} {a2 : Option Addr} {n2 c2 : Nat} {c : Int} {S : Nat → Prop} (sd : ShaStd w) (hf : fitsT t) (hn2 : n2 ≤ c2) (hd : okT t → (n2 : Int) = 32 * t.W → n2 = 32 * hs.length ∧ Lies w S a2 (hvs hs))
    (hbad : ¬ okT t ∨ t.D = true → ∀ w', Chg None w w' → Q (.tuple #[.agg (hb zeroH).toArray, .int .i64 101]) w')
    (hwid : okT t → t.D = false → (n2 : Int) ≠ 32 * t.W → ∀ w', Chg None w w' → Q (.tuple #[.agg (hb zeroH).toArray, .int .i64 102]) w')
    (hout : okT t → t.D = false → (n2 : Int) = 32 * t.W → ¬ (∃ c' : Nat, c = c' ∧ c' < 562949953421311 ∧ inT t c') → ∀ w', Chg None w w' → Q (.tuple #[.agg (hb zeroH).toArray, .int .i64 105]) w')
    (hok : ∀ c' : Nat, okT t → t.D = false → (n2 : Int) = 32 * t.W → c = c' → c' < 562949953421311 → inT t c' → ∀ w', Chg None w w' → Q (.tuple #[.agg (hb (nodeAt k (fun i => atL hs (firstOf t.H.toNat c' + i)) (foldOf t.H.toNat c') 0)).toArray, .int .i64 0]) w') :
    C_tile_Inside #[.int .i64 k, tg t, .slice a2 n2 c2, .int .i64 c] w Q := by
  refine C_tile_Inside_eq _ _ _ _ _ _ _ _ _ _ _ _ ?_
  refine alC_box fun b1 w1 h1 k1 lo1 => ?_
  refine alZ_box zero29h fun b3 w2 h3 k2 lo3 => ?_
  have h12 : Blk w2 b1 24 (tv t) := h1.chg k2 (fun h => h)
  have k02 := k1.none_trans k2
  have h3' : Blk w2 b3 29 (hb zeroH) := by simpa using h3
  have s1 := k1.size
  have lt1 := h1.lt
  refine ld5 h12 (check_word (t := t) hf (fun hk w3 k3 => ?_) fun hk w3 k3 => ?_)
  · rw [opnI_e]
    refine c_nne rfl ?_
    have h13 := h12.chg k3 (fun h => h)
    have h33 := h3'.chg k3 (fun h => h)
    have k03 := k02.none_trans k3
    refine opnB_c (h13.rd 4 rfl) ?_
    cases hD : t.D with
    | true =>
      refine c_t rfl (N_tile_Inside.j2_eq (h := ?_))
      rw [build29, opnG_s]
      exact st_zero h33 fun w4 k4 => hbad (.inr hD) w4 (Chg.fresh k03 k4 fun x hx => by omega)
    | false =>
      refine c_f rfl (opnI_c (h13.rd 3 rfl) ?_)
      obtain ⟨h, l, n, wd, ht, b1', b2', b3', b4', b5', b6'⟩ := okT_nat hk
      have hH : t.H = (h : Int) := by rw [ht]
      have hW : t.W = (wd : Int) := by rw [ht]
      have hwd8 : wd ≤ 256 := Nat.le_trans b4' (Nat.pow_le_pow_right (by decide) b2')
      have e1 : IntKind.wrap .i64 (32 * t.W) = 32 * t.W := by rw [wrap_id (by omega) (by omega)]
      rw [e1]
      by_cases g1 : (n2 : Int) = 32 * t.W
      · refine c_nne g1 (opnI_c (h13.rd 0 rfl) ?_)
        rw [hH]
        have hend : ∀ w4, Chg None w3 w4 → (¬ ∃ c' : Nat, c = c' ∧ c' < 562949953421311 ∧ inT t c') → N_tile_Inside.j7 Q ⟨b3, 0, none⟩ w4 := by
          intro w4 k4 hno
          refine N_tile_Inside.j7_eq (h := ?_)
          rw [build29, opnG_s]
          exact st_zero (h33.chg k4 (fun h => h)) fun w5 k5 => hout hk hD g1 hno w5 (Chg.fresh (k03.none_trans k4) k5 fun x hx => by omega)
        refine seat_word b1' b2' (fun c' hc hlt w4 k4 => ?_) fun hno w4 k4 => ?_
        · subst hc
          refine opn_seat ?_
          refine alC_box fun b9 w5 h9 k5 lo9 => ⟨rfl, ?_⟩
          refine box7 h9 rfl rfl fun w6 h6 k6 => ?_
          have k35 := k4.none_trans k5
          have k36 : Chg None w3 w6 := Chg.fresh k35 k6 fun x hx => by have := k4.size; omega
          have n91 : b1 ≠ b9 := by have := k4.size; have := h13.lt; omega
          refine c_not_true rfl ?_
          refine opnI_c (h6.rd2 0 3 rfl) ?_
          have h16 := h13.chg k36 (fun h => h)
          refine opnI_c (h16.rd 3 rfl) ?_
          have hth : t.H.toNat = h := by omega
          by_cases g2 : (tlOf h c').W > t.W
          · exact c_gt g2 (hend w6 k36 fun ⟨c2, hc2, _, hin⟩ => by
              have : c' = c2 := by omega
              subst this
              have := hin.1
              rw [hth] at this; omega)
          refine c_ngt (by omega) (opnI_c (h16.rd 3 rfl) ?_)
          rw [add_zero]
          refine box_set h6 (j := 3) (show 3 < 7 by decide) rfl fun w7 h7 k7 => ?_
          have k37 : Chg None w3 w7 := Chg.fresh k36 k7 fun x hx => by have := k4.size; omega
          have h17 := h13.chg k37 (fun h => h)
          refine opnI_c (h7.rd 0 rfl) (opnI_c (h7.rd 1 rfl) (opnI_c (h7.rd 2 rfl) (opnI_c (h7.rd 3 rfl) (opnB_c (h7.rd 4 rfl) ?_))))
          refine ld5 h17 ?_
          refine struct_neq E24p (eqTl_f { tlOf h c' with W := t.W } t) ?_
          rw [opnB_s]
          cases g3 : eqTl { tlOf h c' with W := t.W } t with
          | false =>
            refine c_t rfl ?_
            rw [build29, opnG_s]
            refine st_zero (h33.chg k37 (fun h => h)) fun w8 k8 => hout hk hD g1 (fun ⟨c2, hc2, _, hin⟩ => ?_) w8 (Chg.fresh (k03.none_trans k37) k8 fun x hx => by omega)
            have : c' = c2 := by omega
            subst this
            have h2 := hin.2
            rw [hth] at h2
            rw [(eqTl_iff _ _).2 h2] at g3; cases g3
          | true =>
            refine c_f rfl (opnI_c (h7.rd 5 rfl) (opnI_c (h7.rd 6 rfl) ?_))
            obtain ⟨hn, hl⟩ := hd hk g1
            subst hn
            have hin : inT t c' := ⟨by rw [hth]; omega, by rw [hth]; exact (eqTl_iff _ _).1 g3⟩
            have hfirst : (tlOf h c').W = ((firstOf h c' + 2 ^ foldOf h c' : Nat) : Int) := rfl
            refine joined_word (sd.chg0 (k03.none_trans k37)) (hl.chg0 (k03.none_trans k37)) hn2 (by have := fold_lt (h := h) (c := c') b1'; omega) (by omega) (by omega) fun w8 k8 => ?_
            rw [opnG_s]
            have h38 := (h33.chg k37 (fun h => h)).chg k8 (fun h => h)
            refine st_zero h38 fun w9 k9 => ?_
            have := hok c' hk hD g1 rfl hlt hin w9 (Chg.fresh ((k03.none_trans k37).none_trans k8) k9 fun x hx => by omega)
            rw [hth] at this
            exact this
        · refine opn_seat ?_
          refine alC_box fun b9 w5 h9 k5 lo9 => ⟨rfl, ?_⟩
          refine box7 h9 rfl rfl fun w6 h6 k6 => ?_
          have k36 : Chg None w3 w6 := Chg.fresh (k4.none_trans k5) k6 fun x hx => by have := k4.size; omega
          exact c_not_false rfl (hend w6 k36 fun ⟨c2, hc2, hlt, _⟩ => hno ⟨by omega, by omega⟩)
      · refine c_ne g1 ?_
        rw [build29, opnG_s]
        exact st_zero h33 fun w4 k4 => hwid hk hD g1 w4 (Chg.fresh k03 k4 fun x hx => by omega)
  · rw [opnI_e]
    refine c_ne (by decide) (N_tile_Inside.j2_eq (h := ?_))
    rw [build29, opnG_s]
    exact st_zero (h3'.chg k3 (fun h => h)) fun w4 k4 => hbad (.inl hk) w4 (Chg.fresh (k02.none_trans k3) k4 fun x hx => by omega)
end
end Go.Proofs.YtccjncflbbhldaaDoor
/-! ## WidthsPure -/
namespace Go.Proofs.YtccjncflbbhldaaDoor
open Go.Sh Go.RowKit
open Pl (tlOf firstOf foldOf atOf fold_lt wid cnt)
theorem okT_mk {h l n wd : Nat} (b1 : 1 ≤ h) (b2 : h ≤ 8) (b3 : 1 ≤ wd) (b4 : wd ≤ 2 ^ h) (b5 : h * l ≤ 48) (b6 : (n * 2 ^ h + wd) * 2 ^ (h * l) ≤ 281474976710656) : okT ⟨h, l, n, wd, false⟩ := by
  have e : ((h : Int) * (l : Int)).toNat = h * l := by rw [← Int.natCast_mul, Int.toNat_natCast]
  have e1 : ((2 ^ h : Nat) : Int) = (2 : Int) ^ h := by simp
  refine ⟨by show (1 : Int) ≤ (h : Int); omega, by show (h : Int) ≤ 8; omega, by show (1 : Int) ≤ (wd : Int); omega, ?_, by show (0 : Int) ≤ (l : Int); omega, by show (0 : Int) ≤ (n : Int); omega, (fun h => by cases h), ?_, ?_⟩
  · show (wd : Int) ≤ 2 ^ ((h : Int).toNat)
    rw [Int.toNat_natCast]; omega
  · show (h : Int) * (l : Int) ≤ 48
    rw [← Int.natCast_mul]; omega
  · show (n : Int) * 2 ^ ((h : Int).toNat) + (wd : Int) ≤ 281474976710656 / 2 ^ ((h : Int) * (l : Int)).toNat
    rw [e, Int.toNat_natCast]
    have e2 : (n : Int) * 2 ^ h + (wd : Int) = ((n * 2 ^ h + wd : Nat) : Int) := by simp
    have e3 : (281474976710656 : Int) / 2 ^ (h * l) = ((281474976710656 / 2 ^ (h * l) : Nat) : Int) := by simp
    rw [e2, e3]
    have := (Nat.le_div_iff_mul_le (Nat.pow_pos (n := h * l) (show 0 < 2 by decide))).2 b6
    omega
theorem nodeAt_congr {k : Int} {f g : Nat → Hsh} : ∀ (r j : Nat), (∀ i, j * 2 ^ r ≤ i → i < (j + 1) * 2 ^ r → f i = g i) → nodeAt k f r j = nodeAt k g r j
  | 0, j, h => h j (by omega) (by omega)
  | r + 1, j, h => by
    have e0 : 2 ^ (r + 1) = 2 * 2 ^ r := by rw [Nat.pow_succ, Nat.mul_comm]
    have e1 : j * 2 ^ (r + 1) = (2 * j) * 2 ^ r := by rw [e0]; ac_rfl
    have e2 : (j + 1) * 2 ^ (r + 1) = (2 * j + 1 + 1) * 2 ^ r := by rw [e0, ← Nat.mul_assoc]; congr 1; omega
    have e3 : (2 * j + 1) * 2 ^ r = (2 * j) * 2 ^ r + 2 ^ r := by rw [Nat.add_mul, Nat.one_mul]
    have e4 : (2 * j + 1 + 1) * 2 ^ r = (2 * j + 1) * 2 ^ r + 2 ^ r := by rw [Nat.add_mul (2 * j + 1), Nat.one_mul]
    rw [nodeAt, nodeAt, nodeAt_congr r (2 * j) fun i h1 h2 => h i (by omega) (by omega), nodeAt_congr r (2 * j + 1) fun i h1 h2 => h i (by omega) (by omega)]
theorem nodeAt_shift {k : Int} {f : Nat → Hsh} {l0 : Nat} : ∀ (r m j : Nat), nodeAt k (fun i => nodeAt k f l0 (m * 2 ^ r + i)) r j = nodeAt k f (l0 + r) (m + j)
  | 0, m, j => by rw [Nat.pow_zero, Nat.mul_one]; rfl
  | r + 1, m, j => by
    have e : m * 2 ^ (r + 1) = (2 * m) * 2 ^ r := by rw [Nat.pow_succ]; ac_rfl
    rw [nodeAt, e, nodeAt_shift r (2 * m) (2 * j), nodeAt_shift r (2 * m) (2 * j + 1), ← Nat.add_assoc l0, nodeAt]
    rw [show 2 * m + 2 * j = 2 * (m + j) by omega, show 2 * m + (2 * j + 1) = 2 * (m + j) + 1 by omega]
/-- a place of a tree: its node's records are there -/
theorem node_in {c n : Nat} (hc : c < laid n) (hn : n ≤ 281474976710656) : c < 562949953421311 ∧ (nodOf c + 1) * 2 ^ levOf c ≤ n := by
  have hc' : c < 562949953421311 := by
    have := laid_mono hn
    rw [laid_max] at this
    omega
  refine ⟨hc', ?_⟩
  have hr := recOf_is c
  have hlt : recOf c < n := by
    rcases Nat.lt_or_ge (recOf c) n with g | g
    · exact g
    · have := laid_mono g
      have := hr.2.1
      omega
  have hp := split_pos hc'
  have e : nodOf c + 1 = (recOf c + 1) / 2 ^ levOf c := by unfold nodOf; omega
  rw [e, hp.2]; omega
structure InTile (h c n : Nat) : Prop where
  lev : h * (levOf c / h) + foldOf h c = levOf c
  at_ : atOf h c / 2 ^ h * 2 ^ h + firstOf h c = nodOf c * 2 ^ foldOf h c
  top : firstOf h c + 2 ^ foldOf h c ≤ 2 ^ h
  wid : firstOf h c + 2 ^ foldOf h c ≤ wid h (levOf c / h) (atOf h c / 2 ^ h) n
theorem in_tile {h c n : Nat} (h1 : 1 ≤ h) (hc : c < laid n) (hn : n ≤ 281474976710656) : InTile h c n := by
  obtain ⟨hc', hnode⟩ := node_in hc hn
  have e1 : h * (levOf c / h) + foldOf h c = levOf c := Nat.div_add_mod _ _
  have e2 : atOf h c / 2 ^ h * 2 ^ h + firstOf h c = nodOf c * 2 ^ foldOf h c := by rw [Nat.mul_comm]; exact Nat.div_add_mod _ _
  have hf := fold_lt (c := c) h1
  have hpf : 0 < 2 ^ foldOf h c := Nat.pow_pos (by decide)
  obtain ⟨d, hd⟩ : ∃ d, h = foldOf h c + d := ⟨h - foldOf h c, by omega⟩
  have e3 : firstOf h c = nodOf c % 2 ^ d * 2 ^ foldOf h c := by
    unfold firstOf atOf
    conv => lhs; rw [show 2 ^ h = 2 ^ d * 2 ^ foldOf h c by rw [← Nat.pow_add, Nat.add_comm, ← hd]]
    rw [Nat.mul_mod_mul_right]
  have hmod : nodOf c % 2 ^ d < 2 ^ d := Nat.mod_lt _ (Nat.pow_pos (by decide))
  have top : firstOf h c + 2 ^ foldOf h c ≤ 2 ^ h := by
    have e4 : 2 ^ h = 2 ^ d * 2 ^ foldOf h c := by rw [← Nat.pow_add, Nat.add_comm, ← hd]
    have e5 : firstOf h c + 2 ^ foldOf h c = (nodOf c % 2 ^ d + 1) * 2 ^ foldOf h c := by rw [e3, Nat.add_mul, Nat.one_mul]
    rw [e5, e4]
    exact Nat.mul_le_mul_right _ hmod
  have hl48 := lev_le hc'
  have hpl : 0 < 2 ^ (h * (levOf c / h)) := Nat.pow_pos (by decide)
  have hcnt : nodOf c * 2 ^ foldOf h c + 2 ^ foldOf h c ≤ cnt h (levOf c / h) n := by
    unfold cnt
    rw [Nat.le_div_iff_mul_le hpl]
    have : (nodOf c * 2 ^ foldOf h c + 2 ^ foldOf h c) * 2 ^ (h * (levOf c / h)) = (nodOf c + 1) * 2 ^ levOf c := by
      conv => rhs; rw [← e1, Nat.pow_add]
      rw [Nat.add_mul (nodOf c) 1, Nat.one_mul, Nat.add_mul]
      rw [Nat.mul_comm (2 ^ (h * (levOf c / h))) (2 ^ foldOf h c), Nat.mul_assoc]
    rw [this]; exact hnode
  refine ⟨e1, e2, top, ?_⟩
  unfold Pl.wid
  have hL : levOf c / h ≤ 48 / h := Nat.div_le_div_right hl48
  rw [if_neg (by omega)]
  have hN : atOf h c / 2 ^ h ≤ cnt h (levOf c / h) n / 2 ^ h := Nat.div_le_div_right (by unfold atOf; omega)
  rw [if_neg (by omega)]
  omega
/-- joined out of its tile's hashes it is what is stored -/
theorem in_tile_hash {k : Int} {f : Nat → Hsh} {st : List Hsh} {h c n wd : Nat} (h1 : 1 ≤ h) (G : Stored k f n st) (hc : c < laid n) (hn : n ≤ 281474976710656) (hw1 : firstOf h c + 2 ^ foldOf h c ≤ wd) (hw2 : wd ≤ wid h (levOf c / h) (atOf h c / 2 ^ h) n) :
    nodeAt k (fun i => atL (tileHs st h (levOf c / h) (atOf h c / 2 ^ h) wd) (firstOf h c + i)) (foldOf h c) 0 = atL st c := by
  have T := in_tile h1 hc hn
  obtain ⟨hc', hnode⟩ := node_in hc hn
  have hst := G.at_ (levOf c) (nodOf c) hnode
  rw [place_split hc'] at hst
  have e0 : atL st c = nodeAt k f (levOf c) (nodOf c) := by rw [atL, List.getD_eq_getElem?_getD, hst]; rfl
  rw [e0]
  have hpos : 1 ≤ wd := by have : 0 < 2 ^ foldOf h c := Nat.pow_pos (by decide); omega
  have hfit := wid_fits hpos hw2
  have := nodeAt_congr (k := k) (f := fun i => atL (tileHs st h (levOf c / h) (atOf h c / 2 ^ h) wd) (firstOf h c + i)) (g := fun i => nodeAt k f (h * (levOf c / h)) (nodOf c * 2 ^ foldOf h c + i)) (foldOf h c) 0 fun i _ hi => by
    have hi' : i < 2 ^ foldOf h c := by simpa using hi
    have hlt : firstOf h c + i < wd := by omega
    have e1 : atL (tileHs st h (levOf c / h) (atOf h c / 2 ^ h) wd) (firstOf h c + i) = atL st (placeOf (h * (levOf c / h)) (atOf h c / 2 ^ h * 2 ^ h + (firstOf h c + i))) := by
      simp [atL, tileHs, hlt]
    have e2 : atOf h c / 2 ^ h * 2 ^ h + (firstOf h c + i) = nodOf c * 2 ^ foldOf h c + i := by rw [← T.at_]; omega
    have e3 := G.at_ (h * (levOf c / h)) (nodOf c * 2 ^ foldOf h c + i) (Nat.le_trans (Nat.mul_le_mul_right _ (by rw [← T.at_]; omega)) hfit)
    show atL (tileHs st h (levOf c / h) (atOf h c / 2 ^ h) wd) (firstOf h c + i) = nodeAt k f (h * (levOf c / h)) (nodOf c * 2 ^ foldOf h c + i)
    rw [e1, e2, atL, List.getD_eq_getElem?_getD, e3]; rfl
  rw [this, nodeAt_shift, T.lev, Nat.add_zero]
end Go.Proofs.YtccjncflbbhldaaDoor
/-! ## ShL17 -/
namespace Go.Sh
open Go.ChangeShapes
variable {P : Program}
theorem eqItems_bytes (w : World) {e d : Nat} (he : P.underlying e = some (.int .u8)) (hc : P.cellsOf e = 1) {xs ys : List UInt8} : ∀ (is : List Nat), (∀ i ∈ is, i < xs.length ∧ i < ys.length) → (Op.eqItems (d + 1) e (P.cellsOf e) (bvs xs).toArray (bvs ys).toArray is).run P w = .ok (is.all fun i => xs.getD i 0 == ys.getD i 0) w
  | [], _ => by simp [Op.eqItems]
  | i :: is, h => by
    have ih := eqItems_bytes w (d := d) he hc is fun j hj => h j (List.mem_cons_of_mem _ hj)
    obtain ⟨h1, h2⟩ := h i (by simp)
    have pk : P.plainKey e = true := by unfold Program.plainKey; rw [he]
    have hx : (bvs xs).toArray[i * P.cellsOf e]? = some (.int .u8 (xs[i].toNat : Int)) := by rw [hc, Nat.mul_one]; simp [bvs, bv, h1]
    have hy : (bvs ys).toArray[i * P.cellsOf e]? = some (.int .u8 (ys[i].toNat : Int)) := by rw [hc, Nat.mul_one]; simp [bvs, bv, h2]
    simp only [Op.eqItems, Sem.run_bind, run_part_plain w pk hx, run_part_plain w pk hy, run_equalIn_int w d _ _ _ _ _ he, Result.andThen_ok]
    have e1 : ((xs[i].toNat : Int) == (ys[i].toNat : Int)) = (xs.getD i 0 == ys.getD i 0) := by
      have a1 : xs.getD i 0 = xs[i] := by simp [h1]
      have a2 : ys.getD i 0 = ys[i] := by simp [h2]
      rw [a1, a2, Bool.eq_iff_iff, beq_iff_eq, beq_iff_eq]
      constructor
      · intro h; exact UInt8.toNat_inj.1 (by omega)
      · intro h; rw [h]
    rw [e1, List.all_cons]
    generalize (xs.getD i 0 == ys.getD i 0) = q
    generalize (is.all fun i => xs.getD i 0 == ys.getD i 0) = r at ih
    cases q
    · simp
    · simpa using ih
theorem all_range_eq {xs ys : List UInt8} (h : xs.length = ys.length) : ((List.range xs.length).all fun i => xs.getD i 0 == ys.getD i 0) = decide (xs = ys) := by
  rw [Bool.eq_iff_iff, List.all_eq_true, decide_eq_true_iff]
  constructor
  · intro H
    apply List.ext_getElem h
    intro i h1 h2
    have := H i (List.mem_range.2 h1)
    simpa [h1, h2] using this
  · rintro rfl i hi
    simp
/-- arrays of bytes, compared -/
structure ArrT (P : Program) (t e n : Nat) : Prop where
  guard : P.eqGuardType P.depth t = false
  under : P.underlying t = some (.array n e)
  elem : P.underlying e = some (.int .u8)
  info : (P.info? e).isSome = true
  cells : P.cellsOf e = 1
theorem arr_run {t e n : Nat} (T : ArrT P t e n) (w : World) {xs ys : List UInt8} (hx : xs.length = n) (hy : ys.length = n) : (Op.equalIn 10000 t (.agg (bvs xs).toArray) (.agg (bvs ys).toArray)).run P w = .ok (decide (xs = ys)) w := by
  obtain ⟨i, hi⟩ := Option.isSome_iff_exists.1 T.info
  rw [show (10000 : Nat) = 9999 + 1 from rfl, run_equalIn_array w 9999 _ _ T.under hi, show (9999 : Nat) = 9998 + 1 from rfl, eqItems_bytes w T.elem T.cells _ fun i hi => by have := List.mem_range.1 hi; omega]
  subst hx
  rw [all_range_eq hy.symm]
theorem arr_neq {t e n : Nat} (T : ArrT P t e n) {x y : Operand} {xs ys : List UInt8} (hx : xs.length = n) (hy : ys.length = n) {w : World} {K : Value → Prop} (hK : K (.bool (!decide (xs = ys)))) : semR P (do eqGuard .neq t x y (.agg (bvs xs).toArray) (.agg (bvs ys).toArray); binOp .neq t (.agg (bvs xs).toArray) (.agg (bvs ys).toArray)) w K := by
  unfold semR
  simp only [Sem.run_bind, run_eqGuard_agg w .neq t x y _ _ T.guard, Result.andThen_ok, run_neq_struct, arr_run T w hx hy]
  exact ⟨trivial, hK⟩
theorem arr_eql {t e n : Nat} (T : ArrT P t e n) {x y : Operand} {xs ys : List UInt8} (hx : xs.length = n) (hy : ys.length = n) {w : World} {K : Value → Prop} (hK : K (.bool (decide (xs = ys)))) : semR P (do eqGuard .eql t x y (.agg (bvs xs).toArray) (.agg (bvs ys).toArray); binOp .eql t (.agg (bvs xs).toArray) (.agg (bvs ys).toArray)) w K := by
  unfold semR
  simp only [Sem.run_bind, run_eqGuard_agg w .eql t x y _ _ T.guard, Result.andThen_ok, run_eql_struct, arr_run T w hx hy]
  exact ⟨trivial, hK⟩
end Go.Sh
/-! ## WidthsLaw -/
set_option maxRecDepth 10000
namespace Go.Proofs.YtccjncflbbhldaaDoor
open Go.Sh Go.RowKit
open Pl (tlOf firstOf foldOf atOf fold_lt wid cnt widV ofV within_word twidth_word)
theorem A29 : ArrT PP 29 5 32 := ⟨by kernel_rfl, by kernel_rfl, by kernel_rfl, by kernel_rfl, by kernel_rfl⟩
theorem fits_nat {h l n wd : Nat} {D : Bool} (h1 : h ≤ 9223372036854775807) (h2 : l ≤ 9223372036854775807) (h3 : n ≤ 9223372036854775807) (h4 : wd ≤ 9223372036854775807) : fitsT ⟨h, l, n, wd, D⟩ := by
  refine ⟨⟨?_, ?_⟩, ⟨?_, ?_⟩, ⟨?_, ?_⟩, ⟨?_, ?_⟩⟩ <;> simp only <;> omega
/-- a tile of the tree: its place, its width in a tree of n records -/
structure Fine (h l nn n : Nat) : Prop where
  h1 : 1 ≤ h
  h8 : h ≤ 8
  l48 : h * l ≤ 48
  n64 : n ≤ 65536
theorem wid_le {h l nn n : Nat} : wid h l nn n ≤ 2 ^ h := by
  unfold Pl.wid
  split
  · exact Nat.zero_le _
  · split
    · exact Nat.zero_le _
    · exact Nat.min_le_right _ _
section
variable {Q : Value → World → Prop} {w : World}
theorem Fine.small {h l nn n wd : Nat} (F : Fine h l nn n) (h1 : 1 ≤ wd) (hw : wd ≤ wid h l nn n) : nn ≤ 65536 := by
  have hf := wid_fits h1 hw
  have hp1 : 1 ≤ 2 ^ (h * l) := Nat.pow_pos (by decide)
  have hp2 : 1 ≤ 2 ^ h := Nat.pow_pos (by decide)
  have e1 : (nn * 2 ^ h + wd) * 1 ≤ (nn * 2 ^ h + wd) * 2 ^ (h * l) := Nat.mul_le_mul_left _ hp1
  have e2 : nn * 1 ≤ nn * 2 ^ h := Nat.mul_le_mul_left _ hp2
  have := F.n64
  omega
theorem ft_word {h l nn n wd : Nat} {st : List Hsh} {a0 : Option Addr} {c0 : Nat} {S : Nat → Prop} (F : Fine h l nn n) (hst : Lies w S a0 (hvs st)) (hlen : st.length = laid n) (h1 : 1 ≤ wd) (hw : wd ≤ wid h l nn n)
    (hQ : ∀ a c w', Own w' 5 1 a (32 * wd) c (bvs (bytesOf (tileHs st h l nn wd))) → (∀ x, At a x → w.heap.size ≤ x) → Chg None w w' → Q (.tuple #[.slice a (32 * wd) c, .int .i64 0]) w') :
    C_tile_FromTree #[.slice a0 st.length c0, tg ⟨h, l, nn, wd, false⟩] w Q := by
  have hf := wid_fits h1 hw
  have hn := F.n64
  have hok : okT ⟨h, l, nn, wd, false⟩ := okT_mk F.h1 F.h8 h1 (Nat.le_trans hw wid_le) F.l48 (by omega)
  have hl : laid n ≤ 131071 := by
    have := laid_mono hn
    have e : laid 65536 = 131071 := by have := laid_two_pow 16; simpa using this
    omega
  have hr : recOf st.length = n := by rw [hlen, recOf_laid (by omega)]
  have hpw : 2 ^ h ≤ 2 ^ 8 := Nat.pow_le_pow_right (by decide) F.h8
  have hsm := F.small h1 hw
  have hl48 : l ≤ 48 := by have := F.h1; have := F.l48; have : 1 * l ≤ h * l := Nat.mul_le_mul_right _ F.h1; omega
  refine fromtree_word (t := ⟨h, l, nn, wd, false⟩) (fits_nat (by have := F.h8; omega) (by omega) (by omega) (by have := Nat.le_trans hw wid_le; omega)) hst (fun hb => ?_) (fun _ _ hb => by omega) (fun _ _ _ hb => ?_) (fun _ _ _ _ hb => ?_) fun _ _ _ _ _ a c w' o f k => ?_
  · rcases hb with hb | hb
    · exact absurd hok hb
    · cases hb
  · rw [hr] at hb; exact absurd hlen.symm hb
  · exfalso
    rw [hr] at hb
    have : wid h l nn n < wd := hb
    omega
  · exact hQ a c w' o f k
theorem in_word {k : Int} {f : Nat → Hsh} {h p n wd : Nat} {st : List Hsh} {a2 : Option Addr} {c2 : Nat} {S : Nat → Prop} (sd : ShaStd w) (F : Fine h (levOf p / h) (atOf h p / 2 ^ h) n) (G : Stored k f n st) (hp : p < laid n) (hw1 : firstOf h p + 2 ^ foldOf h p ≤ wd) (hw2 : wd ≤ wid h (levOf p / h) (atOf h p / 2 ^ h) n)
    (hd : Lies w S a2 (hvs (tileHs st h (levOf p / h) (atOf h p / 2 ^ h) wd))) (hc : 32 * wd ≤ c2) (hQ : ∀ w', Chg None w w' → Q (.tuple #[.agg (hb (atL st p)).toArray, .int .i64 0]) w') :
    C_tile_Inside #[.int .i64 k, tg ⟨h, (levOf p / h : Nat), (atOf h p / 2 ^ h : Nat), wd, false⟩, .slice a2 (32 * wd) c2, .int .i64 (p : Int)] w Q := by
  have hpos : 1 ≤ wd := by have : 0 < 2 ^ foldOf h p := Nat.pow_pos (by decide); omega
  have hf := wid_fits hpos hw2
  have hn := F.n64
  have hok : okT ⟨h, (levOf p / h : Nat), (atOf h p / 2 ^ h : Nat), wd, false⟩ := okT_mk F.h1 F.h8 hpos (Nat.le_trans hw2 wid_le) F.l48 (by omega)
  have hpw : 2 ^ h ≤ 2 ^ 8 := Nat.pow_le_pow_right (by decide) F.h8
  have hsm := F.small hpos hw2
  have hwle := Nat.le_trans hw2 wid_le
  have hl48 : levOf p / h ≤ 48 := by have : 1 * (levOf p / h) ≤ h * (levOf p / h) := Nat.mul_le_mul_right _ F.h1; have := F.l48; omega
  have hp' := (node_in hp (by omega)).1
  have hin : inT ⟨h, (levOf p / h : Nat), (atOf h p / 2 ^ h : Nat), wd, false⟩ p := by
    refine ⟨?_, ?_⟩
    · show (tlOf ((h : Int).toNat) p).W ≤ (wd : Int)
      rw [Int.toNat_natCast]
      show ((firstOf h p + 2 ^ foldOf h p : Nat) : Int) ≤ (wd : Int)
      omega
    · show ({ tlOf ((h : Int).toNat) p with W := (wd : Int) } : Tl) = _
      rw [Int.toNat_natCast]; rfl
  refine inside_word (t := ⟨h, (levOf p / h : Nat), (atOf h p / 2 ^ h : Nat), wd, false⟩) (hs := tileHs st h (levOf p / h) (atOf h p / 2 ^ h) wd) sd (fits_nat (by have := F.h8; omega) (by omega) (by omega) (by omega)) hc (fun _ _ => ⟨by rw [tileHs_len], hd⟩) (fun hb => ?_) (fun _ _ hb => absurd (show ((32 * wd : Nat) : Int) = 32 * (wd : Int) by omega) hb) (fun _ _ _ hb => absurd ⟨p, rfl, hp', hin⟩ hb) fun c' _ _ _ hc' _ _ w' k' => ?_
  · rcases hb with hb | hb
    · exact absurd hok hb
    · cases hb
  · have e : p = c' := by omega
    subst e
    have := hQ w' k'
    rw [← in_tile_hash F.h1 G hp (by omega) hw1 hw2] at this
    simpa using this
theorem j11 (h : Q (.bool false) w) : N_l10_TileWidths.j11 Q w := N_l10_TileWidths.j11_eq (h := h)
theorem within2 {n m : Int} (hm : 0 < m) (hm2 : m ≤ 4611686018427387904) (hQ : ∀ r : Nat, (r : Int) < m → Q (.int .i64 (r : Int)) w) : C_l10_within #[.int .i64 n, .int .i64 m] w Q := within_word hm hm2 hQ
/-- the last part: wider than the tree -/
theorem widths_last {h l nn n b : Nat} {x11 : Int} {k : Int} {f : Nat → Hsh} {st : List Hsh} {a0 : Option Addr} {c0 : Nat} {S : Nat → Prop} {w0 : World} (F : Fine h l nn n) (hnn : nn ≤ 65536) (G : Stored k f n st) (hst : Lies w0 S a0 (hvs st)) (hb0 : w0.heap.size ≤ b) (k0 : Chg None w0 w) (hb : Blk w b 24 (box5v h l nn x11 false)) (hQ : ∀ w', Chg None w0 w' → Q (.bool true) w') :
    N_l10_TileWidths.j27 Q a0 st.length c0 ⟨b, 0, none⟩ ((wid h l nn n : Nat) : Int) w := by
  have hn := F.n64
  have hl : laid n ≤ 131071 := by
    have := laid_mono hn
    have e : laid 65536 = 131071 := by have := laid_two_pow 16; simpa using this
    omega
  have hlen := G.len
  have hr : recOf st.length = n := by rw [hlen, recOf_laid (by omega)]
  have hpw : 2 ^ h ≤ 2 ^ 8 := Nat.pow_le_pow_right (by decide) F.h8
  have hwl : wid h l nn n ≤ 2 ^ h := wid_le
  have hl48 : l ≤ 48 := by have : 1 * l ≤ h * l := Nat.mul_le_mul_right _ F.h1; have := F.l48; omega
  have h8 := F.h8
  refine N_l10_TileWidths.j27_eq (h := ?_)
  rw [wrap_nat (by omega)]
  refine box_set hb (j := 3) (show 3 < 5 by decide) rfl fun w1 h1 k1 => ?_
  have k01 := Chg.fresh k0 k1 fun x hx => by omega
  have h1' : Blk w1 b 24 (box5v h l nn ((wid h l nn n + 1 : Nat) : Int) false) := h1
  refine N_l10_TileWidths.j28_eq (h := ld5 h1' ?_)
  have ff : fitsT ⟨h, l, nn, (wid h l nn n + 1 : Nat), false⟩ := fits_nat (by omega) (by omega) (by omega) (by omega)
  refine fromtree_word (t := ⟨h, l, nn, (wid h l nn n + 1 : Nat), false⟩) ff (hst.chg0 k01) (fun hbd w2 k2 => ?_) (fun _ _ hbd => by omega) (fun _ _ _ hbd => ?_) (fun _ _ _ _ hbd w2 k2 => ?_) fun _ _ _ _ hbd => ?_
  · rw [opnT_s]
    refine ⟨rfl, opnL_c rfl (opnI_c rfl (N_l10_TileWidths.j29_eq (h := ?_)))⟩
    refine numw (opnI_c rfl (c_neq (by decide) ?_))
    refine numw (opnI_c rfl (c_eq rfl ?_))
    have h2 := h1'.chg k2 (fun h => h)
    refine ld5 h2 (check_word (t := ⟨h, l, nn, (wid h l nn n + 1 : Nat), false⟩) ff (fun hk => ?_) fun hk w3 k3 => ?_)
    · rcases hbd with hbd | hbd
      · exact absurd hk hbd
      · cases hbd
    · exact opnI_c rfl (numw (opnI_c rfl (hQ w3 (k01.none_trans (k2.none_trans k3)))))
  · rw [hr] at hbd; exact absurd hlen.symm hbd
  · rw [opnT_s]
    refine ⟨rfl, opnL_c rfl (opnI_c rfl (N_l10_TileWidths.j29_eq (h := ?_)))⟩
    exact numw (opnI_c rfl (c_eq rfl (hQ w2 (k01.none_trans k2))))
  · exfalso
    rw [hr] at hbd
    have : wid h l nn n + 1 ≤ wid h l nn n := hbd
    omega
/-- at the tree's width -/
theorem widths_mid {h p n b b9 : Nat} {x11 : Int} {k : Int} {f : Nat → Hsh} {st : List Hsh} {o9 : Hsh} {a0 : Option Addr} {c0 : Nat} {S : Nat → Prop} {w0 : World} (sd : ShaStd w0) (F : Fine h (levOf p / h) (atOf h p / 2 ^ h) n) (G : Stored k f n st) (hp : p < laid n) (hst : Lies w0 S a0 (hvs st)) (hb0 : w0.heap.size ≤ b) (hb9 : w0.heap.size ≤ b9) (n9 : b ≠ b9) (k0 : Chg None w0 w) (hb : Blk w b 24 (box5v h (levOf p / h : Nat) (atOf h p / 2 ^ h : Nat) x11 false)) (h9 : Blk w b9 29 (Go.Proofs.YtccjncflbbhldaaDoor.hb o9)) (hQ : ∀ w', Chg None w0 w' → Q (.bool true) w') :
    N_l10_TileWidths.j22 Q k a0 st.length c0 (p : Int) ⟨b, 0, none⟩ ((wid h (levOf p / h) (atOf h p / 2 ^ h) n : Nat) : Int) ⟨b9, 0, none⟩ w := by
  have hn := F.n64
  have T := in_tile F.h1 hp (by omega)
  have hpos : 1 ≤ wid h (levOf p / h) (atOf h p / 2 ^ h) n := by have := T.wid; have : 0 < 2 ^ foldOf h p := Nat.pow_pos (by decide); omega
  have hsm := F.small hpos (Nat.le_refl _)
  refine N_l10_TileWidths.j22_eq (h := ?_)
  refine box_set hb (j := 3) (show 3 < 5 by decide) rfl fun w1 h1 k1 => ?_
  have k01 := Chg.fresh k0 k1 fun x hx => by omega
  have h1' : Blk w1 b 24 (box5v h (levOf p / h : Nat) (atOf h p / 2 ^ h : Nat) ((wid h (levOf p / h) (atOf h p / 2 ^ h) n : Nat) : Int) false) := h1
  have h91 := h9.chg k1 (fun e => n9 e.symm)
  refine N_l10_TileWidths.j23_eq (h := ld5 h1' ?_)
  refine ft_word F (hst.chg0 k01) G.len hpos (Nat.le_refl _) fun a2 c2 w2 o2 f2 k2 => ?_
  rw [opnT_s]
  refine ⟨rfl, opnL_c rfl (opnI_c rfl (N_l10_TileWidths.j24_eq (h := ?_)))⟩
  refine ld5 (h1'.chg k2 (fun h => h)) ?_
  have k02 := k01.none_trans k2
  have hd := o2.lies
  rw [bvs_bytesOf] at hd
  refine in_word (sd.chg0 k02) F G hp T.wid (Nat.le_refl _) hd o2.le fun w3 k3 => ?_
  rw [opnT_s]
  refine ⟨rfl, ?_⟩
  show opnG (some (.agg (Go.Proofs.YtccjncflbbhldaaDoor.hb (atL st p)).toArray)) _
  rw [opnG_s]
  refine opnI_c rfl ?_
  refine Blk.stAll ((h91.chg k2 (fun h => h)).chg k3 (fun h => h)) ?_ ?_ ?_ fun w4 h94 k4 => ?_
  · simp [hb_len]
  · simp [hb_len]
  · simpa using hb_one _
  have k04 := Chg.fresh (k02.none_trans k3) k4 fun x hx => by omega
  have hb4 := ((h1'.chg k2 (fun h => h)).chg k3 (fun h => h)).chg k4 n9
  refine N_l10_TileWidths.j25_eq (h := ?_)
  rw [drw_s]
  have k05 := k04.none_trans (Chg.drew0 (D := None) w4)
  have hb5 := hb4.chg (Chg.drew0 (D := None) w4) (fun h => h)
  have h95 := h94.chg (Chg.drew0 (D := None) w4) (fun h => h)
  generalize w4.drew = w5 at k05 hb5 h95
  have hpl : p < st.length := by rw [G.len]; exact hp
  refine numw (opnI_c rfl (c_nne rfl (numw (opnI_c rfl (c_nne rfl ⟨by omega, by omega, ?_⟩)))))
  rw [Int.toNat_natCast]
  obtain ⟨q, rfl⟩ := lies_flat_some hb_len (by decide) (hst.chg0 k05) hpl
  rw [opnA_e]
  refine Blk.rowAll h95 (n := 32) (by simp [hb_len]) ?_
  refine rd_rowP hb_len (hst.chg0 k05) (atL_get hpl) (n := 32 * 1) rfl ?_
  refine arr_neq A29 (xs := (atL st p).1) (ys := (atL st p).1) (atL st p).2 (atL st p).2 ?_
  rw [opnB_s]
  refine c_f (by simp) ?_
  exact widths_last F hsm G hst hb0 k05 hb5 hQ
/-- the first part: at the least width, and at one less -/
theorem widths_first {h p n b : Nat} {k : Int} {f : Nat → Hsh} {st : List Hsh} {a0 : Option Addr} {c0 : Nat} {S : Nat → Prop} {w0 : World} (sd : ShaStd w0) (F : Fine h (levOf p / h) (atOf h p / 2 ^ h) n) (G : Stored k f n st) (hp : p < laid n) (hst : Lies w0 S a0 (hvs st)) (hb0 : w0.heap.size ≤ b) (k0 : Chg None w0 w) (hb : Blk w b 24 (box5v h (levOf p / h : Nat) (atOf h p / 2 ^ h : Nat) (firstOf h p + 2 ^ foldOf h p : Nat) false)) (hQ : ∀ w', Chg None w0 w' → Q (.bool true) w') :
    C_tile_FromTree #[.slice a0 st.length c0, tg ⟨h, (levOf p / h : Nat), (atOf h p / 2 ^ h : Nat), (firstOf h p + 2 ^ foldOf h p : Nat), false⟩] w fun v64 w65 =>
  opnT (some v64) fun x66 =>
  x66.size = 2 ∧
  opnL (x66[0]?) fun x67 x67n x67c =>
  opnI .i64 (x66[1]?) fun x68 =>
  opnI .i64 (w65.cell? ((⟨b, 0, none⟩ : Addr).add 0)) fun x69 =>
  opnI .i64 (w65.cell? ((⟨b, 0, none⟩ : Addr).add 1)) fun x70 =>
  opnI .i64 (w65.cell? ((⟨b, 0, none⟩ : Addr).add 2)) fun x71 =>
  opnI .i64 (w65.cell? ((⟨b, 0, none⟩ : Addr).add 3)) fun x72 =>
  opnB (w65.cell? ((⟨b, 0, none⟩ : Addr).add 4)) fun x73 =>
  C_tile_Inside #[.int .i64 k, .agg #[.int .i64 x69, .int .i64 x70, .int .i64 x71, .int .i64 x72, .bool x73], .slice x67 x67n x67c, .int .i64 (p : Int)] w65 fun v74 w75 =>
  opnT (some v74) fun x76 =>
  x76.size = 2 ∧
  opnG (x76[0]?) fun x77 =>
  opnI .i64 (x76[1]?) fun x78 =>
  alZ PP 29 w75 fun p79 w80 =>
  stRow p79 x77 (32 * 1) w80 fun w81 =>
  drw w81 fun w82 =>
  C_l10_num #[.int .i64 x68] w82 fun v83 w84 =>
  opnI .i64 (some v83) fun x85 =>
  cond (x85 != 0)
  (N_l10_TileWidths.j15 Q w84)
  (C_l10_num #[.int .i64 x78] w84 fun v86 w87 =>
  opnI .i64 (some v86) fun x88 =>
  cond (x88 != 0)
  (N_l10_TileWidths.j15 Q w87)
  ((0 : Int) ≤ (p : Int) ∧
  (p : Int) < ((st.length : Nat) : Int) ∧
  opnA a0 fun ad89 =>
  opnRow w87 p79 (32 * 1) fun x90 =>
  opnRow w87 (ad89.add (Int.toNat (p : Int) * 32)) (32 * 1) fun x91 =>
  semR PP (do eqGuard .neq 29 (.tmp 109) (.tmp 113) (.agg x90) (.agg x91); binOp .neq 29 (.agg x90) (.agg x91)) w87 fun x92 =>
  opnB (some x92) fun x93 =>
  cond x93
  (N_l10_TileWidths.j15 Q w87)
  (opnI .i64 (w87.cell? ((⟨b, 0, none⟩ : Addr).add 3)) fun x94 =>
  cond (decide (x94 > 1))
  (opnI .i64 (w87.cell? ((⟨b, 0, none⟩ : Addr).add 0)) fun x95 =>
  opnI .i64 (w87.cell? ((⟨b, 0, none⟩ : Addr).add 1)) fun x96 =>
  opnI .i64 (w87.cell? ((⟨b, 0, none⟩ : Addr).add 2)) fun x97 =>
  opnI .i64 (w87.cell? ((⟨b, 0, none⟩ : Addr).add 3)) fun x98 =>
  opnB (w87.cell? ((⟨b, 0, none⟩ : Addr).add 4)) fun x99 =>
  alC #[.int .i64 0, .int .i64 0, .int .i64 0, .int .i64 0, .bool false] 24 w87 fun p100 w101 =>
  Array.size (#[.int .i64 x95, .int .i64 x96, .int .i64 x97, .int .i64 x98, .bool x99] : Array Value) = 5 ∧
  stC (p100.add 0) (.int .i64 x95) w101 fun w102 =>
  stC (p100.add 1) (.int .i64 x96) w102 fun w103 =>
  stC (p100.add 2) (.int .i64 x97) w103 fun w104 =>
  stC (p100.add 3) (.int .i64 x98) w104 fun w105 =>
  stC (p100.add 4) (.bool x99) w105 fun w106 =>
  opnI .i64 (w106.cell? (p100.add 3)) fun x107 =>
  stC (p100.add 3) (.int .i64 (IntKind.wrap .i64 (x107 - 1))) w106 fun w108 =>
  drw w108 fun w109 =>
  (0 : Int) ≤ (IntKind.wrap .i64 (((x67n : Nat) : Int) - 32)) ∧
  (IntKind.wrap .i64 (((x67n : Nat) : Int) - 32)) ≤ ((x67c : Nat) : Int) ∧
  opnI .i64 (w109.cell? (p100.add 0)) fun x110 =>
  opnI .i64 (w109.cell? (p100.add 1)) fun x111 =>
  opnI .i64 (w109.cell? (p100.add 2)) fun x112 =>
  opnI .i64 (w109.cell? (p100.add 3)) fun x113 =>
  opnB (w109.cell? (p100.add 4)) fun x114 =>
  C_tile_Inside #[.int .i64 k, .agg #[.int .i64 x110, .int .i64 x111, .int .i64 x112, .int .i64 x113, .bool x114], .slice (slA x67 0 x67c 1) ((Int.toNat (IntKind.wrap .i64 (((x67n : Nat) : Int) - 32))) - 0) (x67c - 0), .int .i64 (p : Int)] w109 fun v115 w116 =>
  opnT (some v115) fun x117 =>
  x117.size = 2 ∧
  opnG (x117[0]?) fun _ =>
  opnI .i64 (x117[1]?) fun x119 =>
  C_l10_num #[.int .i64 x119] w116 fun v120 w121 =>
  opnI .i64 (some v120) fun x122 =>
  cond (x122 != 105)
  (Q (.bool false) w121)
  (N_l10_TileWidths.j22 Q k a0 st.length c0 (p : Int) ⟨b, 0, none⟩ ((wid h (levOf p / h) (atOf h p / 2 ^ h) n : Nat) : Int) p79 w121))
  (N_l10_TileWidths.j22 Q k a0 st.length c0 (p : Int) ⟨b, 0, none⟩ ((wid h (levOf p / h) (atOf h p / 2 ^ h) n : Nat) : Int) p79 w87)))) := by
  have hn := F.n64
  have h8 := F.h8
  have T := in_tile F.h1 hp (by omega)
  have hp2 : 0 < 2 ^ foldOf h p := Nat.pow_pos (by decide)
  have hw := T.wid
  have htop := T.top
  have hpw : 2 ^ h ≤ 2 ^ 8 := Nat.pow_le_pow_right (by decide) F.h8
  have hpos : 1 ≤ firstOf h p + 2 ^ foldOf h p := by omega
  have hsm := F.small hpos hw
  have hl48 : levOf p / h ≤ 48 := by have : 1 * (levOf p / h) ≤ h * (levOf p / h) := Nat.mul_le_mul_right _ F.h1; have := F.l48; omega
  have hp' := (node_in hp (by omega)).1
  have hpl : p < st.length := by rw [G.len]; exact hp
  have hfit := wid_fits hpos hw
  refine ft_word F (hst.chg0 k0) G.len hpos hw fun a2 c2 w2 o2 f2 k2 => ?_
  rw [opnT_s]
  refine ⟨rfl, opnL_c rfl (opnI_c rfl (ld5 (hb.chg k2 (fun h => h)) ?_))⟩
  have k02 := k0.none_trans k2
  have hd := o2.lies
  rw [bvs_bytesOf] at hd
  refine in_word (sd.chg0 k02) F G hp (Nat.le_refl _) hw hd o2.le fun w3 k3 => ?_
  rw [opnT_s]
  refine ⟨rfl, ?_⟩
  show opnG (some (.agg (Go.Proofs.YtccjncflbbhldaaDoor.hb (atL st p)).toArray)) _
  rw [opnG_s]
  refine opnI_c rfl ?_
  refine alZ_box zero29h fun b9 w4 h94 k4 lo9 => ?_
  refine Blk.stAll h94 ?_ ?_ ?_ fun w5 h95 k5 => ?_
  · simp [hb_len]
  · simp [hb_len]
  · simpa using hb_one _
  rw [drw_s]
  have hb3 := (hb.chg k2 (fun h => h)).chg k3 (fun h => h)
  have lb3 := hb3.lt
  have s03 := (k02.none_trans k3).size
  have n9 : b ≠ b9 := by omega
  have k05 := (Chg.fresh ((k02.none_trans k3).none_trans k4) k5 fun x hx => by omega).none_trans (Chg.drew0 (D := None) w5)
  have hb5 := ((hb3.chg k4 (fun h => h)).chg k5 n9).chg (Chg.drew0 (D := None) w5) (fun h => h)
  have h96 := h95.chg (Chg.drew0 (D := None) w5) (fun h => h)
  have hd5 : Lies w5.drew (At a2) a2 (hvs (tileHs st h (levOf p / h) (atOf h p / 2 ^ h) (firstOf h p + 2 ^ foldOf h p))) := (((hd.chg0 k3).chg0 k4).chg k5 fun x hx1 hx2 e => by have := o2.lt hx2; have := k3.size; omega).chg0 (Chg.drew0 (D := None) w5)
  generalize w5.drew = w6 at k05 hb5 h96 hd5
  refine numw (opnI_c rfl (c_nne rfl ?_))
  refine numw (opnI_c rfl (c_nne rfl ⟨by omega, by omega, ?_⟩))
  rw [Int.toNat_natCast]
  obtain ⟨q, rfl⟩ := lies_flat_some hb_len (by decide) (hst.chg0 k05) hpl
  rw [opnA_e]
  refine Blk.rowAll h96 (n := 32) (by simp [hb_len]) ?_
  refine rd_rowP hb_len (hst.chg0 k05) (atL_get hpl) (n := 32 * 1) rfl ?_
  refine arr_neq A29 (xs := (atL st p).1) (ys := (atL st p).1) (atL st p).2 (atL st p).2 ?_
  rw [opnB_s]
  refine c_f (by simp) ?_
  refine opnI_c (hb5.rd 3 rfl) ?_
  have h96' : Blk w6 b9 29 (Go.Proofs.YtccjncflbbhldaaDoor.hb (atL st p)) := by simpa using h96
  by_cases g : 1 < firstOf h p + 2 ^ foldOf h p
  · refine c_gt (by omega) (ld5 hb5 (mk5 fun bl w7 h7 k7 lo7 => ?_))
    refine opnI_c (h7.rd 3 rfl) ?_
    have e1 : IntKind.wrap .i64 (((firstOf h p + 2 ^ foldOf h p : Nat) : Int) - 1) = ((firstOf h p + 2 ^ foldOf h p - 1 : Nat) : Int) := by rw [wrap_id (by omega) (by omega)]; omega
    rw [e1]
    refine box_set h7 (j := 3) (show 3 < 5 by decide) rfl fun w8 h8' k8 => ?_
    have h8b : Blk w8 bl 24 (box5v h (levOf p / h : Nat) (atOf h p / 2 ^ h : Nat) ((firstOf h p + 2 ^ foldOf h p - 1 : Nat) : Int) false) := h8'
    rw [drw_s]
    have k68 : Chg None w6 w8.drew := (Chg.fresh k7 k8 fun x hx => by omega).none_trans (Chg.drew0 (D := None) w8)
    have h8c := h8b.chg (Chg.drew0 (D := None) w8) (fun h => h)
    generalize w8.drew = w9 at k68 h8c
    have e2 : IntKind.wrap .i64 (((32 * (firstOf h p + 2 ^ foldOf h p) : Nat) : Int) - 32) = ((32 * (firstOf h p + 2 ^ foldOf h p - 1) : Nat) : Int) := by rw [wrap_id (by omega) (by omega)]; omega
    rw [e2]
    have hle := o2.le
    refine ⟨by omega, by omega, ld5 h8c ?_⟩
    rw [slA_zero, Int.toNat_natCast, Nat.sub_zero, Nat.sub_zero]
    have hdl : Lies w9 (At a2) a2 (hvs ((tileHs st h (levOf p / h) (atOf h p / 2 ^ h) (firstOf h p + 2 ^ foldOf h p)).take (firstOf h p + 2 ^ foldOf h p - 1))) := by
      rw [← hvs_take]; exact (hd5.chg0 k68).take _
    have hok : okT ⟨h, (levOf p / h : Nat), (atOf h p / 2 ^ h : Nat), ((firstOf h p + 2 ^ foldOf h p - 1 : Nat) : Int), false⟩ := okT_mk F.h1 F.h8 (by omega) (by omega) F.l48 (Nat.le_trans (Nat.mul_le_mul_right _ (by omega)) (Nat.le_trans hfit (by omega)))
    have fin : ∀ w', Chg None w9 w' → N_l10_TileWidths.j22 Q k (some q) st.length c0 (p : Int) ⟨b, 0, none⟩ ((wid h (levOf p / h) (atOf h p / 2 ^ h) n : Nat) : Int) ⟨b9, 0, none⟩ w' := fun w' k' =>
      widths_mid sd F G hp hst hb0 (by omega) n9 (k05.none_trans (k68.none_trans k')) (hb5.chg (k68.none_trans k') (fun h => h)) (h96'.chg (k68.none_trans k') (fun h => h)) hQ
    refine inside_word (t := ⟨h, (levOf p / h : Nat), (atOf h p / 2 ^ h : Nat), ((firstOf h p + 2 ^ foldOf h p - 1 : Nat) : Int), false⟩) (sd.chg0 (k05.none_trans k68)) (fits_nat (by omega) (by omega) (by omega) (by omega)) (by omega) (fun _ _ => ⟨by rw [List.length_take, tileHs_len]; omega, hdl⟩) (fun hbd => ?_) (fun _ _ hbd => absurd (show ((32 * (firstOf h p + 2 ^ foldOf h p - 1) : Nat) : Int) = 32 * ((firstOf h p + 2 ^ foldOf h p - 1 : Nat) : Int) by omega) hbd) (fun _ _ _ _ w10 k10 => ?_) fun c' _ _ _ hc' _ hin => ?_
    · rcases hbd with hbd | hbd
      · exact absurd hok hbd
      · cases hbd
    · rw [opnT_s]
      refine ⟨rfl, ?_⟩
      show opnG (some (.agg (Go.Proofs.YtccjncflbbhldaaDoor.hb zeroH).toArray)) _
      rw [opnG_s]
      exact opnI_c rfl (numw (opnI_c rfl (c_nne rfl (fin w10 k10))))
    · exfalso
      have e : p = c' := by omega
      subst e
      have h1 : (tlOf ((h : Int).toNat) p).W ≤ ((firstOf h p + 2 ^ foldOf h p - 1 : Nat) : Int) := hin.1
      rw [Int.toNat_natCast] at h1
      have h2 : ((firstOf h p + 2 ^ foldOf h p : Nat) : Int) ≤ ((firstOf h p + 2 ^ foldOf h p - 1 : Nat) : Int) := h1
      omega
  · exact c_ngt (by omega) (widths_mid sd F G hp hst hb0 (by omega) n9 k05 hb5 h96' hQ)
theorem ofV_tl {h p : Nat} (h1 : 1 ≤ h) (h8 : h ≤ 8) (hp : p < 562949953421311) : ofV (h : Int) (p : Int) = (⟨h, (levOf p / h : Nat), (atOf h p / 2 ^ h : Nat), (firstOf h p + 2 ^ foldOf h p : Nat), false⟩, 0) := by
  unfold Pl.ofV
  rw [if_pos ⟨by omega, by omega, by omega, by omega⟩, Int.toNat_natCast, Int.toNat_natCast]; rfl
theorem widV_n {h l nn n : Nat} (h1 : 1 ≤ h) (h8 : h ≤ 8) (hn : n ≤ 65536) : widV (h : Int) (l : Int) (nn : Int) (n : Int) = (((wid h l nn n : Nat) : Int), 0) := by
  unfold Pl.widV
  rw [if_pos ⟨by omega, by omega, by omega, by omega, by omega, by omega⟩, Int.toNat_natCast, Int.toNat_natCast, Int.toNat_natCast, Int.toNat_natCast]
/-- TileWidths answers true -/
theorem widths_word {z0 z1 z2 z3 : Int} {a4 : Option Addr} {n4 c4 : Nat} (sd : ShaStd w) (hQ : ∀ w', Chg None w w' → Q (.bool true) w') :
    C_l10_TileWidths #[.agg #[.int .i64 z0, .int .i64 z1, .int .i64 z2, .int .i64 z3, .slice a4 n4 c4]] w Q := by
  refine C_l10_TileWidths_eq _ _ _ _ _ _ _ _ _ ?_
  refine alC_box fun b1 w1 h1 k1 lo1 => ?_
  refine opnI_c (h1.rd 1 rfl) (within2 (by decide) (by decide) fun r hr => opnI_c rfl ?_)
  refine opnI_c (h1.rd 2 rfl) (within2 (by decide) (by decide) fun rh hrh => opnI_c rfl ?_)
  refine opnI_c (h1.rd 0 rfl) ?_
  have e1 : IntKind.wrap .i64 ((r : Int) + 1) = ((r + 1 : Nat) : Int) := wrap_nat (by omega)
  have e2 : IntKind.wrap .i64 ((rh : Int) + 1) = ((rh + 1 : Nat) : Int) := wrap_nat (by omega)
  rw [e1, e2]
  obtain ⟨n, hn⟩ : ∃ n, n = r + 1 := ⟨_, rfl⟩
  obtain ⟨h, hh⟩ : ∃ h, h = rh + 1 := ⟨_, rfl⟩
  rw [← hn, ← hh]
  refine tree_word (salt := 3) (sd.chg0 k1) (by omega) fun a0 c0 st w2 G o2 f2 k2 => ?_
  rw [opnT_s]
  refine ⟨rfl, opnL_c rfl ?_⟩
  show opnG (some (.agg (hb (rootH z0 st n)).toArray)) _
  rw [opnG_s]
  refine opnB_c rfl ?_
  refine alZ_box zero29h fun b8 w3 h8 k3 lo8 => ?_
  refine Blk.stAll h8 ?_ ?_ ?_ fun w4 h84 k4 => ?_
  · simp [hb_len]
  · simp [hb_len]
  · simpa using hb_one _
  have l1 := (h1.chg k2 (fun h => h)).lt
  have s2 := (k1.none_trans k2).size
  have k04 := Chg.fresh ((k1.none_trans k2).none_trans k3) k4 fun x hx => by omega
  have o4 := (o2.chg0 k3).chg k4 fun x hx e => by have := o2.lt hx; omega
  refine c_not_true rfl ?_
  have h14 := ((h1.chg k2 (fun h => h)).chg k3 (fun h => h)).chg k4 (fun e => by omega)
  refine opnI_c (h14.rd 3 rfl) ?_
  have hlen := G.len
  have hge := laid_ge n
  have hle := laid_le n
  refine within2 (by omega) (by omega) fun p hp => opnI_c rfl ?_
  have hpl : p < laid n := by omega
  have hp' := (node_in hpl (by omega)).1
  have h1' : 1 ≤ h := by omega
  have h8' : h ≤ 8 := by omega
  have T := in_tile h1' hpl (by omega)
  have F : Fine h (levOf p / h) (atOf h p / 2 ^ h) n := ⟨h1', h8', by have := T.lev; have := lev_le hp'; omega, by omega⟩
  refine Pl.of_word fun w5 k5 => ?_
  rw [ofV_tl h1' h8' hp', opnT_s]
  refine ⟨rfl, opnG5 (opnI_c rfl ?_)⟩
  refine mk5 fun b w6 h6 k6 lo6 => ?_
  refine opnI_c (h6.rd 1 rfl) (opnI_c (h6.rd 2 rfl) ?_)
  refine twidth_word fun w7 k7 => ?_
  rw [widV_n h1' h8' (by omega), opnT_s]
  refine ⟨rfl, opnI_c rfl (opnI_c rfl ?_)⟩
  have h7 := h6.chg k7 (fun h => h)
  refine numw (opnI_c rfl (c_nne rfl ?_))
  refine numw (opnI_c rfl (c_nne rfl ?_))
  refine opnI_c (h7.rd 0 rfl) (c_nne rfl (opnI_c (h7.rd 3 rfl) ?_))
  have hp2 : 0 < 2 ^ foldOf h p := Nat.pow_pos (by decide)
  refine c_nlt (a := ((firstOf h p + 2 ^ foldOf h p : Nat) : Int)) (by omega) (opnI_c (h7.rd 3 rfl) ?_)
  have hwd := T.wid
  refine c_ngt (a := ((firstOf h p + 2 ^ foldOf h p : Nat) : Int)) (b := ((wid h (levOf p / h) (atOf h p / 2 ^ h) n : Nat) : Int)) (by omega) (opnB_c (h7.rd 4 rfl) (c_f rfl ?_))
  refine ld5 h7 ?_
  have k45 := k5
  exact widths_first (w0 := w5) (sd.chg0 (k04.none_trans k5)) F G hpl (o4.chg0 k5).lies (by omega) (k6.none_trans k7) h7 fun w' k' => hQ w' ((k04.none_trans k5).none_trans k')
end
end Go.Proofs.YtccjncflbbhldaaDoor
/-! ## ShL5 -/
namespace Go.Sh
open Go.ChangeShapes Go.WideShapes Go.RowKit
section
variable {H : Type} {enc : TypeId × Value → H} {P : Program}

theorem trodAll_stays (hl : laidOutB P = true) {W W' : World} {sp' : Nat → Bool} (hc : Chg None W W') : ∀ {ts : List TypeId} {vs : List Value} {ds : List (DataW H)} {ps : List MemPlace}, (∀ t ∈ ts, P.readableRec t = true ∧ t < P.types.size) →
    DataW.TrodAll enc P W 0 (fun _ => true) true ts vs ds ps → (∀ p ∈ ps, p.block < W.heap.size) → (∀ p ∈ ps, sp' p.block = true) → DataW.TrodAll enc P W' 0 sp' true ts vs ds ps
  | [], vs, ds, ps, _, h, _, _ => by
    obtain ⟨rfl, rfl, rfl⟩ := trodAll_nil h
    exact trodAll_mk0
  | t :: ts, vs, ds, ps, ht, h, hlt, hs => by
    obtain ⟨v, vs', d, ds', p, q, rfl, rfl, rfl, h1, h2⟩ := trodAll_cons h
    have hb : Below W.heap.size W W' := Fr.below hc.fr (Nat.le_refl _)
    refine trodAll_cons_mk (WideElems.Trod_stays hl (ht t List.mem_cons_self).1 (ht t List.mem_cons_self).2 h1 (fun x hx => hb.same (hlt x (List.mem_append_left _ hx))) (fun x hx => hs x (List.mem_append_left _ hx))) ?_
    exact trodAll_stays hl hc (fun t ht' => ht t (List.mem_cons_of_mem _ ht')) h2 (fun x hx => hlt x (List.mem_append_right _ hx)) (fun x hx => hs x (List.mem_append_right _ hx))

theorem post_same_old {f : Func} {s : ChangeSpec} {apart fresh handsOn again : Bool} {W W' : World} {args : Array Value} {v : Value} {ds gs : List (DataW H)} {before pa pv : List MemPlace}
    (hW : DataW.Whole enc P f.params.toList s.vars apart W args.toList ds gs before)
    (hres : ∀ (b : Nat) (sp : Nat → Bool) (hd : Bool), DataW.TrodAll enc P W' b sp hd f.resultTypes.toList (v.resultList f.resultTypes.size) (s.fn H (ds ++ gs)).results [])
    (hargs : ∀ sp : Nat → Bool, (∀ p ∈ before, sp p.block = true) → DataW.TrodAll enc P W' 0 sp true f.params.toList args.toList (s.fn H (ds ++ gs)).args pa)
    (hvars : ∀ sp : Nat → Bool, (∀ p ∈ before, sp p.block = true) → DataW.TrodVars enc P W' sp s.vars (s.fn H (ds ++ gs)).vars pv)
    (hps : before = pa ++ pv) (hk : W.keptBut W' (· ∈ before)) (hfz : ∀ a : Addr, a.block < W.heap.size → W'.frozen? a = W.frozen? a)
    (hok : ∀ (j : Nat) (t : TypeId) (r : Value), f.resultTypes[j]? = some t → (v.resultList f.resultTypes.size)[j]? = some r → Value.okWide P W' .any 0 t r) :
    s.post enc P f apart fresh handsOn again W args v W' := by
  have hold : ∀ p ∈ before, (fun b => decide (b < W.heap.size)) p.block = true := fun p hp => by simpa using hW.lt p hp
  have hlt := hW.lt
  refine ⟨ds, gs, before, [], pa, pv, hW, hres _ _ _, hargs _ hold, hvars _ hold, World.keptBut_mono (fun p hp => ⟨hp, ?_⟩) hk, fun _ => ?_⟩
  · rw [hps, List.mem_append] at hp
    exact Or.inr hp
  · obtain ⟨_, _, _, _, _, hz, hn⟩ := hW
    refine ⟨hok, _, _, ([] ++ pa) ++ pv, ⟨[] ++ pa, pv, trodAll_append (hargs _ (fun _ _ => rfl)) (hres _ _ _), hvars _ (fun _ _ => rfl), rfl, ?_, ?_⟩, ?_⟩
    · intro b off hp
      have hp' : MemPlace.cell b off ∈ before := by rw [hps]; simpa using hp
      rw [hfz _ (hlt _ hp')]
      exact hz b off hp'
    · intro ha
      have := hn ha
      rw [hps] at this
      simpa using this
    · intro p hp _
      rw [hps]
      simpa using hp

/-- A law answered true and left all that was there as it was. -/
theorem post_law {f : Func} {s : ChangeSpec} {apart fresh handsOn again : Bool} {W W' : World} {args : Array Value} {ds gs : List (DataW H)} {before : List MemPlace} {tb : TypeId}
    (hl : laidOutB P = true) (hread : (f.params.toList.all fun t => P.readableRec t && decide (t < P.types.size)) = true) (hr : f.resultTypes = #[tb]) (hb : P.underlying tb = some .bool) (hv : s.vars = [])
    (hfn : s.fn H (ds ++ gs) = { results := [.lit (.bool true)], args := ds }) (hW : DataW.Whole enc P f.params.toList s.vars apart W args.toList ds gs before) (hc : Chg None W W') :
    s.post enc P f apart fresh handsOn again W args (.bool true) W' := by
  have hlt := hW.lt
  have hW0 := hW
  obtain ⟨p, q, hA, hV, hpq, _, _⟩ := hW
  rw [hv] at hV
  obtain ⟨rfl, rfl⟩ := trodVars_none hV
  have hbel : Below W.heap.size W W' := Fr.below hc.fr (Nat.le_refl _)
  refine post_same_old (pa := p) (pv := []) hW0 (fun b sp hd => ?_) (fun sp hs => ?_) (fun sp hs => ?_) (by rw [hpq]) (hbel.frame _) (fun a ha => hbel.frozen ha) (ok_one hr rfl (okWide_bool_mk hb _))
  · rw [hfn, hr]
    exact trodAll_cons_mk (shut_bool hb _) trodAll_mk0
  · rw [hfn]
    exact trodAll_stays hl hc (fun t ht => by simpa using List.all_eq_true.1 hread t ht) hA (fun x hx => hlt x (by rw [hpq]; exact List.mem_append_left _ hx)) (fun x hx => hs x (by rw [hpq]; exact List.mem_append_left _ hx))
  · rw [hfn, hv]; rfl

/-! ### arguments, opened -/
/-- cells of a []byte -/
theorem bytes_of {W : World} {x : Addr} {len : Nat} {zs : List Int} (hl : len ≤ zs.length) (hcell : ∀ i, i < zs.length → W.cell? (x.add i) = some (.int .u8 (zs.getD i 0))) (hwf : ∀ n ∈ zs, (Lit.int .u8 n).wf = true) :
    ∃ l : List UInt8, l.length = len ∧ Lies W (fun _ => True) (some x) (bvs l) := by
  refine ⟨(zs.take len).map fun n => UInt8.ofNat n.toNat, by simp; omega, fun j v hj => ⟨x, rfl, trivial, ?_⟩⟩
  have hjl : j < len := by
    have := (List.getElem?_eq_some_iff.1 hj).1
    simp at this; omega
  have hjz : j < zs.length := by omega
  have hv : v = bv (UInt8.ofNat (zs[j]).toNat) := by
    simp only [bvs, List.map_map, List.getElem?_map, List.getElem?_take, hjl, if_true, List.getElem?_eq_getElem hjz, Option.map_some, Function.comp_apply] at hj
    exact (Option.some.inj hj).symm
  have hw := hwf zs[j] (List.getElem_mem hjz)
  have hb : 0 ≤ zs[j] ∧ zs[j] ≤ 255 := by simpa [Lit.wf, IntKind.min, IntKind.max, IntKind.signed, IntKind.bits] using hw
  rw [hcell j hjz, hv]
  have e : zs.getD j 0 = zs[j] := by simp [List.getD, List.getElem?_eq_getElem hjz]
  rw [e]
  simp only [bv]
  congr 2
  have h2 : (UInt8.ofNat (zs[j]).toNat).toNat = (zs[j]).toNat := by
    rw [UInt8.toNat_ofNat']; omega
  rw [h2]; omega
/-- A []byte that came in. -/
theorem open_bytes {t e : TypeId} {W : World} {r : Reach} {b0 : Nat} {v : Value} {d : DataW H} {p : List MemPlace} (ht : P.underlying t = some (.slice e)) (he : P.underlying e = some (.int .u8)) (hc : P.cellsOf e = 1) (hval : Value.okWide P W r b0 t v) (h : DataW.Trod enc P W 0 (fun _ => true) true t v d p) :
    ∃ a c l, v = .slice a (List.length l) c ∧ Lies W (fun _ => True) a (bvs l) ∧ l.length ≤ c ∧ c ≤ maxLen := by
  obtain ⟨a, len, cap, rfl⟩ := okWide_slice ht hval
  obtain ⟨fuel, hf⟩ := h
  rcases open_ints ht he hc hf with ⟨hcs, _⟩ | ⟨x, l, c, zs, hcs, _, hl, hm, hz, _, hcell, hwz⟩
  · simp [Value.cells] at hcs
    obtain ⟨rfl, rfl, rfl⟩ := hcs
    exact ⟨none, 0, [], rfl, Lies.nil, Nat.le_refl _, Nat.zero_le _⟩
  · simp [Value.cells] at hcs
    obtain ⟨rfl, rfl, rfl⟩ := hcs
    simp only [if_true] at hz
    obtain ⟨bs, h1, h2⟩ := bytes_of (len := len) (by omega) hcell hwz
    exact ⟨_, cap, bs, by rw [h1], h2, by omega, hm⟩
/-- A [][]byte that came in. -/
theorem open_recs {t e b : TypeId} {W : World} {r : Reach} {b0 : Nat} {v : Value} {d : DataW H} {p : List MemPlace} (ht : P.underlying t = some (.slice e)) (he : P.underlying e = some (.slice b)) (hb : P.underlying b = some (.int .u8)) (hce : P.cellsOf e = 1) (hcb : P.cellsOf b = 1) (hval : Value.okWide P W r b0 t v) (h : DataW.Trod enc P W 0 (fun _ => true) true t v d p) :
    ∃ a c rs, v = .slice a (List.length rs) c ∧ Recs W (fun _ => True) a rs ∧ rs.length ≤ c ∧ c ≤ maxLen := by
  obtain ⟨a, len, cap, rfl⟩ := okWide_slice ht hval
  obtain ⟨fuel, hf⟩ := h
  rcases Go.Deep.open_slice1 ht hce hf with ⟨hcs, _⟩ | ⟨x, l, c, m, n, V, D, Pl, hcs, _, hl, hm, hmm, _, hx⟩
  · simp [Value.cells] at hcs
    obtain ⟨rfl, rfl, rfl⟩ := hcs
    exact ⟨none, 0, [], rfl, fun j r hj => by simp at hj, Nat.le_refl _, Nat.zero_le _⟩
  · simp [Value.cells] at hcs
    obtain ⟨rfl, rfl, rfl⟩ := hcs
    simp only [if_true] at hmm
    subst hmm
    have each : ∀ i, i < len → ∃ r : List UInt8, ∃ q cq, W.cell? (x.add i) = some (.slice q r.length cq) ∧ r.length ≤ cq ∧ Lies W (fun _ => True) q (bvs r) := by
      intro i hi
      obtain ⟨h1, h2⟩ := hx i (by omega)
      rcases open_ints he hb hcb h2 with ⟨hcs, _⟩ | ⟨y, l', c', zs, hcs, _, hl', hm', hz, _, hcell, hwz⟩
      · simp only [List.cons.injEq, and_true] at hcs
        exact ⟨[], none, 0, by rw [h1, hcs]; rfl, Nat.le_refl _, Lies.nil⟩
      · simp only [List.cons.injEq, and_true] at hcs
        simp only [if_true] at hz
        obtain ⟨bs, g1, g2⟩ := bytes_of (len := l') (by omega) hcell hwz
        exact ⟨bs, _, c', by rw [h1, hcs, g1], by omega, g2⟩
    obtain ⟨R, hR⟩ := Go.Deep.choose_lt (n := len) (p := fun i (r : List UInt8) => ∃ q cq, W.cell? (x.add i) = some (.slice q r.length cq) ∧ r.length ≤ cq ∧ Lies W (fun _ => True) q (bvs r)) each
    refine ⟨some x, _, (List.range len).map R, by simp, fun j r hj => ?_, by simp; omega, hm⟩
    have hjl : j < len := by
      have := (List.getElem?_eq_some_iff.1 hj).1
      simpa using this
    have hr : r = R j := by simpa [hjl] using hj.symm
    obtain ⟨q, cq, h1, h2, h3⟩ := hR j hjl
    rw [hr]
    exact ⟨x, q, cq, rfl, trivial, h1, h2, h3⟩
end
end Go.Sh
/-! ## ShL7 -/
namespace Go.Sh
open Go.ChangeShapes Go.WideShapes Go.RowKit
section
variable {H : Type} {enc : TypeId × Value → H} {P : Program}

/-- What is read weighs no more than the reach. -/
def Wt (P : Program) (t : TypeId) (d : DataW H) : Prop := ∀ n ∈ d.weights P t, n ≤ 140737488351232
theorem Wt.all : ∀ {ts : List TypeId} {ds : List (DataW H)}, (DataW.weightsEach P ts ds).all (· ≤ reachBytes) = true → ∀ {j : Nat} {t : TypeId} {d : DataW H}, ts[j]? = some t → ds[j]? = some d → Wt P t d := fun h _ _ _ ht hd n hn => by
  have := List.all_eq_true.1 h n (DataW.weights_mem_each ht hd n hn)
  exact of_decide_eq_true this
theorem Wt.elem {e : TypeId} : ∀ {l : List (DataW H)} {d : DataW H}, d ∈ l → ∀ n ∈ d.weights P e, n ∈ DataW.weightsAll P e l
  | x :: l, d, h, n, hn => by
    simp only [DataW.weightsAll, List.mem_append]
    rcases List.mem_cons.1 h with rfl | h
    · exact .inl hn
    · exact .inr (Wt.elem h n hn)
  | [], _, h, _, _ => by cases h
theorem Wt.slice {t e : TypeId} {xs ys : List (DataW H)} (ht : P.underlying t = some (.slice e)) (h : Wt P t (.slice xs ys)) : (xs.length + ys.length) * P.bytesOf e ≤ 140737488351232 ∧ (∀ d ∈ xs, Wt P e d) ∧ ∀ d ∈ ys, Wt P e d := by
  refine ⟨h _ (by simp [DataW.weights, ht]), fun d hd n hn => h n ?_, fun d hd n hn => h n ?_⟩
  · simp only [DataW.weights, ht, List.mem_cons, List.mem_append]; exact .inr (.inl (Wt.elem hd n hn))
  · simp only [DataW.weights, ht, List.mem_cons, List.mem_append]; exact .inr (.inr (Wt.elem hd n hn))
theorem Wt.str {t : TypeId} {bs : List UInt8} (h : Wt P t (.lit (.string bs) : DataW H)) : bs.length ≤ 140737488351232 := h _ (by simp [DataW.weights])

theorem open_bytes_w {t e : TypeId} {W : World} {r : Reach} {b0 : Nat} {v : Value} {d : DataW H} {p : List MemPlace} (ht : P.underlying t = some (.slice e)) (he : P.underlying e = some (.int .u8)) (hc : P.cellsOf e = 1) (hb : P.bytesOf e = 1) (hval : Value.okWide P W r b0 t v) (h : DataW.Trod enc P W 0 (fun _ => true) true t v d p) (hw : Wt P t d) :
    ∃ a c l, v = .slice a (List.length l) c ∧ Lies W (fun _ => True) a (bvs l) ∧ l.length ≤ c ∧ c ≤ 140737488351232 := by
  obtain ⟨a, len, cap, rfl⟩ := okWide_slice ht hval
  obtain ⟨fuel, hf⟩ := h
  rcases open_ints ht he hc hf with ⟨hcs, _⟩ | ⟨x, l, c, zs, hcs, _, hl, hm, hz, hx, hcell, hwz⟩
  · simp [Value.cells] at hcs
    obtain ⟨rfl, rfl, rfl⟩ := hcs
    exact ⟨none, 0, [], rfl, Lies.nil, Nat.le_refl _, Nat.zero_le _⟩
  · simp [Value.cells] at hcs
    obtain ⟨rfl, rfl, rfl⟩ := hcs
    simp only [if_true] at hz
    obtain ⟨bs, h1, h2⟩ := bytes_of (len := len) (by omega) hcell hwz
    have hd : d = .slice (lits .u8 (zs.take len)) (lits .u8 (zs.drop len)) := congrArg Prod.fst hx
    have := (Wt.slice ht (hd ▸ hw)).1
    simp only [lits, List.length_map, List.length_take, List.length_drop, hb] at this
    exact ⟨_, cap, bs, by rw [h1], h2, by omega, by omega⟩
theorem open_recs_w {t e b : TypeId} {W : World} {r : Reach} {b0 : Nat} {v : Value} {d : DataW H} {p : List MemPlace} (ht : P.underlying t = some (.slice e)) (he : P.underlying e = some (.slice b)) (hb : P.underlying b = some (.int .u8)) (hce : P.cellsOf e = 1) (hcb : P.cellsOf b = 1) (hbe : P.bytesOf e = 24) (hbb : P.bytesOf b = 1) (hval : Value.okWide P W r b0 t v) (h : DataW.Trod enc P W 0 (fun _ => true) true t v d p) (hw : Wt P t d) :
    ∃ a c rs, v = .slice a (List.length rs) c ∧ Recs W (fun _ => True) a rs ∧ rs.length ≤ c ∧ c * 24 ≤ 140737488351232 ∧ ∀ r ∈ rs, r.length ≤ 140737488351232 := by
  obtain ⟨a, len, cap, rfl⟩ := okWide_slice ht hval
  obtain ⟨fuel, hf⟩ := h
  rcases Go.Deep.open_slice1 ht hce hf with ⟨hcs, _⟩ | ⟨x, l, c, m, n, V, D, Pl, hcs, _, hl, hm, hmm, hxx, hx⟩
  · simp [Value.cells] at hcs
    obtain ⟨rfl, rfl, rfl⟩ := hcs
    exact ⟨none, 0, [], rfl, fun j r hj => by simp at hj, Nat.le_refl _, Nat.zero_le _, by simp⟩
  · simp [Value.cells] at hcs
    obtain ⟨rfl, rfl, rfl⟩ := hcs
    simp only [if_true] at hmm
    subst hmm
    have hd : d = .slice ((List.range len).map D) ((List.range (m - len)).map fun j => D (len + j)) := congrArg Prod.fst hxx
    have hww := Wt.slice ht (hd ▸ hw)
    have each : ∀ i, i < len → ∃ r : List UInt8, ∃ q cq, W.cell? (x.add i) = some (.slice q r.length cq) ∧ r.length ≤ cq ∧ Lies W (fun _ => True) q (bvs r) ∧ r.length ≤ 140737488351232 := by
      intro i hi
      obtain ⟨h1, h2⟩ := hx i (by omega)
      have hwi : Wt P e (D i) := hww.2.1 _ (List.mem_map_of_mem (List.mem_range.2 hi))
      rcases open_ints he hb hcb h2 with ⟨hcs, _⟩ | ⟨y, l', c', zs, hcs, _, hl', hm', hz, hxi, hcell, hwz⟩
      · simp only [List.cons.injEq, and_true] at hcs
        exact ⟨[], none, 0, by rw [h1, hcs]; rfl, Nat.le_refl _, Lies.nil, by simp⟩
      · simp only [List.cons.injEq, and_true] at hcs
        simp only [if_true] at hz
        obtain ⟨bs, g1, g2⟩ := bytes_of (len := l') (by omega) hcell hwz
        have hdi : D i = .slice (lits .u8 (zs.take l')) (lits .u8 (zs.drop l')) := congrArg Prod.fst hxi
        have := (Wt.slice he (hdi ▸ hwi)).1
        simp only [lits, List.length_map, List.length_take, List.length_drop, hbb] at this
        exact ⟨bs, _, c', by rw [h1, hcs, g1], by omega, g2, by omega⟩
    obtain ⟨R, hR⟩ := Go.Deep.choose_lt (n := len) (p := fun i (r : List UInt8) => ∃ q cq, W.cell? (x.add i) = some (.slice q r.length cq) ∧ r.length ≤ cq ∧ Lies W (fun _ => True) q (bvs r) ∧ r.length ≤ 140737488351232) each
    refine ⟨some x, m, (List.range len).map R, by simp, fun j r hj => ?_, by simp; omega, ?_, fun r hr => ?_⟩
    · have hjl : j < len := by
        have := (List.getElem?_eq_some_iff.1 hj).1
        simpa using this
      have hr : r = R j := by simpa [hjl] using hj.symm
      obtain ⟨q, cq, h1, h2, h3, _⟩ := hR j hjl
      rw [hr]
      exact ⟨x, q, cq, rfl, trivial, h1, h2, h3⟩
    · have := hww.1
      simp only [List.length_map, List.length_range, hbe] at this
      rwa [show len + (m - len) = m by omega] at this
    · obtain ⟨i, hi, rfl⟩ := List.mem_map.1 hr
      obtain ⟨_, _, _, _, _, h4⟩ := hR i (List.mem_range.1 hi)
      exact h4
end
end Go.Sh
/-! ## ShL11 -/
namespace Go.Sh
open Go.ChangeShapes Go.WideShapes Go.RowKit
section
variable {H : Type} {enc : TypeId × Value → H} {P : Program} {W : World}
/-- a struct's fields, one by one -/
theorem open_fields {t : TypeId} {fs : Array Field} {r : Reach} {b0 : Nat} {v : Value} {d : DataW H} {p : List MemPlace} (hs : P.underlying t = some (.struct fs)) (hval : Value.okWide P W r b0 t v) (h : DataW.Trod enc P W 0 (fun _ => true) true t v d p) (hw : Wt P t d) :
    ∃ cs : Array Value, v = .agg cs ∧ cs.size = P.cellsOf t ∧ ∀ (i : Nat) (f : Field), fs[i]? = some f → ∃ y n, Wt P f.type y.1 ∧ DataW.trod enc P W 0 (fun _ => true) true n f.type ((cs.toList.drop f.offset).take (P.cellsOf f.type)) = some y := by
  obtain ⟨cs, rfl, hsz⟩ := okWide_struct hs hval
  obtain ⟨fuel, hf⟩ := h
  obtain ⟨xs, n, _, hx, hl, hlen, hfl⟩ := DataW.trod_struct hs hf
  refine ⟨cs, rfl, hsz, fun i f hfi => ?_⟩
  have hi : i < xs.length := by rw [hlen]; exact (Array.getElem?_eq_some_iff.1 hfi).1
  have h1 := hfl i f hfi
  rw [List.getElem?_eq_getElem hi] at h1
  refine ⟨xs[i], n, ?_, h1⟩
  have hd : d = .agg (xs.map (·.1)) := congrArg Prod.fst hx
  subst hd
  intro m hm
  refine hw m ?_
  simp only [DataW.weights, hs]
  exact DataW.weights_mem_each (j := i) (t := f.type) (d := xs[i].1) (by simp [hfi]) (by simp [hi]) m hm
theorem one_of {l : List Value} {o : Nat} {v : Value} (h : (l.drop o).take 1 = [v]) : l[o]? = some v := by
  have := congrArg (·[0]?) h
  simpa using this
/-- a field that is a number -/
theorem fld_int {t : TypeId} {k : IntKind} {n : Nat} {l : List Value} {o : Nat} {y : DataW H × List MemPlace} (ht : P.underlying t = some (.int k)) (hc : P.cellsOf t = 1) (h : DataW.trod enc P W 0 (fun _ => true) true n t ((l.drop o).take (P.cellsOf t)) = some y) :
    ∃ z, l[o]? = some (.int k z) ∧ (Lit.int k z).wf = true := by
  rw [hc] at h
  obtain ⟨z, h1, _, h3⟩ := DataW.trod_int ht h
  exact ⟨z, one_of h1, h3⟩
/-- a field that is a slice of numbers -/
theorem fld_ints {t e : TypeId} {k : IntKind} {n : Nat} {l : List Value} {o : Nat} {y : DataW H × List MemPlace} (ht : P.underlying t = some (.slice e)) (he : P.underlying e = some (.int k)) (hct : P.cellsOf t = 1) (hc : P.cellsOf e = 1) (h : DataW.trod enc P W 0 (fun _ => true) true n t ((l.drop o).take (P.cellsOf t)) = some y) (hw : Wt P t y.1) :
    ∃ a c zs, l[o]? = some (.slice a (List.length zs) c) ∧ Lies W (fun _ => True) a (zs.map fun z => .int k z) ∧ zs.length ≤ c ∧ c ≤ maxLen ∧ c * P.bytesOf e ≤ 140737488351232 ∧ ∀ z ∈ zs, (Lit.int k z).wf = true := by
  rw [hct] at h
  rcases open_ints ht he hc h with ⟨hcs, _⟩ | ⟨x, len, c, zs, hcs, _, hl, hm, hz, hx, hcell, hwz⟩
  · exact ⟨none, 0, [], one_of hcs, Lies.nil, Nat.le_refl _, Nat.zero_le _, by omega, by simp⟩
  · simp only [if_true] at hz
    have hlen : (zs.take len).length = len := by rw [List.length_take]; omega
    have hd : y.1 = .slice (lits k (zs.take len)) (lits k (zs.drop len)) := congrArg Prod.fst hx
    have hww := (Wt.slice ht (hd ▸ hw)).1
    simp only [lits, List.length_map, List.length_take, List.length_drop] at hww
    refine ⟨some x, c, zs.take len, ?_, ?_, by omega, hm, ?_, fun z hz => hwz z (List.mem_of_mem_take hz)⟩
    · rw [hlen]; exact one_of hcs
    · intro j v hj
      rw [List.getElem?_map, Option.map_eq_some_iff] at hj
      obtain ⟨z, hz', rfl⟩ := hj
      rw [List.getElem?_take] at hz'
      split at hz'
      · have hjl := (List.getElem?_eq_some_iff.1 hz').1
        refine ⟨x, rfl, trivial, ?_⟩
        rw [hcell j hjl]
        rw [List.getD_eq_getElem?_getD, hz']; rfl
      · cases hz'
    · rw [show c = min len zs.length + (zs.length - len) by omega]; exact hww
theorem list7 {α : Type} {l : List α} {v0 v1 v2 v3 v4 v5 v6 : α} (h : l.length = 7) (e0 : l[0]? = some v0) (e1 : l[1]? = some v1) (e2 : l[2]? = some v2) (e3 : l[3]? = some v3) (e4 : l[4]? = some v4) (e5 : l[5]? = some v5) (e6 : l[6]? = some v6) : l = [v0, v1, v2, v3, v4, v5, v6] :=
  List.ext_getElem? fun i => match i with
    | 0 => e0
    | 1 => e1
    | 2 => e2
    | 3 => e3
    | 4 => e4
    | 5 => e5
    | 6 => e6
    | i + 7 => by rw [List.getElem?_eq_none (by omega)]; rfl
theorem wf_i64 {z : Int} (h : (Lit.int .i64 z).wf = true) : -9223372036854775808 ≤ z ∧ z ≤ 9223372036854775807 := by
  simp only [Lit.wf, Bool.and_eq_true, decide_eq_true_eq] at h
  have h1 : IntKind.min .i64 = -9223372036854775808 := by decide
  have h2 : IntKind.max .i64 = 9223372036854775807 := by decide
  omega
end
end Go.Sh
/-! ## ShL12 -/
namespace Go.Sh
section
variable {H : Type} {enc : TypeId × Value → H}
/-- as the kit's returnsInHanded_of_change_and, with the world's shape for the contract -/
theorem returns_and_shaped {a : Assume} {C : Checked} {os : Os} {f : FuncId} {fn : Func} {s : ChangeSpec} {conds : List PathCond} {apart fresh handsOn again : Bool} {X : World → Array Value → Prop}
    (hX : ∀ (w w' : World) (args : Array Value), w.heap = w'.heap → X w args → X w' args)
    (own : ownKnob C.prog.godebug = none) (started : os.Started) (noInit : C.prog.inits.idxOf? f = none) (hfn : C.prog.funcs[f]? = some fn)
    (witness : ∃ (w : World) (tape : Tape) (i : Input), w.os = os ∧ (w.forCall tape i).Shaped C.prog ∧ i.vars = [] ∧ Input.okWide C.prog (w.forCall tape i) .any w.heap.size f i ∧
      ((s.pre enc C.prog fn conds apart (w.forCall tape i).memory i.args ∧ X (w.forCall tape i).memory i.args) ∧ sizedMet enc C.prog fn (OpenSpec.ofChange s) apart (w.forCall tape i).memory i.args) ∧ a.holds C.prog (lone (Frame.enter C.prog f i.args .normal) [] (w.forCall tape i)))
    (contract : ∀ (W : World) (base : Nat) (args : Array Value) (ds gs : List (DataW H)) (before : List MemPlace),
      (∀ (j : Nat) t v, fn.params[j]? = some t → args[j]? = some v → Value.okWide C.prog W .any base t v) →
      DataW.Whole enc C.prog fn.params.toList s.vars apart W args.toList ds gs before →
      conds.all (PathCond.test C.prog ⟨fn.params.toList, ds, s.plain.varTypes C.prog, gs⟩) = true →
      (DataW.weightsEach C.prog (fn.params.toList ++ s.plain.varTypes C.prog) (ds ++ gs)).all (· ≤ reachBytes) = true → X W args → W.ShapedOpen C.prog →
      Calls C.prog f args W fun e W' => ∃ v, e = .returned v ∧ s.post enc C.prog fn apart fresh handsOn again W args v W') :
    ReturnsInHanded a C os f .any (fun w args => (s.pre enc C.prog fn conds apart w args ∧ X w args) ∧ sizedMet enc C.prog fn (OpenSpec.ofChange s) apart w args) (s.post enc C.prog fn apart fresh handsOn again) := by
  refine returnsInHanded_of_calls own started noInit witness ?_
  intro w tape i _ hsh _ hok hpre hholds
  obtain ⟨_, _, _, fn', hfn', _, _, _, _, hval⟩ := hok
  have e : fn' = fn := Option.some.inj (hfn'.symm.trans hfn)
  subst e
  obtain ⟨⟨⟨ds, gs, before, hw, hc⟩, hx⟩, hz⟩ := hpre
  have hw' := DataW.Whole.of_heap (w' := w.forCall tape i) (by rfl) hw
  refine (contract (w.forCall tape i) w.heap.size i.args ds gs before hval hw' hc (hz.weights hw) (hX _ _ _ (by rfl) hx) hsh).mono fun e W' ⟨v, he, hp⟩ => ?_
  subst he
  exact ChangeSpec.post_blind hp
end
end Go.Sh
/-! ## ShL13 -/
namespace Go.Sh
section
variable {P : Program} {w : World}
/-- a listed variable: its cells, and how they read -/
theorem laid_get : ∀ {laid : List (String × DataW Unit)} {ps : List MemPlace}, DataW.LaidVars P w laid ps → ∀ (i : Nat) {n : String} {d : DataW Unit}, laid[i]? = some (n, d) →
    ∃ g t cs fuel p, P.globalNamed n = some g ∧ (P.globals[g]?).map (·.type) = some t ∧ w.var? P n = some cs ∧ DataW.trod (fun _ => ()) P w 0 (fun _ => true) false fuel t cs.toList = some (d, p)
  | [], _, _, i, n, d, h => by simp at h
  | (n0, d0) :: r, ps, h, 0, n, d, e => by
    obtain ⟨g, t, cs, fuel, p, q, h1, h2, h3, h4, _, _⟩ := h
    cases e
    exact ⟨g, t, cs, fuel, p, h1, h2, h3, h4⟩
  | (n0, d0) :: r, ps, h, i + 1, n, d, e => by
    obtain ⟨g, t, cs, fuel, p, q, _, _, _, _, h5, _⟩ := h
    exact laid_get h5 i (by simpa using e)
/-- at a row's list -/
theorem laid_at {laid : List (String × DataW Unit)} (h : laidMetH P laid w) (hp : (laid.all fun x => x.2.handleName?.isNone) = true) (i : Nat) {n : String} {d : DataW Unit} (e : laid[i]? = some (n, d)) {g : Nat} {t : TypeId} (hg : P.globalNamed n = some g) (ht : (P.globals[g]?).map (·.type) = some t) :
    ∃ cs fuel p, w.var? P n = some cs ∧ DataW.trod (fun _ => ()) P w 0 (fun _ => true) false fuel t cs.toList = some (d, p) := by
  rw [MakeChecks.laidMetH_plain _ _ _ hp] at h
  obtain ⟨ps, hV, _, _⟩ := h
  obtain ⟨g', t', cs, fuel, p, h1, h2, h3, h4⟩ := laid_get hV i e
  obtain rfl := Option.some.inj (hg.symm.trans h1)
  obtain rfl := Option.some.inj (ht.symm.trans h2)
  exact ⟨cs, fuel, p, h3, h4⟩
theorem var_cell {n : String} {g : Nat} {cs : Array Value} (hg : P.globalNamed n = some g) (hv : w.var? P n = some cs) (j : Nat) : w.cell? ⟨g, j, none⟩ = cs[j]? := World.var?_cell hg hv j
/-- a table of numbers -/
theorem laid_tab {laid : List (String × DataW Unit)} (h : laidMetH P laid w) (hp : (laid.all fun x => x.2.handleName?.isNone) = true) (i : Nat) {n : String} {k : IntKind} {zs : List Int} (e : laid[i]? = some (n, Lib.tabData k zs)) {g : Nat} {t el : TypeId} {m : Nat} (hg : P.globalNamed n = some g) (ht : (P.globals[g]?).map (·.type) = some t)
    (hu : P.underlying t = some (.array m el)) (he : P.underlying el = some (.int k)) (hce : P.cellsOf el = 1) (hct : P.cellsOf t = m) : Lib.TabIs P w n k zs := by
  obtain ⟨cs, fuel, p, hv, hd⟩ := laid_at h hp i e hg ht
  have := Lib.cells_of_tab hu he hce hct hd
  unfold Lib.TabIs
  rw [hv, ← this]
theorem tab_cell {n : String} {k : IntKind} {zs : List Int} {g : Nat} (hg : P.globalNamed n = some g) (h : Lib.TabIs P w n k zs) {j : Nat} {z : Int} (hz : zs[j]? = some z) : w.cell? ⟨g, j, none⟩ = some (.int k z) := by
  rw [var_cell hg h j]
  simp [hz]
/-- a listed interface value -/
theorem laid_iface {laid : List (String × DataW Unit)} (h : laidMetH P laid w) (hp : (laid.all fun x => x.2.handleName?.isNone) = true) (i : Nat) {n nm : String} {d : DataW Unit} (e : laid[i]? = some (n, .iface nm d)) {g : Nat} {t : TypeId} {ms : Array (String × TypeId)} (hg : P.globalNamed n = some g) (ht : (P.globals[g]?).map (·.type) = some t)
    (hu : P.underlying t = some (.interface ms)) : ∃ u v, w.cell? ⟨g, 0, none⟩ = some (.iface u v) := by
  obtain ⟨cs, fuel, p, hv, hd⟩ := laid_at h hp i e hg ht
  cases fuel with
  | zero => simp [DataW.trod] at hd
  | succ fuel =>
    unfold DataW.trod at hd
    rw [hu] at hd
    cases hcs : cs.toList with
    | nil => rw [hcs] at hd; simp at hd
    | cons v0 r =>
      cases r with
      | cons v1 r => rw [hcs] at hd; cases v0 <;> simp at hd
      | nil =>
        rw [hcs] at hd
        have hc0 : cs[0]? = some v0 := by rw [← Array.getElem?_toList, hcs]; rfl
        rw [var_cell hg hv 0, hc0]
        cases v0 with
        | iface u v => exact ⟨u, v, rfl⟩
        | _ => simp at hd
end
section
variable {H : Type} {enc : TypeId × Value → H} {P : Program} {W : World}
/-- a field that is a bool -/
theorem fld_bool {t : TypeId} {n : Nat} {l : List Value} {o : Nat} {y : DataW H × List MemPlace} (ht : P.underlying t = some .bool) (hc : P.cellsOf t = 1) (h : DataW.trod enc P W 0 (fun _ => true) true n t ((l.drop o).take (P.cellsOf t)) = some y) : ∃ b, l[o]? = some (.bool b) := by
  rw [hc] at h
  obtain ⟨b, h1, _⟩ := DataW.trod_bool ht h
  exact ⟨b, one_of h1⟩
theorem list5 {α : Type} {l : List α} {v0 v1 v2 v3 v4 : α} (h : l.length = 5) (e0 : l[0]? = some v0) (e1 : l[1]? = some v1) (e2 : l[2]? = some v2) (e3 : l[3]? = some v3) (e4 : l[4]? = some v4) : l = [v0, v1, v2, v3, v4] :=
  List.ext_getElem? fun i => match i with
    | 0 => e0
    | 1 => e1
    | 2 => e2
    | 3 => e3
    | 4 => e4
    | i + 5 => by rw [List.getElem?_eq_none (by omega)]; rfl
end
end Go.Sh
/-! ## ShL18 -/
namespace Go.Sh
open Go.ChangeShapes Go.WideShapes
variable {P : Program} {w : World}
theorem laid_struct_tab {laid : List (String × DataW Unit)} (h : laidMetH P laid w) (hp : (laid.all fun x => x.2.handleName?.isNone) = true) (i : Nat) {n : String} {ds : List (DataW Unit)} (e : laid[i]? = some (n, .agg ds)) {g : Nat} {t : TypeId} {fs : Array Field} (hg : P.globalNamed n = some g) (ht : (P.globals[g]?).map (·.type) = some t)
    (hs : P.underlying t = some (.struct fs)) (q : Nat) {f : Field} (hf : fs[q]? = some f) {k : IntKind} {zs : List Int} {el : TypeId} {m : Nat} (hd : ds[q]? = some (Lib.tabData k zs)) (hu : P.underlying f.type = some (.array m el)) (he : P.underlying el = some (.int k)) (hce : P.cellsOf el = 1) (hct : P.cellsOf f.type = m) (hz : zs.length = m) :
    ∀ j z, zs[j]? = some z → w.cell? ⟨g, f.offset + j, none⟩ = some (.int k z) := by
  obtain ⟨cs, fuel, p, hv, htr⟩ := laid_at h hp i e hg ht
  obtain ⟨xs, n', _, hx, hl, hlen, hfl⟩ := DataW.trod_struct hs htr
  intro j z hj
  have h1 := hfl q f hf
  have hi : q < xs.length := by rw [hlen]; exact (Array.getElem?_eq_some_iff.1 hf).1
  rw [List.getElem?_eq_getElem hi] at h1
  have hds : ds = xs.map (·.1) := by
    have := congrArg Prod.fst hx
    simpa using this
  have h2 : xs[q].1 = Lib.tabData k zs := by
    rw [hds, List.getElem?_map, List.getElem?_eq_getElem hi] at hd
    simpa using hd
  have h3 := Lib.cells_of_tab hu he hce hct (p := xs[q].2) (zs := zs) (by rw [h1, ← h2])
  rw [var_cell hg hv]
  have hjm : j < m := by rw [← hz]; exact (List.getElem?_eq_some_iff.1 hj).1
  have h4 := congrArg (·[j]?) h3
  simp only [List.getElem?_map, hj, Option.map_some, hct, List.getElem?_take, hjm, if_true, List.getElem?_drop] at h4
  simpa using h4
end Go.Sh
/-! ## ShaStdOf -/
namespace Go.Proofs.YtccjncflbbhldaaDoor
open Go.Sh Go.RowKit Go.ChangeShapes Go.WideShapes
/-- the list that TileWidths, TileReads and TileSpoilt have -/
def laidW : List (String × DataW Unit) := [("ledger/sha.turns256", Rows.laid_ledger_sha_turns256), ("ledger/sha.turns512", Rows.laid_ledger_sha_turns512), ("ledger/sha.starts", Rows.laid_ledger_sha_starts), ("ledger/sha.rounds256", Rows.laid_ledger_sha_rounds256), ("ledger/sha.rounds512", Rows.laid_ledger_sha_rounds512)]
theorem laidW_plain : (laidW.all fun x => x.2.handleName?.isNone) = true := by kernel_rfl
theorem starts_data : laidW[2]? = some ("ledger/sha.starts", Lib.tabData .u64 startsZ) := by kernel_rfl
theorem rounds_data : laidW[3]? = some ("ledger/sha.rounds256", Lib.tabData .u32 (kaTab.map iw)) := by kernel_rfl
theorem turns_data : laidW[0]? = some ("ledger/sha.turns256", .agg [Lib.tabData .i64 [2, 13, 22], Lib.tabData .i64 [6, 11, 25], Lib.tabData .i64 [7, 18, 3], Lib.tabData .i64 [17, 19, 10]]) := by kernel_rfl
set_option maxRecDepth 100000 in
theorem shastd_of {W : World} (hL : laidMetH Tryd.prog laidW W) : ShaStd W := by
  have hg4 : Tryd.prog.globalNamed "ledger/sha.starts" = some 4 := by kernel_rfl
  have hg5 : Tryd.prog.globalNamed "ledger/sha.rounds256" = some 5 := by kernel_rfl
  have hg6 : Tryd.prog.globalNamed "ledger/sha.turns256" = some 6 := by kernel_rfl
  refine ⟨fun j z hz => ?_, fun j x hx => ?_, fun j v hv => ?_⟩
  · exact tab_cell hg4 (laid_tab hL laidW_plain 2 starts_data (g := 4) (t := 218) hg4 (by kernel_rfl) Tryd.underlying218 Tryd.underlying169 (by kernel_rfl) (by kernel_rfl)) hz
  · exact tab_cell hg5 (laid_tab hL laidW_plain 3 rounds_data (g := 5) (t := 247) hg5 (by kernel_rfl) Tryd.underlying247 Tryd.underlying203 (by kernel_rfl) (by kernel_rfl)) (z := iw x) (by rw [List.getElem?_map, hx]; rfl)
  · have t6 : (Tryd.prog.globals[6]?).map (·.type) = some 254 := by kernel_rfl
    have k0 := laid_struct_tab hL laidW_plain 0 turns_data (g := 6) (t := 254) hg6 t6 Tryd.underlying254 0 rfl (k := .i64) (zs := [2, 13, 22]) rfl Tryd.underlying252 Tryd.underlying3 (by kernel_rfl) (by kernel_rfl) rfl
    have k1 := laid_struct_tab hL laidW_plain 0 turns_data (g := 6) (t := 254) hg6 t6 Tryd.underlying254 1 rfl (k := .i64) (zs := [6, 11, 25]) rfl Tryd.underlying252 Tryd.underlying3 (by kernel_rfl) (by kernel_rfl) rfl
    have k2 := laid_struct_tab hL laidW_plain 0 turns_data (g := 6) (t := 254) hg6 t6 Tryd.underlying254 2 rfl (k := .i64) (zs := [7, 18, 3]) rfl Tryd.underlying252 Tryd.underlying3 (by kernel_rfl) (by kernel_rfl) rfl
    have k3 := laid_struct_tab hL laidW_plain 0 turns_data (g := 6) (t := 254) hg6 t6 Tryd.underlying254 3 rfl (k := .i64) (zs := [17, 19, 10]) rfl Tryd.underlying252 Tryd.underlying3 (by kernel_rfl) (by kernel_rfl) rfl
    have hj : j < 12 := (List.getElem?_eq_some_iff.1 hv).1
    match j, hj, hv with
    | 0, _, hv => cases hv; exact k0 0 _ rfl
    | 1, _, hv => cases hv; exact k0 1 _ rfl
    | 2, _, hv => cases hv; exact k0 2 _ rfl
    | 3, _, hv => cases hv; exact k1 0 _ rfl
    | 4, _, hv => cases hv; exact k1 1 _ rfl
    | 5, _, hv => cases hv; exact k1 2 _ rfl
    | 6, _, hv => cases hv; exact k2 0 _ rfl
    | 7, _, hv => cases hv; exact k2 1 _ rfl
    | 8, _, hv => cases hv; exact k2 2 _ rfl
    | 9, _, hv => cases hv; exact k3 0 _ rfl
    | 10, _, hv => cases hv; exact k3 1 _ rfl
    | 11, _, hv => cases hv; exact k3 2 _ rfl
    | j + 12, hj, _ => omega
end Go.Proofs.YtccjncflbbhldaaDoor
