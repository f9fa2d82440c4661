/- ShGb0, ShGb1, ShL1, ShL2, ShL3, ShL4, ShL6, ShL8, ShL9 -/
import Derived.Test.YtccjncflbbhldaaDoorPkA
import Derived.Deep.Upon
import Derived.Deep.OwnRows
import Derived.Deep.Slices
import Derived.Laws.IdiomStrings
import Derived.Laws.StructEq
import Derived.ChangeKeysEq
/-! ## ShGb0 -/
set_option maxRecDepth 100000
namespace Go.Proofs.YtccjncflbbhldaaDoor
open Go.Sh
/-! ### ledger/ledgerlaw10.TileBytes -/
noncomputable def B_l10_TileBytes : Code := match Tryd.f3.body with | some c => c | _ => .skip
noncomputable def X_l10_TileBytes : Cx := { P := PP, fn := 3, N := 146, tab := tab, results := [.tmp 2], iter := fun _ => (.none, .none), dyn := fun _ => false, live := fun r => cond (Nat.beq r 7) (some []) (cond (Nat.beq r 11) (some []) (cond (Nat.beq r 16) (some [1, 6, 8, 10, 12, 13]) (none))) }
theorem K_l10_TileBytes : OkF X_l10_TileBytes B_l10_TileBytes Tryd.f3 := ⟨⟨tab_ok, mix_ok⟩, Tryd.func3, by kernel_rfl, by kernel_rfl, by kernel_rfl, by kernel_rfl⟩
noncomputable def N_l10_TileBytes.j7 (Q : Value → World → Prop) (w : World) : Prop := Nd X_l10_TileBytes Q [] [.code (B_l10_TileBytes.r.r.r.r.r.r.l.r.l.l), .code (B_l10_TileBytes.r.r.r.r.r.r.l.r.l.r), .code (B_l10_TileBytes.r.r.r.r.r.r.r)] w
noncomputable def N_l10_TileBytes.j11 (Q : Value → World → Prop) (w : World) : Prop := Nd X_l10_TileBytes Q [] [.code (B_l10_TileBytes.r.r.r.r.r.r.r.r.r.l.r.l.l), .code (B_l10_TileBytes.r.r.r.r.r.r.r.r.r.l.r.l.r), .code (B_l10_TileBytes.r.r.r.r.r.r.r.r.r.r)] w
noncomputable def N_l10_TileBytes.j16 (Q : Value → World → Prop) (s1 : Addr) (s6 : Int) (s8 : Int) (s10 : Option Addr) (s10n : Nat) (s10c : Nat) (s12 : Addr) (s13 : Addr) (w : World) : Prop := Nd X_l10_TileBytes Q [(1, 1, .pointer (some s1)), (6, 6, .int .i64 s6), (8, 8, .int .i64 s8), (10, 10, .slice s10 s10n s10c), (12, 12, .pointer (some s12)), (13, 13, .pointer (some s13))] [.code (B_l10_TileBytes.r.r.r.r.r.r.r.r.r.r.r.r.r.r.l), .code (B_l10_TileBytes.r.r.r.r.r.r.r.r.r.r.r.r.r.r.r)] w
theorem N_l10_TileBytes.j7_eq (Q : Value → World → Prop) (w : World) (h :
  Q (.bool false) w) :
N_l10_TileBytes.j7 Q w := Nd_fold K_l10_TileBytes (by kernel_rfl) h
theorem N_l10_TileBytes.j11_eq (Q : Value → World → Prop) (w : World) (h :
  Q (.bool false) w) :
N_l10_TileBytes.j11 Q w := Nd_fold K_l10_TileBytes (by kernel_rfl) h
theorem N_l10_TileBytes.j16_eq (Q : Value → World → Prop) (s1 : Addr) (s6 : Int) (s8 : Int) (s10 : Option Addr) (s10n : Nat) (s10c : Nat) (s12 : Addr) (s13 : Addr) (w : World) (h :
  opnRow w s12 (32 * 1) fun x1 =>
  opnRow w s13 (32 * 1) fun x2 =>
  semR PP (do eqGuard .eql 29 (.tmp 131) (.tmp 132) (.agg x1) (.agg x2); binOp .eql 29 (.agg x1) (.agg x2)) w fun x3 =>
  opnB (some x3) fun x4 =>
  cond x4
  (C_l10_num #[.int .i64 s6] w fun v5 w6 =>
  opnI .i64 (some v5) fun x7 =>
  cond (x7 == s8)
  (opnL (w6.cell? (s1.add 7)) fun x8 x8n x8c =>
  C_l10_whole #[.slice s10 s10n s10c, .slice x8 x8n x8c] w6 fun v9 w10 =>
  opnB (some v9) fun x11 =>
  Q (.bool x11) w10)
  (Q (.bool false) w6))
  (Q (.bool false) w)) :
N_l10_TileBytes.j16 Q s1 s6 s8 s10 s10n s10c s12 s13 w := Nd_fold K_l10_TileBytes (by kernel_rfl) h
theorem C_l10_TileBytes_eq (Q : Value → World → Prop) (a0_0 : Int) (a0_1 : Option Addr) (a0_1n : Nat) (a0_1c : Nat) (a0_2 : Int) (a0_3 : Int) (a0_4 : Int) (a0_5 : Int) (a0_6 : Bool) (a0_7 : Option Addr) (a0_7n : Nat) (a0_7c : Nat) (a0_8 : Int) (w : World) (h :
  alC #[.int .i64 a0_0, .slice a0_1 a0_1n a0_1c, .int .i64 a0_2, .int .i64 a0_3, .int .i64 a0_4, .int .i64 a0_5, .bool a0_6, .slice a0_7 a0_7n a0_7c, .int .i64 a0_8] 27 w fun p1 w2 =>
  opnL (w2.cell? (p1.add 1)) fun x3 x3n x3c =>
  sem PP (Builtin.append_ #[22, 22] 22 #[.slice none 0 0, .slice x3 x3n x3c]) w2 fun v4 w5 =>
  opnL (some v4) fun x6 x6n x6c =>
  semP PP (Instr.build 29 #[(0, .int .u8 7), (1, .int .u8 7)]) fun v7 =>
  opnG (some v7) fun x9 =>
  x9.size = 32 ∧
  alC x9 29 w5 fun p12 w11 =>
  sem PP (Builtin.append_ #[22, 22] 22 #[.slice x6 x6n x6c, .slice (some p12) 1 1]) w11 fun v13 w14 =>
  opnL (some v13) fun x15 x15n x15c =>
  opnL (w14.cell? (p1.add 1)) fun x16 x16n x16c =>
  (0 : Int) ≤ ((x16n : Nat) : Int) ∧
  ((x16n : Nat) : Int) ≤ ((x15c : Nat) : Int) ∧
  opnI .i64 (w14.cell? ((p1.add 2).add 0)) fun x17 =>
  opnI .i64 (w14.cell? ((p1.add 2).add 1)) fun x18 =>
  opnI .i64 (w14.cell? ((p1.add 2).add 2)) fun x19 =>
  opnI .i64 (w14.cell? ((p1.add 2).add 3)) fun x20 =>
  opnB (w14.cell? ((p1.add 2).add 4)) fun x21 =>
  C_tile_FromTree #[.slice (slA x15 0 x15c 32) ((Int.toNat ((x16n : Nat) : Int)) - 0) (x15c - 0), .agg #[.int .i64 x17, .int .i64 x18, .int .i64 x19, .int .i64 x20, .bool x21]] w14 fun v22 w23 =>
  opnT (some v22) fun x24 =>
  x24.size = 2 ∧
  opnL (x24[0]?) fun x25 x25n x25c =>
  opnI .i64 (x24[1]?) fun x26 =>
  drw w23 fun w27 =>
  opnL (w27.cell? (p1.add 1)) fun x28 x28n x28c =>
  opnI .i64 (w27.cell? ((p1.add 2).add 0)) fun x29 =>
  opnI .i64 (w27.cell? ((p1.add 2).add 1)) fun x30 =>
  opnI .i64 (w27.cell? ((p1.add 2).add 2)) fun x31 =>
  opnI .i64 (w27.cell? ((p1.add 2).add 3)) fun x32 =>
  opnB (w27.cell? ((p1.add 2).add 4)) fun x33 =>
  C_l10_plain #[.slice x28 x28n x28c] w27 fun v34 w35 =>
  opnL (some v34) fun x36 x36n x36c =>
  (opnI .i64 (w35.cell? ((p1.add 2).add 0)) fun x37 =>
  opnI .i64 (w35.cell? ((p1.add 2).add 1)) fun x38 =>
  opnI .i64 (w35.cell? ((p1.add 2).add 2)) fun x39 =>
  opnI .i64 (w35.cell? ((p1.add 2).add 3)) fun x40 =>
  opnB (w35.cell? ((p1.add 2).add 4)) fun x41 =>
  ((.agg #[.int .i64 x37, .int .i64 x38, .int .i64 x39, .int .i64 x40, .bool x41]) : Value) = .agg #[.int .i64 x29, .int .i64 x30, .int .i64 x31, .int .i64 x32, .bool x33]) ∧
  C_l10_doc #[.agg #[.int .i64 x29, .int .i64 x30, .int .i64 x31, .int .i64 x32, .bool x33]] w35 fun v42 w43 =>
  opnG (some v42) fun x44 =>
  x44.size = 5 ∧
  opnI .i64 (x44[0]?) fun x45 =>
  opnI .i64 (x44[1]?) fun x46 =>
  opnI .i64 (x44[2]?) fun x47 =>
  opnI .i64 (x44[3]?) fun x48 =>
  opnB (x44[4]?) fun x49 =>
  C_r10_FromTree #[.slice x36 x36n x36c, .agg #[.int .i64 x45, .int .i64 x46, .int .i64 x47, .int .i64 x48, .bool x49]] w43 fun v50 w51 =>
  opnT (some v50) fun x52 =>
  x52.size = 2 ∧
  opnL (x52[0]?) fun x53 x53n x53c =>
  opnI .i64 (x52[1]?) fun x54 =>
  semR PP (convert 25 9 (.slice x25 x25n x25c)) w51 fun x55 =>
  opnS (some x55) fun x56 =>
  semR PP (convert 25 9 (.slice x53 x53n x53c)) w51 fun x57 =>
  opnS (some x57) fun x58 =>
  cond (!(x56.toList == x58.toList))
  (N_l10_TileBytes.j7 Q w51)
  (C_l10_num #[.int .i64 x26] w51 fun v59 w60 =>
  opnI .i64 (some v59) fun x61 =>
  cond (x61 != x54)
  (N_l10_TileBytes.j7 Q w60)
  (opnL (w60.cell? (p1.add 1)) fun x62 x62n x62c =>
  C_l10_plain #[.slice x62 x62n x62c] w60 fun v63 w64 =>
  opnL (some v63) fun x65 x65n x65c =>
  C_l10_hashes #[.slice (slA x15 0 x15c 32) ((Int.toNat ((x16n : Nat) : Int)) - 0) (x15c - 0), .slice x65 x65n x65c] w64 fun v66 w67 =>
  opnB (some v66) fun x68 =>
  cond (!x68)
  (N_l10_TileBytes.j7 Q w67)
  (C_l10_owned #[.slice x25 x25n x25c, .int .u8 9] w67 fun v69 w70 =>
  opnL (some v69) fun x71 x71n x71c =>
  opnI .i64 (w70.cell? ((p1.add 2).add 0)) fun x72 =>
  opnI .i64 (w70.cell? ((p1.add 2).add 1)) fun x73 =>
  opnI .i64 (w70.cell? ((p1.add 2).add 2)) fun x74 =>
  opnI .i64 (w70.cell? ((p1.add 2).add 3)) fun x75 =>
  opnB (w70.cell? ((p1.add 2).add 4)) fun x76 =>
  C_tile_FromTree #[.slice (slA x15 0 x15c 32) ((Int.toNat ((x16n : Nat) : Int)) - 0) (x15c - 0), .agg #[.int .i64 x72, .int .i64 x73, .int .i64 x74, .int .i64 x75, .bool x76]] w70 fun v77 w78 =>
  opnT (some v77) fun x79 =>
  x79.size = 2 ∧
  opnL (x79[0]?) fun x80 x80n x80c =>
  opnI .i64 (x79[1]?) fun x81 =>
  semR PP (convert 25 9 (.slice x80 x80n x80c)) w78 fun x82 =>
  opnS (some x82) fun x83 =>
  semR PP (convert 25 9 (.slice x53 x53n x53c)) w78 fun x84 =>
  opnS (some x84) fun x85 =>
  cond (!(x83.toList == x85.toList))
  (N_l10_TileBytes.j11 Q w78)
  (C_l10_marked #[.slice x71 x71n x71c, .int .u8 9] w78 fun v86 w87 =>
  opnB (some v86) fun x88 =>
  cond (!x88)
  (N_l10_TileBytes.j11 Q w87)
  (opnL (w87.cell? (p1.add 1)) fun x89 x89n x89c =>
  C_l10_plain #[.slice x89 x89n x89c] w87 fun v90 w91 =>
  opnL (some v90) fun x92 x92n x92c =>
  C_l10_hashes #[.slice (slA x15 0 x15c 32) ((Int.toNat ((x16n : Nat) : Int)) - 0) (x15c - 0), .slice x92 x92n x92c] w91 fun v93 w94 =>
  opnB (some v93) fun x95 =>
  cond (!x95)
  (N_l10_TileBytes.j11 Q w94)
  (opnL (w94.cell? (p1.add 1)) fun x96 x96n x96c =>
  (0 : Int) ≤ ((x96n : Nat) : Int) ∧
  ((x96n : Nat) : Int) < ((x15n : Nat) : Int) ∧
  opnA x15 fun ad97 =>
  opnRow w94 (ad97.add (Int.toNat ((x96n : Nat) : Int) * 32)) (32 * 1) fun x98 =>
  semP PP (Instr.build 29 #[(0, .int .u8 7), (1, .int .u8 7)]) fun v99 =>
  opnG (some v99) fun x101 =>
  semR PP (do eqGuard .neq 29 (.tmp 95) (.tmp 96) (.agg x98) (.agg x101); binOp .neq 29 (.agg x98) (.agg x101)) w94 fun x102 =>
  opnB (some x102) fun x103 =>
  cond x103
  (N_l10_TileBytes.j11 Q w94)
  (opnL (w94.cell? (p1.add 7)) fun x104 x104n x104c =>
  C_l10_lent #[.slice x104 x104n x104c] w94 fun v105 w106 =>
  opnL (some v105) fun x107 x107n x107c =>
  opnL (w106.cell? (p1.add 7)) fun x108 x108n x108c =>
  (0 : Int) ≤ ((x108n : Nat) : Int) ∧
  ((x108n : Nat) : Int) ≤ ((x107c : Nat) : Int) ∧
  opnI .i64 (w106.cell? (p1.add 0)) fun x109 =>
  opnI .i64 (w106.cell? ((p1.add 2).add 0)) fun x110 =>
  opnI .i64 (w106.cell? ((p1.add 2).add 1)) fun x111 =>
  opnI .i64 (w106.cell? ((p1.add 2).add 2)) fun x112 =>
  opnI .i64 (w106.cell? ((p1.add 2).add 3)) fun x113 =>
  opnB (w106.cell? ((p1.add 2).add 4)) fun x114 =>
  opnI .i64 (w106.cell? (p1.add 8)) fun x115 =>
  C_tile_Inside #[.int .i64 x109, .agg #[.int .i64 x110, .int .i64 x111, .int .i64 x112, .int .i64 x113, .bool x114], .slice (slA x107 0 x107c 1) ((Int.toNat ((x108n : Nat) : Int)) - 0) (x107c - 0), .int .i64 x115] w106 fun v116 w117 =>
  opnT (some v116) fun x118 =>
  x118.size = 2 ∧
  opnG (x118[0]?) fun x119 =>
  opnI .i64 (x118[1]?) fun x120 =>
  alZ PP 29 w117 fun p121 w122 =>
  stRow p121 x119 (32 * 1) w122 fun w123 =>
  drw w123 fun w124 =>
  opnI .i64 (w124.cell? (p1.add 0)) fun x125 =>
  opnI .i64 (w124.cell? ((p1.add 2).add 0)) fun x126 =>
  opnI .i64 (w124.cell? ((p1.add 2).add 1)) fun x127 =>
  opnI .i64 (w124.cell? ((p1.add 2).add 2)) fun x128 =>
  opnI .i64 (w124.cell? ((p1.add 2).add 3)) fun x129 =>
  opnB (w124.cell? ((p1.add 2).add 4)) fun x130 =>
  opnL (w124.cell? (p1.add 7)) fun x131 x131n x131c =>
  opnI .i64 (w124.cell? (p1.add 8)) fun x132 =>
  (C_l10_doc #[.agg #[.int .i64 x126, .int .i64 x127, .int .i64 x128, .int .i64 x129, .bool x130]] w124 fun v133 w134 =>
  opnG (some v133) fun x135 =>
  x135.size = 5 ∧
  opnI .i64 (x135[0]?) fun x136 =>
  opnI .i64 (x135[1]?) fun x137 =>
  opnI .i64 (x135[2]?) fun x138 =>
  opnI .i64 (x135[3]?) fun x139 =>
  opnB (x135[4]?) fun x140 =>
  (opnI .i64 (w134.cell? (p1.add 8)) fun x141 =>
  ((.int .i64 x141) : Value) = .int .i64 x132) ∧
  (opnL (w134.cell? (p1.add 7)) fun x142 x142n x142c =>
  ((.slice x142 x142n x142c) : Value) = .slice x131 x131n x131c) ∧
  (opnI .i64 (w134.cell? (p1.add 0)) fun x143 =>
  ((.int .i64 x143) : Value) = .int .i64 x125) ∧
  (C_r10_Inside #[.int .i64 x125, .agg #[.int .i64 x136, .int .i64 x137, .int .i64 x138, .int .i64 x139, .bool x140], .slice x131 x131n x131c, .int .i64 x132] w134 fun v144 w145 =>
  opnT (some v144) fun x146 =>
  x146.size = 2 ∧
  opnG (x146[0]?) fun x147 =>
  opnI .i64 (x146[1]?) fun x148 =>
  alZ PP 28 w145 fun p149 w150 =>
  (opnI .i64 (w150.cell? (p1.add 8)) fun x151 =>
  ((.int .i64 x151) : Value) = .int .i64 x132) ∧
  (opnL (w150.cell? (p1.add 7)) fun x152 x152n x152c =>
  ((.slice x152 x152n x152c) : Value) = .slice x131 x131n x131c) ∧
  (opnI .i64 (w150.cell? ((p1.add 2).add 0)) fun x153 =>
  opnI .i64 (w150.cell? ((p1.add 2).add 1)) fun x154 =>
  opnI .i64 (w150.cell? ((p1.add 2).add 2)) fun x155 =>
  opnI .i64 (w150.cell? ((p1.add 2).add 3)) fun x156 =>
  opnB (w150.cell? ((p1.add 2).add 4)) fun x157 =>
  ((.agg #[.int .i64 x153, .int .i64 x154, .int .i64 x155, .int .i64 x156, .bool x157]) : Value) = .agg #[.int .i64 x126, .int .i64 x127, .int .i64 x128, .int .i64 x129, .bool x130]) ∧
  (opnI .i64 (w150.cell? (p1.add 0)) fun x158 =>
  ((.int .i64 x158) : Value) = .int .i64 x125) ∧
  stRow p149 x147 (32 * 1) w150 fun w159 =>
  N_l10_TileBytes.j16 Q p1 x120 x148 x107 x107n x107c p121 p149 w159) ∧
  (alZ PP 28 w134 fun p160 w161 =>
  (opnI .i64 (w161.cell? (p1.add 8)) fun x162 =>
  ((.int .i64 x162) : Value) = .int .i64 x132) ∧
  (opnL (w161.cell? (p1.add 7)) fun x163 x163n x163c =>
  ((.slice x163 x163n x163c) : Value) = .slice x131 x131n x131c) ∧
  (opnI .i64 (w161.cell? ((p1.add 2).add 0)) fun x164 =>
  opnI .i64 (w161.cell? ((p1.add 2).add 1)) fun x165 =>
  opnI .i64 (w161.cell? ((p1.add 2).add 2)) fun x166 =>
  opnI .i64 (w161.cell? ((p1.add 2).add 3)) fun x167 =>
  opnB (w161.cell? ((p1.add 2).add 4)) fun x168 =>
  ((.agg #[.int .i64 x164, .int .i64 x165, .int .i64 x166, .int .i64 x167, .bool x168]) : Value) = .agg #[.int .i64 x126, .int .i64 x127, .int .i64 x128, .int .i64 x129, .bool x130]) ∧
  (opnI .i64 (w161.cell? (p1.add 0)) fun x169 =>
  ((.int .i64 x169) : Value) = .int .i64 x125) ∧
  C_r10_Inside #[.int .i64 x125, .agg #[.int .i64 x136, .int .i64 x137, .int .i64 x138, .int .i64 x139, .bool x140], .slice x131 x131n x131c, .int .i64 x132] w161 fun v170 w171 =>
  opnT (some v170) fun x172 =>
  x172.size = 2 ∧
  opnG (x172[0]?) fun x173 =>
  opnI .i64 (x172[1]?) fun x174 =>
  stRow p160 x173 (32 * 1) w171 fun w175 =>
  N_l10_TileBytes.j16 Q p1 x120 x174 x107 x107n x107c p121 p160 w175)) ∧
  (alZ PP 28 w124 fun p176 w177 =>
  (opnI .i64 (w177.cell? (p1.add 8)) fun x178 =>
  ((.int .i64 x178) : Value) = .int .i64 x132) ∧
  (opnL (w177.cell? (p1.add 7)) fun x179 x179n x179c =>
  ((.slice x179 x179n x179c) : Value) = .slice x131 x131n x131c) ∧
  (opnI .i64 (w177.cell? ((p1.add 2).add 0)) fun x180 =>
  opnI .i64 (w177.cell? ((p1.add 2).add 1)) fun x181 =>
  opnI .i64 (w177.cell? ((p1.add 2).add 2)) fun x182 =>
  opnI .i64 (w177.cell? ((p1.add 2).add 3)) fun x183 =>
  opnB (w177.cell? ((p1.add 2).add 4)) fun x184 =>
  ((.agg #[.int .i64 x180, .int .i64 x181, .int .i64 x182, .int .i64 x183, .bool x184]) : Value) = .agg #[.int .i64 x126, .int .i64 x127, .int .i64 x128, .int .i64 x129, .bool x130]) ∧
  (opnI .i64 (w177.cell? (p1.add 0)) fun x185 =>
  ((.int .i64 x185) : Value) = .int .i64 x125) ∧
  C_l10_doc #[.agg #[.int .i64 x126, .int .i64 x127, .int .i64 x128, .int .i64 x129, .bool x130]] w177 fun v186 w187 =>
  opnG (some v186) fun x188 =>
  x188.size = 5 ∧
  opnI .i64 (x188[0]?) fun x189 =>
  opnI .i64 (x188[1]?) fun x190 =>
  opnI .i64 (x188[2]?) fun x191 =>
  opnI .i64 (x188[3]?) fun x192 =>
  opnB (x188[4]?) fun x193 =>
  (opnI .i64 (w187.cell? (p1.add 8)) fun x194 =>
  ((.int .i64 x194) : Value) = .int .i64 x132) ∧
  (opnL (w187.cell? (p1.add 7)) fun x195 x195n x195c =>
  ((.slice x195 x195n x195c) : Value) = .slice x131 x131n x131c) ∧
  (opnI .i64 (w187.cell? (p1.add 0)) fun x196 =>
  ((.int .i64 x196) : Value) = .int .i64 x125) ∧
  C_r10_Inside #[.int .i64 x125, .agg #[.int .i64 x189, .int .i64 x190, .int .i64 x191, .int .i64 x192, .bool x193], .slice x131 x131n x131c, .int .i64 x132] w187 fun v197 w198 =>
  opnT (some v197) fun x199 =>
  x199.size = 2 ∧
  opnG (x199[0]?) fun x200 =>
  opnI .i64 (x199[1]?) fun x201 =>
  stRow p176 x200 (32 * 1) w198 fun w202 =>
  N_l10_TileBytes.j16 Q p1 x120 x201 x107 x107n x107c p121 p176 w202))))))))) :
C_l10_TileBytes #[.agg #[.int .i64 a0_0, .slice a0_1 a0_1n a0_1c, .int .i64 a0_2, .int .i64 a0_3, .int .i64 a0_4, .int .i64 a0_5, .bool a0_6, .slice a0_7 a0_7n a0_7c, .int .i64 a0_8]] w Q := C_fold K_l10_TileBytes (by kernel_rfl) h
/-! ### ledger/tile.FromTree -/
noncomputable def B_tile_FromTree : Code := match Tryd.f9.body with | some c => c | _ => .skip
noncomputable def X_tile_FromTree : Cx := { P := PP, fn := 9, N := 74, tab := tab, results := [.tmp 4, .tmp 5], iter := fun _ => (.none, .none), dyn := fun _ => false, live := fun r => cond (Nat.beq r 2) (some []) (cond (Nat.beq r 12) (some [0, 3, 8, 46, 47]) (none)) }
theorem K_tile_FromTree : OkF X_tile_FromTree B_tile_FromTree Tryd.f9 := ⟨⟨tab_ok, mix_ok⟩, Tryd.func9, by kernel_rfl, by kernel_rfl, by kernel_rfl, by kernel_rfl⟩
noncomputable def N_tile_FromTree.j2 (Q : Value → World → Prop) (w : World) : Prop := Nd X_tile_FromTree Q [] [.code (B_tile_FromTree.r.l.r.l.l), .code (B_tile_FromTree.r.l.r.l.r), .code (B_tile_FromTree.r.r)] w
noncomputable def N_tile_FromTree.j12 (Q : Value → World → Prop) (s0 : Option Addr) (s0n : Nat) (s0c : Nat) (s3 : Addr) (s8 : Option Addr) (s8n : Nat) (s8c : Nat) (s46 : Int) (s47 : Int) (w : World) : Prop := Nd X_tile_FromTree Q [(0, 0, .slice s0 s0n s0c), (3, 3, .pointer (some s3)), (8, 8, .slice s8 s8n s8c), (46, 46, .int .i64 s46), (47, 47, .int .i64 s47)] [.code (B_tile_FromTree.r.r.r.r.r.r.r.l.r.l.l.l), .code (B_tile_FromTree.r.r.r.r.r.r.r.l.r.l.l.r), .inLoop (B_tile_FromTree.r.r.r.r.r.r.r.l.r.l.l), .inBlock 0, .code (B_tile_FromTree.r.r.r.r.r.r.r.r)] w
theorem N_tile_FromTree.j2_eq (Q : Value → World → Prop) (w : World) (h :
  Q (.tuple #[.slice none 0 0, .int .i64 101]) w) :
N_tile_FromTree.j2 Q w := Nd_fold K_tile_FromTree (by kernel_rfl) h
theorem N_tile_FromTree.j12_eq (Q : Value → World → Prop) (s0 : Option Addr) (s0n : Nat) (s0c : Nat) (s3 : Addr) (s8 : Option Addr) (s8n : Nat) (s8c : Nat) (s46 : Int) (s47 : Int) (w : World) (h :
  cond (decide (s47 < s46))
  (drw w fun w1 =>
  opnI .i64 (w1.cell? (s3.add 0)) fun x2 =>
  opnI .i64 (w1.cell? (s3.add 1)) fun x3 =>
  opnI .i64 (w1.cell? (s3.add 2)) fun x4 =>
  opnI .i64 (w1.cell? (s3.add 0)) fun x5 =>
  nn x5 (
  C_tlog_Index #[.int .i64 (IntKind.wrap .i64 (x2 * x3)), .int .i64 (IntKind.wrap .i64 ((shlI .i64 x4 x5) + s47))] w1 fun v6 w7 =>
  opnT (some v6) fun x8 =>
  x8.size = 2 ∧
  opnI .i64 (x8[0]?) fun x9 =>
  opnI .i64 (x8[1]?) fun x10 =>
  (0 : Int) ≤ x9 ∧
  x9 < ((s0n : Nat) : Int) ∧
  opnA s0 fun ad11 =>
  sem PP (Builtin.append_ #[25, 25] 25 #[.slice s8 s8n s8c, .slice (slP (ad11.add (Int.toNat x9 * 32)) 0 32 1) (32 - 0) (32 - 0)]) w7 fun v12 w13 =>
  opnL (some v12) fun x14 x14n x14c =>
  N_tile_FromTree.j12 Q s0 s0n s0c s3 x14 x14n x14c s46 (IntKind.wrap .i64 (s47 + 1)) w13))
  (Q (.tuple #[.slice s8 s8n s8c, .int .i64 0]) w)) :
N_tile_FromTree.j12 Q s0 s0n s0c s3 s8 s8n s8c s46 s47 w := Nd_fold K_tile_FromTree (by kernel_rfl) h
theorem C_tile_FromTree_eq (Q : Value → World → Prop) (a0 : Option Addr) (a0n : Nat) (a0c : Nat) (a1_0 : Int) (a1_1 : Int) (a1_2 : Int) (a1_3 : Int) (a1_4 : Bool) (w : World) (h :
  alC #[.int .i64 a1_0, .int .i64 a1_1, .int .i64 a1_2, .int .i64 a1_3, .bool a1_4] 24 w fun p1 w2 =>
  opnI .i64 (w2.cell? (p1.add 0)) fun x3 =>
  opnI .i64 (w2.cell? (p1.add 1)) fun x4 =>
  opnI .i64 (w2.cell? (p1.add 2)) fun x5 =>
  opnI .i64 (w2.cell? (p1.add 3)) fun x6 =>
  opnB (w2.cell? (p1.add 4)) fun x7 =>
  C_tile_Check #[.agg #[.int .i64 x3, .int .i64 x4, .int .i64 x5, .int .i64 x6, .bool x7]] w2 fun v8 w9 =>
  opnI .i64 (some v8) fun x10 =>
  cond (x10 != 0)
  (N_tile_FromTree.j2 Q w9)
  (opnB (w9.cell? (p1.add 4)) fun x11 =>
  cond x11
  (N_tile_FromTree.j2 Q w9)
  (cond (decide (((a0n : Nat) : Int) > 131071))
  (Q (.tuple #[.slice none 0 0, .int .i64 2]) w9)
  (C_tlog_Records #[.int .i64 ((a0n : Nat) : Int)] w9 fun v12 w13 =>
  opnT (some v12) fun x14 =>
  x14.size = 2 ∧
  opnI .i64 (x14[0]?) fun x15 =>
  opnI .i64 (x14[1]?) fun x16 =>
  cond (x16 != 0)
  (Q (.tuple #[.slice none 0 0, .int .i64 80]) w13)
  (drw w13 fun w17 =>
  opnI .i64 (w17.cell? (p1.add 3)) fun x18 =>
  opnI .i64 (w17.cell? (p1.add 0)) fun x19 =>
  opnI .i64 (w17.cell? (p1.add 1)) fun x20 =>
  opnI .i64 (w17.cell? (p1.add 2)) fun x21 =>
  C_tile_widthOf #[.int .i64 x19, .int .i64 x20, .int .i64 x21, .int .i64 x15] w17 fun v22 w23 =>
  opnI .i64 (some v22) fun x24 =>
  (opnI .i64 (w23.cell? (p1.add 3)) fun x25 =>
  ((.int .i64 x25) : Value) = .int .i64 x18) ∧
  cond (decide (x18 > x24))
  (Q (.tuple #[.slice none 0 0, .int .i64 105]) w23)
  (opnI .i64 (w23.cell? (p1.add 3)) fun x26 =>
  sem PP (Instr.makeSlice 25 (.int .i64 0) (.int .i64 (IntKind.wrap .i64 (32 * x26)))) w23 fun v27 w28 =>
  opnL (some v27) fun x29 x29n x29c =>
  opnI .i64 (w28.cell? (p1.add 3)) fun x30 =>
  N_tile_FromTree.j12 Q a0 a0n a0c p1 x29 x29n x29c x30 0 w28)))))) :
C_tile_FromTree #[.slice a0 a0n a0c, .agg #[.int .i64 a1_0, .int .i64 a1_1, .int .i64 a1_2, .int .i64 a1_3, .bool a1_4]] w Q := C_fold K_tile_FromTree (by kernel_rfl) h
/-! ### ledger/ledgerref10.FromTree -/
noncomputable def B_r10_FromTree : Code := match Tryd.f10.body with | some c => c | _ => .skip
noncomputable def X_r10_FromTree : Cx := { P := PP, fn := 10, N := 77, tab := tab, results := [.tmp 4, .tmp 5], iter := fun _ => (.none, .none), dyn := fun _ => false, live := fun r => cond (Nat.beq r 2) (some []) (cond (Nat.beq r 13) (some [0, 3, 10, 11]) (none)) }
theorem K_r10_FromTree : OkF X_r10_FromTree B_r10_FromTree Tryd.f10 := ⟨⟨tab_ok, mix_ok⟩, Tryd.func10, by kernel_rfl, by kernel_rfl, by kernel_rfl, by kernel_rfl⟩
noncomputable def N_r10_FromTree.j2 (Q : Value → World → Prop) (w : World) : Prop := Nd X_r10_FromTree Q [] [.code (B_r10_FromTree.r.l.r.l.l), .code (B_r10_FromTree.r.l.r.l.r), .code (B_r10_FromTree.r.r)] w
noncomputable def N_r10_FromTree.j13 (Q : Value → World → Prop) (s0 : Option Addr) (s0n : Nat) (s0c : Nat) (s3 : Addr) (s10 : Option Addr) (s10n : Nat) (s10c : Nat) (s11 : Int) (w : World) : Prop := Nd X_r10_FromTree Q [(0, 0, .slice s0 s0n s0c), (3, 3, .pointer (some s3)), (10, 10, .slice s10 s10n s10c), (11, 11, .int .i64 s11)] [.code (B_r10_FromTree.r.r.r.r.r.r.r.r.l.r.l.l.l.l), .code (B_r10_FromTree.r.r.r.r.r.r.r.r.l.r.l.l.l.r), .code (B_r10_FromTree.r.r.r.r.r.r.r.r.l.r.l.l.r), .inLoop (B_r10_FromTree.r.r.r.r.r.r.r.r.l.r.l.l), .inBlock 0, .code (B_r10_FromTree.r.r.r.r.r.r.r.r.r)] w
theorem N_r10_FromTree.j2_eq (Q : Value → World → Prop) (w : World) (h :
  Q (.tuple #[.slice none 0 0, .int .i64 101]) w) :
N_r10_FromTree.j2 Q w := Nd_fold K_r10_FromTree (by kernel_rfl) h
theorem N_r10_FromTree.j13_eq (Q : Value → World → Prop) (s0 : Option Addr) (s0n : Nat) (s0c : Nat) (s3 : Addr) (s10 : Option Addr) (s10n : Nat) (s10c : Nat) (s11 : Int) (w : World) (h :
  opnI .i64 (w.cell? (s3.add 3)) fun x1 =>
  cond (decide (s11 < x1))
  (drw w fun w2 =>
  opnI .i64 (w2.cell? (s3.add 0)) fun x3 =>
  opnI .i64 (w2.cell? (s3.add 1)) fun x4 =>
  opnI .i64 (w2.cell? (s3.add 2)) fun x5 =>
  opnI .i64 (w2.cell? (s3.add 0)) fun x6 =>
  C_r10_power #[.int .i64 x6] w2 fun v7 w8 =>
  opnI .i64 (some v7) fun x9 =>
  (opnI .i64 (w8.cell? (s3.add 2)) fun x10 =>
  ((.int .i64 x10) : Value) = .int .i64 x5) ∧
  (opnI .i64 (w8.cell? (s3.add 1)) fun x11 =>
  ((.int .i64 x11) : Value) = .int .i64 x4) ∧
  (opnI .i64 (w8.cell? (s3.add 0)) fun x12 =>
  ((.int .i64 x12) : Value) = .int .i64 x3) ∧
  C_r08_Index #[.int .i64 (IntKind.wrap .i64 (x3 * x4)), .int .i64 (IntKind.wrap .i64 ((IntKind.wrap .i64 (x5 * x9)) + s11))] w8 fun v13 w14 =>
  opnT (some v13) fun x15 =>
  x15.size = 2 ∧
  opnI .i64 (x15[0]?) fun x16 =>
  opnI .i64 (x15[1]?) fun x17 =>
  (0 : Int) ≤ x16 ∧
  x16 < ((s0n : Nat) : Int) ∧
  opnA s0 fun ad18 =>
  sem PP (Builtin.append_ #[25, 25] 25 #[.slice s10 s10n s10c, .slice (slP (ad18.add (Int.toNat x16 * 32)) 0 32 1) (32 - 0) (32 - 0)]) w14 fun v19 w20 =>
  opnL (some v19) fun x21 x21n x21c =>
  N_r10_FromTree.j13 Q s0 s0n s0c s3 x21 x21n x21c (IntKind.wrap .i64 (s11 + 1)) w20)
  (Q (.tuple #[.slice s10 s10n s10c, .int .i64 0]) w)) :
N_r10_FromTree.j13 Q s0 s0n s0c s3 s10 s10n s10c s11 w := Nd_fold K_r10_FromTree (by kernel_rfl) h
theorem C_r10_FromTree_eq (Q : Value → World → Prop) (a0 : Option Addr) (a0n : Nat) (a0c : Nat) (a1_0 : Int) (a1_1 : Int) (a1_2 : Int) (a1_3 : Int) (a1_4 : Bool) (w : World) (h :
  alC #[.int .i64 a1_0, .int .i64 a1_1, .int .i64 a1_2, .int .i64 a1_3, .bool a1_4] 37 w fun p1 w2 =>
  opnI .i64 (w2.cell? (p1.add 0)) fun x3 =>
  opnI .i64 (w2.cell? (p1.add 1)) fun x4 =>
  opnI .i64 (w2.cell? (p1.add 2)) fun x5 =>
  opnI .i64 (w2.cell? (p1.add 3)) fun x6 =>
  opnB (w2.cell? (p1.add 4)) fun x7 =>
  C_r10_Check #[.agg #[.int .i64 x3, .int .i64 x4, .int .i64 x5, .int .i64 x6, .bool x7]] w2 fun v8 w9 =>
  opnI .i64 (some v8) fun x10 =>
  cond (x10 != 0)
  (N_r10_FromTree.j2 Q w9)
  (opnB (w9.cell? (p1.add 4)) fun x11 =>
  cond x11
  (N_r10_FromTree.j2 Q w9)
  (cond (decide (((a0n : Nat) : Int) > 131071))
  (Q (.tuple #[.slice none 0 0, .int .i64 2]) w9)
  (C_r08_Records #[.int .i64 ((a0n : Nat) : Int)] w9 fun v12 w13 =>
  opnT (some v12) fun x14 =>
  x14.size = 2 ∧
  opnI .i64 (x14[0]?) fun x15 =>
  opnI .i64 (x14[1]?) fun x16 =>
  cond (x16 != 0)
  (Q (.tuple #[.slice none 0 0, .int .i64 80]) w13)
  (opnI .i64 (w13.cell? (p1.add 0)) fun x17 =>
  opnI .i64 (w13.cell? (p1.add 1)) fun x18 =>
  opnI .i64 (w13.cell? (p1.add 2)) fun x19 =>
  C_r10_Width #[.int .i64 x17, .int .i64 x18, .int .i64 x19, .int .i64 x15] w13 fun v20 w21 =>
  opnT (some v20) fun x22 =>
  x22.size = 2 ∧
  opnI .i64 (x22[0]?) fun x23 =>
  opnI .i64 (x22[1]?) fun x24 =>
  opnI .i64 (w21.cell? (p1.add 3)) fun x25 =>
  cond (decide (x25 > x23))
  (Q (.tuple #[.slice none 0 0, .int .i64 105]) w21)
  (N_r10_FromTree.j13 Q a0 a0n a0c p1 none 0 0 0 w21)))))) :
C_r10_FromTree #[.slice a0 a0n a0c, .agg #[.int .i64 a1_0, .int .i64 a1_1, .int .i64 a1_2, .int .i64 a1_3, .bool a1_4]] w Q := C_fold K_r10_FromTree (by kernel_rfl) h
/-! ### ledger/ledgerlaw10.plain -/
noncomputable def B_l10_plain : Code := match Tryd.f11.body with | some c => c | _ => .skip
noncomputable def X_l10_plain : Cx := { P := PP, fn := 11, N := 19, tab := tab, results := [.tmp 2], iter := fun _ => (.none, .none), dyn := fun _ => false, live := fun r => cond (Nat.beq r 3) (some [0, 3, 4]) (none) }
theorem K_l10_plain : OkF X_l10_plain B_l10_plain Tryd.f11 := ⟨⟨tab_ok, mix_ok⟩, Tryd.func11, by kernel_rfl, by kernel_rfl, by kernel_rfl, by kernel_rfl⟩
noncomputable def N_l10_plain.j3 (Q : Value → World → Prop) (s0 : Option Addr) (s0n : Nat) (s0c : Nat) (s3 : Option Addr) (s3n : Nat) (s3c : Nat) (s4 : Int) (w : World) : Prop := Nd X_l10_plain Q [(0, 0, .slice s0 s0n s0c), (3, 3, .slice s3 s3n s3c), (4, 4, .int .i64 s4)] [.code (B_l10_plain.r.r.l.r.l.l.l.l), .code (B_l10_plain.r.r.l.r.l.l.l.r), .code (B_l10_plain.r.r.l.r.l.l.r), .inLoop (B_l10_plain.r.r.l.r.l.l), .inBlock 0, .code (B_l10_plain.r.r.r)] w
theorem N_l10_plain.j3_eq (Q : Value → World → Prop) (s0 : Option Addr) (s0n : Nat) (s0c : Nat) (s3 : Option Addr) (s3n : Nat) (s3c : Nat) (s4 : Int) (w : World) (h :
  cond (decide (s4 < ((s0n : Nat) : Int)))
  ((0 : Int) ≤ s4 ∧
  s4 < ((s0n : Nat) : Int) ∧
  opnA s0 fun ad1 =>
  opnRow w (ad1.add (Int.toNat s4 * 32)) (32 * 1) fun x2 =>
  x2.size = 32 ∧
  alC x2 28 w fun p5 w4 =>
  sem PP (Builtin.append_ #[35, 35] 35 #[.slice s3 s3n s3c, .slice (some p5) 1 1]) w4 fun v6 w7 =>
  opnL (some v6) fun x8 x8n x8c =>
  N_l10_plain.j3 Q s0 s0n s0c x8 x8n x8c (IntKind.wrap .i64 (s4 + 1)) w7)
  (Q (.slice s3 s3n s3c) w)) :
N_l10_plain.j3 Q s0 s0n s0c s3 s3n s3c s4 w := Nd_fold K_l10_plain (by kernel_rfl) h
theorem C_l10_plain_eq (Q : Value → World → Prop) (a0 : Option Addr) (a0n : Nat) (a0c : Nat) (w : World) (h :
  N_l10_plain.j3 Q a0 a0n a0c none 0 0 0 w) :
C_l10_plain #[.slice a0 a0n a0c] w Q := C_fold K_l10_plain (by kernel_rfl) h
/-! ### ledger/ledgerlaw10.hashes -/
noncomputable def B_l10_hashes : Code := match Tryd.f14.body with | some c => c | _ => .skip
noncomputable def X_l10_hashes : Cx := { P := PP, fn := 14, N := 26, tab := tab, results := [.tmp 4], iter := fun _ => (.none, .none), dyn := fun _ => false, live := fun r => cond (Nat.beq r 4) (some [0, 1, 5]) (none) }
theorem K_l10_hashes : OkF X_l10_hashes B_l10_hashes Tryd.f14 := ⟨⟨tab_ok, mix_ok⟩, Tryd.func14, by kernel_rfl, by kernel_rfl, by kernel_rfl, by kernel_rfl⟩
noncomputable def N_l10_hashes.j4 (Q : Value → World → Prop) (s0 : Option Addr) (s0n : Nat) (s0c : Nat) (s1 : Option Addr) (s1n : Nat) (s1c : Nat) (s5 : Int) (w : World) : Prop := Nd X_l10_hashes Q [(0, 0, .slice s0 s0n s0c), (1, 1, .slice s1 s1n s1c), (5, 5, .int .i64 s5)] [.code (B_l10_hashes.r.r.l.r.l.l.l.l), .code (B_l10_hashes.r.r.l.r.l.l.l.r), .code (B_l10_hashes.r.r.l.r.l.l.r), .inLoop (B_l10_hashes.r.r.l.r.l.l), .inBlock 0, .code (B_l10_hashes.r.r.r)] w
theorem N_l10_hashes.j4_eq (Q : Value → World → Prop) (s0 : Option Addr) (s0n : Nat) (s0c : Nat) (s1 : Option Addr) (s1n : Nat) (s1c : Nat) (s5 : Int) (w : World) (h :
  cond (decide (s5 < ((s0n : Nat) : Int)))
  (drw w fun w1 =>
  (0 : Int) ≤ s5 ∧
  s5 < ((s0n : Nat) : Int) ∧
  opnA s0 fun ad2 =>
  (0 : Int) ≤ s5 ∧
  s5 < ((s1n : Nat) : Int) ∧
  opnA s1 fun ad3 =>
  opnRow w1 (ad2.add (Int.toNat s5 * 32)) (32 * 1) fun x4 =>
  opnRow w1 (ad3.add (Int.toNat s5 * 32)) (32 * 1) fun x5 =>
  semR PP (do eqGuard .neq 29 (.tmp 20) (.tmp 24) (.agg x4) (.agg x5); binOp .neq 29 (.agg x4) (.agg x5)) w1 fun x6 =>
  opnB (some x6) fun x7 =>
  cond x7
  (Q (.bool false) w1)
  (N_l10_hashes.j4 Q s0 s0n s0c s1 s1n s1c (IntKind.wrap .i64 (s5 + 1)) w1))
  (Q (.bool true) w)) :
N_l10_hashes.j4 Q s0 s0n s0c s1 s1n s1c s5 w := Nd_fold K_l10_hashes (by kernel_rfl) h
theorem C_l10_hashes_eq (Q : Value → World → Prop) (a0 : Option Addr) (a0n : Nat) (a0c : Nat) (a1 : Option Addr) (a1n : Nat) (a1c : Nat) (w : World) (h :
  cond (((a0n : Nat) : Int) != ((a1n : Nat) : Int))
  (Q (.bool false) w)
  (N_l10_hashes.j4 Q a0 a0n a0c a1 a1n a1c 0 w)) :
C_l10_hashes #[.slice a0 a0n a0c, .slice a1 a1n a1c] w Q := C_fold K_l10_hashes (by kernel_rfl) h
/-! ### ledger/ledgerlaw10.owned -/
noncomputable def B_l10_owned : Code := match Tryd.f15.body with | some c => c | _ => .skip
noncomputable def X_l10_owned : Cx := { P := PP, fn := 15, N := 24, tab := tab, results := [.tmp 4], iter := fun _ => (.none, .none), dyn := fun _ => false, live := fun r => cond (Nat.beq r 2) (some [0, 1, 5]) (none) }
theorem K_l10_owned : OkF X_l10_owned B_l10_owned Tryd.f15 := ⟨⟨tab_ok, mix_ok⟩, Tryd.func15, by kernel_rfl, by kernel_rfl, by kernel_rfl, by kernel_rfl⟩
noncomputable def N_l10_owned.j2 (Q : Value → World → Prop) (s0 : Option Addr) (s0n : Nat) (s0c : Nat) (s1 : Int) (s5 : Int) (w : World) : Prop := Nd X_l10_owned Q [(0, 0, .slice s0 s0n s0c), (1, 1, .int .u8 s1), (5, 5, .int .i64 s5)] [.code (B_l10_owned.r.l.r.l.l.l.l), .code (B_l10_owned.r.l.r.l.l.l.r), .code (B_l10_owned.r.l.r.l.l.r), .inLoop (B_l10_owned.r.l.r.l.l), .inBlock 0, .code (B_l10_owned.r.r)] w
theorem N_l10_owned.j2_eq (Q : Value → World → Prop) (s0 : Option Addr) (s0n : Nat) (s0c : Nat) (s1 : Int) (s5 : Int) (w : World) (h :
  cond (decide (s5 < ((s0n : Nat) : Int)))
  ((0 : Int) ≤ s5 ∧
  s5 < ((s0n : Nat) : Int) ∧
  opnA s0 fun ad1 =>
  stC (ad1.add (Int.toNat s5 * 1)) (.int .u8 s1) w fun w2 =>
  N_l10_owned.j2 Q s0 s0n s0c s1 (IntKind.wrap .i64 (s5 + 1)) w2)
  (alC #[.int .u8 s1] 5 w fun p3 w4 =>
  sem PP (Builtin.append_ #[25, 25] 25 #[.slice s0 s0n s0c, .slice (some p3) 1 1]) w4 fun v5 w6 =>
  opnL (some v5) fun x7 x7n x7c =>
  alC #[.slice s0 s0n s0c, .slice x7 x7n x7c] 25 w6 fun p8 w9 =>
  Q (.slice (some p8) 2 2) w9)) :
N_l10_owned.j2 Q s0 s0n s0c s1 s5 w := Nd_fold K_l10_owned (by kernel_rfl) h
theorem C_l10_owned_eq (Q : Value → World → Prop) (a0 : Option Addr) (a0n : Nat) (a0c : Nat) (a1 : Int) (w : World) (h :
  N_l10_owned.j2 Q a0 a0n a0c a1 0 w) :
C_l10_owned #[.slice a0 a0n a0c, .int .u8 a1] w Q := C_fold K_l10_owned (by kernel_rfl) h
/-! ### ledger/ledgerlaw10.marked -/
noncomputable def B_l10_marked : Code := match Tryd.f16.body with | some c => c | _ => .skip
noncomputable def X_l10_marked : Cx := { P := PP, fn := 16, N := 31, tab := tab, results := [.tmp 4], iter := fun _ => (.none, .none), dyn := fun _ => false, live := fun r => cond (Nat.beq r 2) (some [0, 1, 5]) (cond (Nat.beq r 5) (some [0, 1, 5, 6]) (none)) }
theorem K_l10_marked : OkF X_l10_marked B_l10_marked Tryd.f16 := ⟨⟨tab_ok, mix_ok⟩, Tryd.func16, by kernel_rfl, by kernel_rfl, by kernel_rfl, by kernel_rfl⟩
noncomputable def N_l10_marked.j2 (Q : Value → World → Prop) (s0 : Option Addr) (s0n : Nat) (s0c : Nat) (s1 : Int) (s5 : Int) (w : World) : Prop := Nd X_l10_marked Q [(0, 0, .slice s0 s0n s0c), (1, 1, .int .u8 s1), (5, 5, .int .i64 s5)] [.code (B_l10_marked.r.l.r.l.l.l.l), .code (B_l10_marked.r.l.r.l.l.l.r), .code (B_l10_marked.r.l.r.l.l.r), .inLoop (B_l10_marked.r.l.r.l.l), .inBlock 0, .code (B_l10_marked.r.r)] w
noncomputable def N_l10_marked.j5 (Q : Value → World → Prop) (s0 : Option Addr) (s0n : Nat) (s0c : Nat) (s1 : Int) (s5 : Int) (s6 : Int) (w : World) : Prop := Nd X_l10_marked Q [(0, 0, .slice s0 s0n s0c), (1, 1, .int .u8 s1), (5, 5, .int .i64 s5), (6, 6, .int .i64 s6)] [.code (B_l10_marked.r.l.r.l.l.r.l.l.r.l.l.l.l), .code (B_l10_marked.r.l.r.l.l.r.l.l.r.l.l.l.r), .code (B_l10_marked.r.l.r.l.l.r.l.l.r.l.l.r), .inLoop (B_l10_marked.r.l.r.l.l.r.l.l.r.l.l), .inBlock 2, .inBlock 1, .code (B_l10_marked.r.l.r.l.l.r.r), .inLoop (B_l10_marked.r.l.r.l.l), .inBlock 0, .code (B_l10_marked.r.r)] w
theorem N_l10_marked.j2_eq (Q : Value → World → Prop) (s0 : Option Addr) (s0n : Nat) (s0c : Nat) (s1 : Int) (s5 : Int) (w : World) (h :
  cond (decide (s5 < ((s0n : Nat) : Int)))
  (N_l10_marked.j5 Q s0 s0n s0c s1 s5 0 w)
  (Q (.bool true) w)) :
N_l10_marked.j2 Q s0 s0n s0c s1 s5 w := Nd_fold K_l10_marked (by kernel_rfl) h
theorem N_l10_marked.j5_eq (Q : Value → World → Prop) (s0 : Option Addr) (s0n : Nat) (s0c : Nat) (s1 : Int) (s5 : Int) (s6 : Int) (w : World) (h :
  (0 : Int) ≤ s5 ∧
  s5 < ((s0n : Nat) : Int) ∧
  opnA s0 fun ad1 =>
  opnL (w.cell? (ad1.add (Int.toNat s5 * 1))) fun x2 x2n x2c =>
  cond (decide (s6 < ((x2n : Nat) : Int)))
  ((0 : Int) ≤ s5 ∧
  s5 < ((s0n : Nat) : Int) ∧
  opnA s0 fun ad3 =>
  opnL (w.cell? (ad3.add (Int.toNat s5 * 1))) fun x4 x4n x4c =>
  (0 : Int) ≤ s6 ∧
  s6 < ((x4n : Nat) : Int) ∧
  opnA x4 fun ad5 =>
  opnI .u8 (w.cell? (ad5.add (Int.toNat s6 * 1))) fun x6 =>
  cond (x6 != s1)
  (Q (.bool false) w)
  (N_l10_marked.j5 Q s0 s0n s0c s1 s5 (IntKind.wrap .i64 (s6 + 1)) w))
  (N_l10_marked.j2 Q s0 s0n s0c s1 (IntKind.wrap .i64 (s5 + 1)) w)) :
N_l10_marked.j5 Q s0 s0n s0c s1 s5 s6 w := Nd_fold K_l10_marked (by kernel_rfl) h
theorem C_l10_marked_eq (Q : Value → World → Prop) (a0 : Option Addr) (a0n : Nat) (a0c : Nat) (a1 : Int) (w : World) (h :
  N_l10_marked.j2 Q a0 a0n a0c a1 0 w) :
C_l10_marked #[.slice a0 a0n a0c, .int .u8 a1] w Q := C_fold K_l10_marked (by kernel_rfl) h
/-! ### ledger/ledgerlaw10.lent -/
noncomputable def B_l10_lent : Code := match Tryd.f17.body with | some c => c | _ => .skip
noncomputable def X_l10_lent : Cx := { P := PP, fn := 17, N := 41, tab := tab, results := [.tmp 2], iter := fun _ => (.none, .none), dyn := fun _ => false, live := fun r => cond (Nat.beq r 3) (some [0, 3, 4]) (cond (Nat.beq r 7) (some [0, 3, 5]) (none)) }
theorem K_l10_lent : OkF X_l10_lent B_l10_lent Tryd.f17 := ⟨⟨tab_ok, mix_ok⟩, Tryd.func17, by kernel_rfl, by kernel_rfl, by kernel_rfl, by kernel_rfl⟩
noncomputable def N_l10_lent.j3 (Q : Value → World → Prop) (s0 : Option Addr) (s0n : Nat) (s0c : Nat) (s3 : Option Addr) (s3n : Nat) (s3c : Nat) (s4 : Int) (w : World) : Prop := Nd X_l10_lent Q [(0, 0, .slice s0 s0n s0c), (3, 3, .slice s3 s3n s3c), (4, 4, .int .i64 s4)] [.code (B_l10_lent.r.r.l.r.l.l.l.l), .code (B_l10_lent.r.r.l.r.l.l.l.r), .code (B_l10_lent.r.r.l.r.l.l.r), .inLoop (B_l10_lent.r.r.l.r.l.l), .inBlock 0, .code (B_l10_lent.r.r.r)] w
noncomputable def N_l10_lent.j7 (Q : Value → World → Prop) (s0 : Option Addr) (s0n : Nat) (s0c : Nat) (s3 : Option Addr) (s3n : Nat) (s3c : Nat) (s5 : Int) (w : World) : Prop := Nd X_l10_lent Q [(0, 0, .slice s0 s0n s0c), (3, 3, .slice s3 s3n s3c), (5, 5, .int .i64 s5)] [.code (B_l10_lent.r.r.r.l.r.l.l.l.l), .code (B_l10_lent.r.r.r.l.r.l.l.l.r), .code (B_l10_lent.r.r.r.l.r.l.l.r), .inLoop (B_l10_lent.r.r.r.l.r.l.l), .inBlock 2, .code (B_l10_lent.r.r.r.r)] w
theorem N_l10_lent.j3_eq (Q : Value → World → Prop) (s0 : Option Addr) (s0n : Nat) (s0c : Nat) (s3 : Option Addr) (s3n : Nat) (s3c : Nat) (s4 : Int) (w : World) (h :
  cond (decide (s4 < ((s0n : Nat) : Int)))
  ((0 : Int) ≤ s4 ∧
  s4 < ((s0n : Nat) : Int) ∧
  opnA s0 fun ad1 =>
  opnI .u8 (w.cell? (ad1.add (Int.toNat s4 * 1))) fun x2 =>
  (0 : Int) ≤ s4 ∧
  s4 < ((s3n : Nat) : Int) ∧
  opnA s3 fun ad3 =>
  stC (ad3.add (Int.toNat s4 * 1)) (.int .u8 x2) w fun w4 =>
  N_l10_lent.j3 Q s0 s0n s0c s3 s3n s3c (IntKind.wrap .i64 (s4 + 1)) w4)
  (N_l10_lent.j7 Q s0 s0n s0c s3 s3n s3c ((s0n : Nat) : Int) w)) :
N_l10_lent.j3 Q s0 s0n s0c s3 s3n s3c s4 w := Nd_fold K_l10_lent (by kernel_rfl) h
theorem N_l10_lent.j7_eq (Q : Value → World → Prop) (s0 : Option Addr) (s0n : Nat) (s0c : Nat) (s3 : Option Addr) (s3n : Nat) (s3c : Nat) (s5 : Int) (w : World) (h :
  cond (decide (s5 < ((s3n : Nat) : Int)))
  ((0 : Int) ≤ s5 ∧
  s5 < ((s3n : Nat) : Int) ∧
  opnA s3 fun ad1 =>
  stC (ad1.add (Int.toNat s5 * 1)) (.int .u8 (IntKind.wrap .u8 (IntKind.wrap .i64 ((IntKind.wrap .i64 (192 + s5)) - ((s0n : Nat) : Int))))) w fun w2 =>
  N_l10_lent.j7 Q s0 s0n s0c s3 s3n s3c (IntKind.wrap .i64 (s5 + 1)) w2)
  (Q (.slice s3 s3n s3c) w)) :
N_l10_lent.j7 Q s0 s0n s0c s3 s3n s3c s5 w := Nd_fold K_l10_lent (by kernel_rfl) h
theorem C_l10_lent_eq (Q : Value → World → Prop) (a0 : Option Addr) (a0n : Nat) (a0c : Nat) (w : World) (h :
  sem PP (Instr.makeSlice 25 (.int .i64 (IntKind.wrap .i64 (((a0n : Nat) : Int) + 200))) (.int .i64 (IntKind.wrap .i64 (((a0n : Nat) : Int) + 200)))) w fun v1 w2 =>
  opnL (some v1) fun x3 x3n x3c =>
  N_l10_lent.j3 Q a0 a0n a0c x3 x3n x3c 0 w2) :
C_l10_lent #[.slice a0 a0n a0c] w Q := C_fold K_l10_lent (by kernel_rfl) h
/-! ### ledger/tile.Inside -/
noncomputable def B_tile_Inside : Code := match Tryd.f18.body with | some c => c | _ => .skip
noncomputable def X_tile_Inside : Cx := { P := PP, fn := 18, N := 61, tab := tab, results := [.cell 8 29, .tmp 9], iter := fun _ => (.none, .none), dyn := fun _ => false, live := fun r => cond (Nat.beq r 2) (some [8]) (cond (Nat.beq r 7) (some [8]) (none)) }
theorem K_tile_Inside : OkF X_tile_Inside B_tile_Inside Tryd.f18 := ⟨⟨tab_ok, mix_ok⟩, Tryd.func18, by kernel_rfl, by kernel_rfl, by kernel_rfl, by kernel_rfl⟩
noncomputable def N_tile_Inside.j2 (Q : Value → World → Prop) (s8 : Addr) (w : World) : Prop := Nd X_tile_Inside Q [(8, 8, .pointer (some s8))] [.code (B_tile_Inside.r.l.r.l.l), .code (B_tile_Inside.r.l.r.l.r), .code (B_tile_Inside.r.r)] w
noncomputable def N_tile_Inside.j7 (Q : Value → World → Prop) (s8 : Addr) (w : World) : Prop := Nd X_tile_Inside Q [(8, 8, .pointer (some s8))] [.code (B_tile_Inside.r.r.r.r.l.r.l.l), .code (B_tile_Inside.r.r.r.r.l.r.l.r), .code (B_tile_Inside.r.r.r.r.r)] w
theorem N_tile_Inside.j2_eq (Q : Value → World → Prop) (s8 : Addr) (w : World) (h :
  semP PP (Instr.build 29 #[]) fun v1 =>
  opnG (some v1) fun x3 =>
  stRow s8 x3 (32 * 1) w fun w4 =>
  opnRow w4 s8 (32 * 1) fun x5 =>
  Q (.tuple #[.agg x5, .int .i64 101]) w4) :
N_tile_Inside.j2 Q s8 w := Nd_fold K_tile_Inside (by kernel_rfl) h
theorem N_tile_Inside.j7_eq (Q : Value → World → Prop) (s8 : Addr) (w : World) (h :
  semP PP (Instr.build 29 #[]) fun v1 =>
  opnG (some v1) fun x3 =>
  stRow s8 x3 (32 * 1) w fun w4 =>
  opnRow w4 s8 (32 * 1) fun x5 =>
  Q (.tuple #[.agg x5, .int .i64 105]) w4) :
N_tile_Inside.j7 Q s8 w := Nd_fold K_tile_Inside (by kernel_rfl) h
theorem C_tile_Inside_eq (Q : Value → World → Prop) (a0 : Int) (a1_0 : Int) (a1_1 : Int) (a1_2 : Int) (a1_3 : Int) (a1_4 : Bool) (a2 : Option Addr) (a2n : Nat) (a2c : Nat) (a3 : Int) (w : World) (h :
  alC #[.int .i64 a1_0, .int .i64 a1_1, .int .i64 a1_2, .int .i64 a1_3, .bool a1_4] 24 w fun p1 w2 =>
  alZ PP 29 w2 fun p3 w4 =>
  opnI .i64 (w4.cell? (p1.add 0)) fun x5 =>
  opnI .i64 (w4.cell? (p1.add 1)) fun x6 =>
  opnI .i64 (w4.cell? (p1.add 2)) fun x7 =>
  opnI .i64 (w4.cell? (p1.add 3)) fun x8 =>
  opnB (w4.cell? (p1.add 4)) fun x9 =>
  C_tile_Check #[.agg #[.int .i64 x5, .int .i64 x6, .int .i64 x7, .int .i64 x8, .bool x9]] w4 fun v10 w11 =>
  opnI .i64 (some v10) fun x12 =>
  cond (x12 != 0)
  (N_tile_Inside.j2 Q p3 w11)
  (opnB (w11.cell? (p1.add 4)) fun x13 =>
  cond x13
  (N_tile_Inside.j2 Q p3 w11)
  (opnI .i64 (w11.cell? (p1.add 3)) fun x14 =>
  cond (((a2n : Nat) : Int) != (IntKind.wrap .i64 (32 * x14)))
  (semP PP (Instr.build 29 #[]) fun v15 =>
  opnG (some v15) fun x17 =>
  stRow p3 x17 (32 * 1) w11 fun w18 =>
  opnRow w18 p3 (32 * 1) fun x19 =>
  Q (.tuple #[.agg x19, .int .i64 102]) w18)
  (opnI .i64 (w11.cell? (p1.add 0)) fun x20 =>
  C_tile_seatOf #[.int .i64 x20, .int .i64 a3] w11 fun v21 w22 =>
  opnT (some v21) fun x23 =>
  x23.size = 2 ∧
  opnG (x23[0]?) fun x24 =>
  x24.size = 7 ∧
  opnI .i64 (x24[0]?) fun x25 =>
  opnI .i64 (x24[1]?) fun x26 =>
  opnI .i64 (x24[2]?) fun x27 =>
  opnI .i64 (x24[3]?) fun x28 =>
  opnB (x24[4]?) fun x29 =>
  opnI .i64 (x24[5]?) fun x30 =>
  opnI .i64 (x24[6]?) fun x31 =>
  opnB (x23[1]?) fun x32 =>
  alC #[.int .i64 0, .int .i64 0, .int .i64 0, .int .i64 0, .bool false, .int .i64 0, .int .i64 0] 90 w22 fun p33 w34 =>
  Array.size (#[.int .i64 x25, .int .i64 x26, .int .i64 x27, .int .i64 x28, .bool x29, .int .i64 x30, .int .i64 x31] : Array Value) = 7 ∧
  stC (p33.add 0) (.int .i64 x25) w34 fun w35 =>
  stC (p33.add 1) (.int .i64 x26) w35 fun w36 =>
  stC (p33.add 2) (.int .i64 x27) w36 fun w37 =>
  stC (p33.add 3) (.int .i64 x28) w37 fun w38 =>
  stC (p33.add 4) (.bool x29) w38 fun w39 =>
  stC (p33.add 5) (.int .i64 x30) w39 fun w40 =>
  stC (p33.add 6) (.int .i64 x31) w40 fun w41 =>
  cond (!x32)
  (N_tile_Inside.j7 Q p3 w41)
  (opnI .i64 (w41.cell? ((p33.add 0).add 3)) fun x42 =>
  opnI .i64 (w41.cell? (p1.add 3)) fun x43 =>
  cond (decide (x42 > x43))
  (N_tile_Inside.j7 Q p3 w41)
  (opnI .i64 (w41.cell? (p1.add 3)) fun x44 =>
  stC ((p33.add 0).add 3) (.int .i64 x44) w41 fun w45 =>
  opnI .i64 (w45.cell? ((p33.add 0).add 0)) fun x46 =>
  opnI .i64 (w45.cell? ((p33.add 0).add 1)) fun x47 =>
  opnI .i64 (w45.cell? ((p33.add 0).add 2)) fun x48 =>
  opnI .i64 (w45.cell? ((p33.add 0).add 3)) fun x49 =>
  opnB (w45.cell? ((p33.add 0).add 4)) fun x50 =>
  opnI .i64 (w45.cell? (p1.add 0)) fun x51 =>
  opnI .i64 (w45.cell? (p1.add 1)) fun x52 =>
  opnI .i64 (w45.cell? (p1.add 2)) fun x53 =>
  opnI .i64 (w45.cell? (p1.add 3)) fun x54 =>
  opnB (w45.cell? (p1.add 4)) fun x55 =>
  semR PP (do eqGuard .neq 24 (.tmp 50) (.tmp 51) (.agg #[.int .i64 x46, .int .i64 x47, .int .i64 x48, .int .i64 x49, .bool x50]) (.agg #[.int .i64 x51, .int .i64 x52, .int .i64 x53, .int .i64 x54, .bool x55]); binOp .neq 24 (.agg #[.int .i64 x46, .int .i64 x47, .int .i64 x48, .int .i64 x49, .bool x50]) (.agg #[.int .i64 x51, .int .i64 x52, .int .i64 x53, .int .i64 x54, .bool x55])) w45 fun x56 =>
  opnB (some x56) fun x57 =>
  cond x57
  (semP PP (Instr.build 29 #[]) fun v58 =>
  opnG (some v58) fun x60 =>
  stRow p3 x60 (32 * 1) w45 fun w61 =>
  opnRow w61 p3 (32 * 1) fun x62 =>
  Q (.tuple #[.agg x62, .int .i64 105]) w61)
  (opnI .i64 (w45.cell? (p33.add 5)) fun x63 =>
  opnI .i64 (w45.cell? (p33.add 6)) fun x64 =>
  C_tile_joined #[.int .i64 a0, .slice a2 a2n a2c, .int .i64 x63, .int .i64 x64] w45 fun v65 w66 =>
  opnG (some v65) fun x67 =>
  stRow p3 x67 (32 * 1) w66 fun w68 =>
  opnRow w68 p3 (32 * 1) fun x69 =>
  Q (.tuple #[.agg x69, .int .i64 0]) w68))))))) :
C_tile_Inside #[.int .i64 a0, .agg #[.int .i64 a1_0, .int .i64 a1_1, .int .i64 a1_2, .int .i64 a1_3, .bool a1_4], .slice a2 a2n a2c, .int .i64 a3] w Q := C_fold K_tile_Inside (by kernel_rfl) h
/-! ### ledger/ledgerref10.Inside -/
noncomputable def B_r10_Inside : Code := match Tryd.f19.body with | some c => c | _ => .skip
noncomputable def X_r10_Inside : Cx := { P := PP, fn := 19, N := 43, tab := tab, results := [.cell 8 28, .tmp 9], iter := fun _ => (.none, .none), dyn := fun _ => false, live := fun r => cond (Nat.beq r 2) (some [8]) (none) }
theorem K_r10_Inside : OkF X_r10_Inside B_r10_Inside Tryd.f19 := ⟨⟨tab_ok, mix_ok⟩, Tryd.func19, by kernel_rfl, by kernel_rfl, by kernel_rfl, by kernel_rfl⟩
noncomputable def N_r10_Inside.j2 (Q : Value → World → Prop) (s8 : Addr) (w : World) : Prop := Nd X_r10_Inside Q [(8, 8, .pointer (some s8))] [.code (B_r10_Inside.r.l.r.l.l), .code (B_r10_Inside.r.l.r.l.r), .code (B_r10_Inside.r.r)] w
theorem N_r10_Inside.j2_eq (Q : Value → World → Prop) (s8 : Addr) (w : World) (h :
  semP PP (Instr.build 28 #[]) fun v1 =>
  opnG (some v1) fun x3 =>
  stRow s8 x3 (32 * 1) w fun w4 =>
  opnRow w4 s8 (32 * 1) fun x5 =>
  Q (.tuple #[.agg x5, .int .i64 101]) w4) :
N_r10_Inside.j2 Q s8 w := Nd_fold K_r10_Inside (by kernel_rfl) h
theorem C_r10_Inside_eq (Q : Value → World → Prop) (a0 : Int) (a1_0 : Int) (a1_1 : Int) (a1_2 : Int) (a1_3 : Int) (a1_4 : Bool) (a2 : Option Addr) (a2n : Nat) (a2c : Nat) (a3 : Int) (w : World) (h :
  alC #[.int .i64 a1_0, .int .i64 a1_1, .int .i64 a1_2, .int .i64 a1_3, .bool a1_4] 37 w fun p1 w2 =>
  alZ PP 28 w2 fun p3 w4 =>
  opnI .i64 (w4.cell? (p1.add 0)) fun x5 =>
  opnI .i64 (w4.cell? (p1.add 1)) fun x6 =>
  opnI .i64 (w4.cell? (p1.add 2)) fun x7 =>
  opnI .i64 (w4.cell? (p1.add 3)) fun x8 =>
  opnB (w4.cell? (p1.add 4)) fun x9 =>
  C_r10_Check #[.agg #[.int .i64 x5, .int .i64 x6, .int .i64 x7, .int .i64 x8, .bool x9]] w4 fun v10 w11 =>
  opnI .i64 (some v10) fun x12 =>
  cond (x12 != 0)
  (N_r10_Inside.j2 Q p3 w11)
  (opnB (w11.cell? (p1.add 4)) fun x13 =>
  cond x13
  (N_r10_Inside.j2 Q p3 w11)
  (opnI .i64 (w11.cell? (p1.add 3)) fun x14 =>
  cond (((a2n : Nat) : Int) != (IntKind.wrap .i64 (32 * x14)))
  (semP PP (Instr.build 28 #[]) fun v15 =>
  opnG (some v15) fun x17 =>
  stRow p3 x17 (32 * 1) w11 fun w18 =>
  opnRow w18 p3 (32 * 1) fun x19 =>
  Q (.tuple #[.agg x19, .int .i64 102]) w18)
  (opnI .i64 (w11.cell? (p1.add 0)) fun x20 =>
  opnI .i64 (w11.cell? (p1.add 1)) fun x21 =>
  opnI .i64 (w11.cell? (p1.add 2)) fun x22 =>
  opnI .i64 (w11.cell? (p1.add 3)) fun x23 =>
  opnB (w11.cell? (p1.add 4)) fun x24 =>
  C_r10_where #[.agg #[.int .i64 x20, .int .i64 x21, .int .i64 x22, .int .i64 x23, .bool x24], .int .i64 a3] w11 fun v25 w26 =>
  opnT (some v25) fun x27 =>
  x27.size = 3 ∧
  opnI .i64 (x27[0]?) fun x28 =>
  opnI .i64 (x27[1]?) fun x29 =>
  opnB (x27[2]?) fun x30 =>
  cond (!x30)
  (semP PP (Instr.build 28 #[]) fun v31 =>
  opnG (some v31) fun x33 =>
  stRow p3 x33 (32 * 1) w26 fun w34 =>
  opnRow w34 p3 (32 * 1) fun x35 =>
  Q (.tuple #[.agg x35, .int .i64 105]) w34)
  (C_r10_joined #[.int .i64 a0, .slice a2 a2n a2c, .int .i64 x28, .int .i64 x29] w26 fun v36 w37 =>
  opnG (some v36) fun x38 =>
  stRow p3 x38 (32 * 1) w37 fun w39 =>
  opnRow w39 p3 (32 * 1) fun x40 =>
  Q (.tuple #[.agg x40, .int .i64 0]) w39))))) :
C_r10_Inside #[.int .i64 a0, .agg #[.int .i64 a1_0, .int .i64 a1_1, .int .i64 a1_2, .int .i64 a1_3, .bool a1_4], .slice a2 a2n a2c, .int .i64 a3] w Q := C_fold K_r10_Inside (by kernel_rfl) h
/-! ### ledger/ledgerlaw10.whole -/
noncomputable def B_l10_whole : Code := match Tryd.f20.body with | some c => c | _ => .skip
noncomputable def X_l10_whole : Cx := { P := PP, fn := 20, N := 11, tab := tab, results := [.tmp 4], iter := fun _ => (.none, .none), dyn := fun _ => false, live := fun _ => none }
theorem K_l10_whole : OkF X_l10_whole B_l10_whole Tryd.f20 := ⟨⟨tab_ok, mix_ok⟩, Tryd.func20, by kernel_rfl, by kernel_rfl, by kernel_rfl, by kernel_rfl⟩
theorem C_l10_whole_eq (Q : Value → World → Prop) (a0 : Option Addr) (a0n : Nat) (a0c : Nat) (a1 : Option Addr) (a1n : Nat) (a1c : Nat) (w : World) (h :
  drw w fun w1 =>
  semR PP (convert 25 9 (.slice a0 a0n a0c)) w1 fun x2 =>
  opnS (some x2) fun x3 =>
  C_l10_lent #[.slice a1 a1n a1c] w1 fun v4 w5 =>
  opnL (some v4) fun x6 x6n x6c =>
  (semR PP (convert 25 9 (.slice a0 a0n a0c)) w5 fun x7 =>
  opnS (some x7) fun x8 =>
  ((.string x8) : Value) = .string x3) ∧
  semR PP (convert 25 9 (.slice x6 x6n x6c)) w5 fun x9 =>
  opnS (some x9) fun x10 =>
  Q (.bool (x3.toList == x10.toList)) w5) :
C_l10_whole #[.slice a0 a0n a0c, .slice a1 a1n a1c] w Q := C_fold K_l10_whole (by kernel_rfl) h
/-! ### ledger/tlog.Records -/
noncomputable def B_tlog_Records : Code := match Tryd.f35.body with | some c => c | _ => .skip
noncomputable def X_tlog_Records : Cx := { P := PP, fn := 35, N := 19, tab := tab, results := [.tmp 2, .tmp 3], iter := fun _ => (.none, .none), dyn := fun _ => false, live := fun r => cond (Nat.beq r 2) (some []) (none) }
theorem K_tlog_Records : OkF X_tlog_Records B_tlog_Records Tryd.f35 := ⟨⟨tab_ok, mix_ok⟩, Tryd.func35, by kernel_rfl, by kernel_rfl, by kernel_rfl, by kernel_rfl⟩
noncomputable def N_tlog_Records.j2 (Q : Value → World → Prop) (w : World) : Prop := Nd X_tlog_Records Q [] [.code (B_tlog_Records.r.l.r.l.l), .code (B_tlog_Records.r.l.r.l.r), .code (B_tlog_Records.r.r)] w
theorem N_tlog_Records.j2_eq (Q : Value → World → Prop) (w : World) (h :
  Q (.tuple #[.int .i64 0, .int .i64 80]) w) :
N_tlog_Records.j2 Q w := Nd_fold K_tlog_Records (by kernel_rfl) h
theorem C_tlog_Records_eq (Q : Value → World → Prop) (a0 : Int) (w : World) (h :
  cond (decide (a0 < 0))
  (N_tlog_Records.j2 Q w)
  (C_tlog_count #[.int .i64 281474976710656] w fun v1 w2 =>
  opnI .i64 (some v1) fun x3 =>
  cond (decide (a0 > x3))
  (N_tlog_Records.j2 Q w2)
  (C_tlog_filled #[.int .i64 a0] w2 fun v4 w5 =>
  opnI .i64 (some v4) fun x6 =>
  C_tlog_count #[.int .i64 x6] w5 fun v7 w8 =>
  opnI .i64 (some v7) fun x9 =>
  cond (x9 != a0)
  (Q (.tuple #[.int .i64 0, .int .i64 80]) w8)
  (Q (.tuple #[.int .i64 x6, .int .i64 0]) w8)))) :
C_tlog_Records #[.int .i64 a0] w Q := C_fold K_tlog_Records (by kernel_rfl) h
/-! ### ledger/tile.widthOf -/
noncomputable def B_tile_widthOf : Code := match Tryd.f36.body with | some c => c | _ => .skip
noncomputable def X_tile_widthOf : Cx := { P := PP, fn := 36, N := 32, tab := tab, results := [.tmp 8], iter := fun _ => (.none, .none), dyn := fun _ => false, live := fun _ => none }
theorem K_tile_widthOf : OkF X_tile_widthOf B_tile_widthOf Tryd.f36 := ⟨⟨tab_ok, mix_ok⟩, Tryd.func36, by kernel_rfl, by kernel_rfl, by kernel_rfl, by kernel_rfl⟩
theorem C_tile_widthOf_eq (Q : Value → World → Prop) (a0 : Int) (a1 : Int) (a2 : Int) (a3 : Int) (w : World) (h :
  a0 ≠ (0 : Int) ∧
  cond (decide (a1 > (IntKind.wrap .i64 (Int.tdiv 48 a0))))
  (Q (.int .i64 0) w)
  (nn (IntKind.wrap .i64 (a0 * a1)) (
  nn a0 (
  cond (decide (a2 > (shrI .i64 (shrI .i64 a3 (IntKind.wrap .i64 (a0 * a1))) a0)))
  (Q (.int .i64 0) w)
  (drw w fun w1 =>
  nn a0 (
  C_tile_full #[.int .i64 a0] w1 fun v2 w3 =>
  opnI .i64 (some v2) fun x4 =>
  Q (.int .i64 (if x4 < IntKind.wrap .i64 ((shrI .i64 a3 (IntKind.wrap .i64 (a0 * a1))) - (shlI .i64 a2 a0)) then x4 else IntKind.wrap .i64 ((shrI .i64 a3 (IntKind.wrap .i64 (a0 * a1))) - (shlI .i64 a2 a0)))) w3)))))) :
C_tile_widthOf #[.int .i64 a0, .int .i64 a1, .int .i64 a2, .int .i64 a3] w Q := C_fold K_tile_widthOf (by kernel_rfl) h
/-! ### ledger/tlog.Index -/
noncomputable def B_tlog_Index : Code := match Tryd.f37.body with | some c => c | _ => .skip
noncomputable def X_tlog_Index : Cx := { P := PP, fn := 37, N := 25, tab := tab, results := [.tmp 4, .tmp 5], iter := fun _ => (.none, .none), dyn := fun _ => false, live := fun r => cond (Nat.beq r 2) (some []) (none) }
theorem K_tlog_Index : OkF X_tlog_Index B_tlog_Index Tryd.f37 := ⟨⟨tab_ok, mix_ok⟩, Tryd.func37, by kernel_rfl, by kernel_rfl, by kernel_rfl, by kernel_rfl⟩
noncomputable def N_tlog_Index.j2 (Q : Value → World → Prop) (w : World) : Prop := Nd X_tlog_Index Q [] [.code (B_tlog_Index.r.l.r.l.l), .code (B_tlog_Index.r.l.r.l.r), .code (B_tlog_Index.r.r)] w
theorem N_tlog_Index.j2_eq (Q : Value → World → Prop) (w : World) (h :
  Q (.tuple #[.int .i64 0, .int .i64 1]) w) :
N_tlog_Index.j2 Q w := Nd_fold K_tlog_Index (by kernel_rfl) h
theorem C_tlog_Index_eq (Q : Value → World → Prop) (a0 : Int) (a1 : Int) (w : World) (h :
  cond (decide (a0 < 0))
  (N_tlog_Index.j2 Q w)
  (cond (decide (a0 > 48))
  (N_tlog_Index.j2 Q w)
  (cond (decide (a1 < 0))
  (N_tlog_Index.j2 Q w)
  (nn a0 (
  cond (decide (a1 ≥ (shrI .i64 281474976710656 a0)))
  (N_tlog_Index.j2 Q w)
  (C_tlog_place #[.int .i64 a0, .int .i64 a1] w fun v1 w2 =>
  opnI .i64 (some v1) fun x3 =>
  Q (.tuple #[.int .i64 x3, .int .i64 0]) w2)))))) :
C_tlog_Index #[.int .i64 a0, .int .i64 a1] w Q := C_fold K_tlog_Index (by kernel_rfl) h
/-! ### ledger/ledgerref08.Records -/
noncomputable def B_r08_Records : Code := match Tryd.f38.body with | some c => c | _ => .skip
noncomputable def X_r08_Records : Cx := { P := PP, fn := 38, N := 18, tab := tab, results := [.tmp 2, .tmp 3], iter := fun _ => (.none, .none), dyn := fun _ => false, live := fun r => cond (Nat.beq r 2) (some []) (none) }
theorem K_r08_Records : OkF X_r08_Records B_r08_Records Tryd.f38 := ⟨⟨tab_ok, mix_ok⟩, Tryd.func38, by kernel_rfl, by kernel_rfl, by kernel_rfl, by kernel_rfl⟩
noncomputable def N_r08_Records.j2 (Q : Value → World → Prop) (w : World) : Prop := Nd X_r08_Records Q [] [.code (B_r08_Records.r.l.r.l.l), .code (B_r08_Records.r.l.r.l.r), .code (B_r08_Records.r.r)] w
theorem N_r08_Records.j2_eq (Q : Value → World → Prop) (w : World) (h :
  Q (.tuple #[.int .i64 0, .int .i64 80]) w) :
N_r08_Records.j2 Q w := Nd_fold K_r08_Records (by kernel_rfl) h
theorem C_r08_Records_eq (Q : Value → World → Prop) (a0 : Int) (w : World) (h :
  cond (decide (a0 < 0))
  (N_r08_Records.j2 Q w)
  (cond (decide (a0 > 562949953421311))
  (N_r08_Records.j2 Q w)
  (C_r08_record #[.int .i64 a0] w fun v1 w2 =>
  opnI .i64 (some v1) fun x3 =>
  C_r08_laid #[.int .i64 x3] w2 fun v4 w5 =>
  opnI .i64 (some v4) fun x6 =>
  cond (x6 != a0)
  (Q (.tuple #[.int .i64 0, .int .i64 80]) w5)
  (Q (.tuple #[.int .i64 x3, .int .i64 0]) w5)))) :
C_r08_Records #[.int .i64 a0] w Q := C_fold K_r08_Records (by kernel_rfl) h
/-! ### ledger/ledgerref10.Width -/
noncomputable def B_r10_Width : Code := match Tryd.f39.body with | some c => c | _ => .skip
noncomputable def X_r10_Width : Cx := { P := PP, fn := 39, N := 56, tab := tab, results := [.tmp 8, .tmp 9], iter := fun _ => (.none, .none), dyn := fun _ => false, live := fun r => cond (Nat.beq r 2) (some []) (cond (Nat.beq r 9) (some [0, 11]) (cond (Nat.beq r 10) (some [0]) (cond (Nat.beq r 11) (some [11]) (none)))) }
theorem K_r10_Width : OkF X_r10_Width B_r10_Width Tryd.f39 := ⟨⟨tab_ok, mix_ok⟩, Tryd.func39, by kernel_rfl, by kernel_rfl, by kernel_rfl, by kernel_rfl⟩
noncomputable def N_r10_Width.j2 (Q : Value → World → Prop) (w : World) : Prop := Nd X_r10_Width Q [] [.code (B_r10_Width.r.l.r.l.l), .code (B_r10_Width.r.l.r.l.r), .code (B_r10_Width.r.r)] w
noncomputable def N_r10_Width.j9 (Q : Value → World → Prop) (s0 : Int) (s11 : Int) (w : World) : Prop := Nd X_r10_Width Q [(0, 0, .int .i64 s0), (11, 11, .int .i64 s11)] [.code (B_r10_Width.r.r.r.r.r.r.l.l), .code (B_r10_Width.r.r.r.r.r.r.l.r), .code (B_r10_Width.r.r.r.r.r.r.r)] w
noncomputable def N_r10_Width.j10 (Q : Value → World → Prop) (s0 : Int) (w : World) : Prop := Nd X_r10_Width Q [(0, 0, .int .i64 s0)] [.code (B_r10_Width.r.r.r.r.r.r.l.r.l), .code (B_r10_Width.r.r.r.r.r.r.r)] w
noncomputable def N_r10_Width.j11 (Q : Value → World → Prop) (s11 : Int) (w : World) : Prop := Nd X_r10_Width Q [(11, 11, .int .i64 s11)] [.code (B_r10_Width.r.r.r.r.r.r.r.l), .code (B_r10_Width.r.r.r.r.r.r.r.r)] w
theorem N_r10_Width.j2_eq (Q : Value → World → Prop) (w : World) (h :
  Q (.tuple #[.int .i64 0, .int .i64 1]) w) :
N_r10_Width.j2 Q w := Nd_fold K_r10_Width (by kernel_rfl) h
theorem N_r10_Width.j9_eq (Q : Value → World → Prop) (s0 : Int) (s11 : Int) (w : World) (h :
  C_r10_power #[.int .i64 s0] w fun v1 w2 =>
  opnI .i64 (some v1) fun x3 =>
  cond (decide (s11 > x3))
  (N_r10_Width.j10 Q s0 w2)
  (N_r10_Width.j11 Q s11 w2)) :
N_r10_Width.j9 Q s0 s11 w := Nd_fold K_r10_Width (by kernel_rfl) h
theorem N_r10_Width.j10_eq (Q : Value → World → Prop) (s0 : Int) (w : World) (h :
  C_r10_power #[.int .i64 s0] w fun v1 w2 =>
  opnI .i64 (some v1) fun x3 =>
  N_r10_Width.j11 Q x3 w2) :
N_r10_Width.j10 Q s0 w := Nd_fold K_r10_Width (by kernel_rfl) h
theorem N_r10_Width.j11_eq (Q : Value → World → Prop) (s11 : Int) (w : World) (h :
  Q (.tuple #[.int .i64 s11, .int .i64 0]) w) :
N_r10_Width.j11 Q s11 w := Nd_fold K_r10_Width (by kernel_rfl) h
theorem C_r10_Width_eq (Q : Value → World → Prop) (a0 : Int) (a1 : Int) (a2 : Int) (a3 : Int) (w : World) (h :
  cond (decide (a0 < 1))
  (N_r10_Width.j2 Q w)
  (cond (decide (a0 > 8))
  (N_r10_Width.j2 Q w)
  (cond (decide (a1 < 0))
  (N_r10_Width.j2 Q w)
  (cond (decide (a2 < 0))
  (N_r10_Width.j2 Q w)
  (cond (decide (a3 < 0))
  (N_r10_Width.j2 Q w)
  (cond (decide (a3 > 281474976710656))
  (N_r10_Width.j2 Q w)
  (C_r10_nodes #[.int .i64 a0, .int .i64 a1, .int .i64 a3] w fun v1 w2 =>
  opnI .i64 (some v1) fun x3 =>
  cond (decide (a2 > x3))
  (Q (.tuple #[.int .i64 0, .int .i64 0]) w2)
  (C_r10_power #[.int .i64 a0] w2 fun v4 w5 =>
  opnI .i64 (some v4) fun x6 =>
  cond (decide ((IntKind.wrap .i64 (x3 - (IntKind.wrap .i64 (a2 * x6)))) < 0))
  (N_r10_Width.j9 Q a0 0 w5)
  (N_r10_Width.j9 Q a0 (IntKind.wrap .i64 (x3 - (IntKind.wrap .i64 (a2 * x6)))) w5))))))))) :
C_r10_Width #[.int .i64 a0, .int .i64 a1, .int .i64 a2, .int .i64 a3] w Q := C_fold K_r10_Width (by kernel_rfl) h
/-! ### ledger/ledgerref08.Index -/
noncomputable def B_r08_Index : Code := match Tryd.f40.body with | some c => c | _ => .skip
noncomputable def X_r08_Index : Cx := { P := PP, fn := 40, N := 38, tab := tab, results := [.tmp 4, .tmp 5], iter := fun _ => (.none, .none), dyn := fun _ => false, live := fun r => cond (Nat.beq r 2) (some []) (none) }
theorem K_r08_Index : OkF X_r08_Index B_r08_Index Tryd.f40 := ⟨⟨tab_ok, mix_ok⟩, Tryd.func40, by kernel_rfl, by kernel_rfl, by kernel_rfl, by kernel_rfl⟩
noncomputable def N_r08_Index.j2 (Q : Value → World → Prop) (w : World) : Prop := Nd X_r08_Index Q [] [.code (B_r08_Index.r.l.r.l.l), .code (B_r08_Index.r.l.r.l.r), .code (B_r08_Index.r.r)] w
theorem N_r08_Index.j2_eq (Q : Value → World → Prop) (w : World) (h :
  Q (.tuple #[.int .i64 0, .int .i64 1]) w) :
N_r08_Index.j2 Q w := Nd_fold K_r08_Index (by kernel_rfl) h
theorem C_r08_Index_eq (Q : Value → World → Prop) (a0 : Int) (a1 : Int) (w : World) (h :
  cond (decide (a0 < 0))
  (N_r08_Index.j2 Q w)
  (cond (decide (a0 > 48))
  (N_r08_Index.j2 Q w)
  (cond (decide (a1 < 0))
  (N_r08_Index.j2 Q w)
  (cond (decide (a1 ≥ 281474976710656))
  (N_r08_Index.j2 Q w)
  (C_r08_power #[.int .i64 a0] w fun v1 w2 =>
  opnI .i64 (some v1) fun x3 =>
  x3 ≠ (0 : Int) ∧
  cond (decide ((IntKind.wrap .i64 (a1 + 1)) > (IntKind.wrap .i64 (Int.tdiv 281474976710656 x3))))
  (Q (.tuple #[.int .i64 0, .int .i64 1]) w2)
  (C_r08_laid #[.int .i64 (IntKind.wrap .i64 ((IntKind.wrap .i64 ((IntKind.wrap .i64 (a1 + 1)) * x3)) - 1))] w2 fun v4 w5 =>
  opnI .i64 (some v4) fun x6 =>
  Q (.tuple #[.int .i64 (IntKind.wrap .i64 (x6 + a0)), .int .i64 0]) w5)))))) :
C_r08_Index #[.int .i64 a0, .int .i64 a1] w Q := C_fold K_r08_Index (by kernel_rfl) h
/-! ### ledger/tile.seatOf -/
noncomputable def B_tile_seatOf : Code := match Tryd.f42.body with | some c => c | _ => .skip
noncomputable def X_tile_seatOf : Cx := { P := PP, fn := 42, N := 49, tab := tab, results := [.cell 4 90, .tmp 5], iter := fun _ => (.none, .none), dyn := fun _ => false, live := fun _ => none }
theorem K_tile_seatOf : OkF X_tile_seatOf B_tile_seatOf Tryd.f42 := ⟨⟨tab_ok, mix_ok⟩, Tryd.func42, by kernel_rfl, by kernel_rfl, by kernel_rfl, by kernel_rfl⟩
theorem C_tile_seatOf_eq (Q : Value → World → Prop) (a0 : Int) (a1 : Int) (w : World) (h :
  alC #[.int .i64 0, .int .i64 0, .int .i64 0, .int .i64 0, .bool false, .int .i64 0, .int .i64 0] 90 w fun p1 w2 =>
  C_tlog_SplitIndex #[.int .i64 a1] w2 fun v3 w4 =>
  opnT (some v3) fun x5 =>
  x5.size = 3 ∧
  opnI .i64 (x5[0]?) fun x6 =>
  opnI .i64 (x5[1]?) fun x7 =>
  opnI .i64 (x5[2]?) fun x8 =>
  cond (x8 != 0)
  (Array.size (#[.int .i64 0, .int .i64 0, .int .i64 0, .int .i64 0, .bool false, .int .i64 0, .int .i64 0] : Array Value) = 7 ∧
  stC (p1.add 0) (.int .i64 0) w4 fun w9 =>
  stC (p1.add 1) (.int .i64 0) w9 fun w10 =>
  stC (p1.add 2) (.int .i64 0) w10 fun w11 =>
  stC (p1.add 3) (.int .i64 0) w11 fun w12 =>
  stC (p1.add 4) (.bool false) w12 fun w13 =>
  stC (p1.add 5) (.int .i64 0) w13 fun w14 =>
  stC (p1.add 6) (.int .i64 0) w14 fun w15 =>
  opnI .i64 (w15.cell? (p1.add 0)) fun x16 =>
  opnI .i64 (w15.cell? (p1.add 1)) fun x17 =>
  opnI .i64 (w15.cell? (p1.add 2)) fun x18 =>
  opnI .i64 (w15.cell? (p1.add 3)) fun x19 =>
  opnB (w15.cell? (p1.add 4)) fun x20 =>
  opnI .i64 (w15.cell? (p1.add 5)) fun x21 =>
  opnI .i64 (w15.cell? (p1.add 6)) fun x22 =>
  Q (.tuple #[.agg #[.int .i64 x16, .int .i64 x17, .int .i64 x18, .int .i64 x19, .bool x20, .int .i64 x21, .int .i64 x22], .bool false]) w15)
  (drw w4 fun w23 =>
  a0 ≠ (0 : Int) ∧
  a0 ≠ (0 : Int) ∧
  nn (Int.tmod x6 a0) (
  C_tile_full #[.int .i64 a0] w23 fun v24 w25 =>
  opnI .i64 (some v24) fun x26 =>
  drw w25 fun w27 =>
  nn a0 (
  nn (Int.tmod x6 a0) (
  Array.size (#[.int .i64 a0, .int .i64 (IntKind.wrap .i64 (Int.tdiv x6 a0)), .int .i64 (shrI .i64 (shlI .i64 x7 (Int.tmod x6 a0)) a0), .int .i64 (IntKind.wrap .i64 ((bits .and .i64 (shlI .i64 x7 (Int.tmod x6 a0)) (IntKind.wrap .i64 (x26 - 1))) + (shlI .i64 1 (Int.tmod x6 a0)))), .bool false, .int .i64 (bits .and .i64 (shlI .i64 x7 (Int.tmod x6 a0)) (IntKind.wrap .i64 (x26 - 1))), .int .i64 (Int.tmod x6 a0)] : Array Value) = 7 ∧
  stC (p1.add 0) (.int .i64 a0) w27 fun w28 =>
  stC (p1.add 1) (.int .i64 (IntKind.wrap .i64 (Int.tdiv x6 a0))) w28 fun w29 =>
  stC (p1.add 2) (.int .i64 (shrI .i64 (shlI .i64 x7 (Int.tmod x6 a0)) a0)) w29 fun w30 =>
  stC (p1.add 3) (.int .i64 (IntKind.wrap .i64 ((bits .and .i64 (shlI .i64 x7 (Int.tmod x6 a0)) (IntKind.wrap .i64 (x26 - 1))) + (shlI .i64 1 (Int.tmod x6 a0))))) w30 fun w31 =>
  stC (p1.add 4) (.bool false) w31 fun w32 =>
  stC (p1.add 5) (.int .i64 (bits .and .i64 (shlI .i64 x7 (Int.tmod x6 a0)) (IntKind.wrap .i64 (x26 - 1)))) w32 fun w33 =>
  stC (p1.add 6) (.int .i64 (Int.tmod x6 a0)) w33 fun w34 =>
  opnI .i64 (w34.cell? (p1.add 0)) fun x35 =>
  opnI .i64 (w34.cell? (p1.add 1)) fun x36 =>
  opnI .i64 (w34.cell? (p1.add 2)) fun x37 =>
  opnI .i64 (w34.cell? (p1.add 3)) fun x38 =>
  opnB (w34.cell? (p1.add 4)) fun x39 =>
  opnI .i64 (w34.cell? (p1.add 5)) fun x40 =>
  opnI .i64 (w34.cell? (p1.add 6)) fun x41 =>
  Q (.tuple #[.agg #[.int .i64 x35, .int .i64 x36, .int .i64 x37, .int .i64 x38, .bool x39, .int .i64 x40, .int .i64 x41], .bool true]) w34))))) :
C_tile_seatOf #[.int .i64 a0, .int .i64 a1] w Q := C_fold K_tile_seatOf (by kernel_rfl) h
/-! ### ledger/tile.joined -/
noncomputable def B_tile_joined : Code := match Tryd.f43.body with | some c => c | _ => .skip
noncomputable def X_tile_joined : Cx := { P := PP, fn := 43, N := 66, tab := tab, results := [.cell 8 29], iter := fun _ => (.none, .none), dyn := fun _ => false, live := fun r => cond (Nat.beq r 3) (some [0, 1, 2, 8, 9, 16, 17]) (cond (Nat.beq r 7) (some [0, 8, 9]) (cond (Nat.beq r 9) (some [0, 8, 9, 37, 38]) (none))) }
theorem K_tile_joined : OkF X_tile_joined B_tile_joined Tryd.f43 := ⟨⟨tab_ok, mix_ok⟩, Tryd.func43, by kernel_rfl, by kernel_rfl, by kernel_rfl, by kernel_rfl⟩
noncomputable def N_tile_joined.j3 (Q : Value → World → Prop) (s0 : Int) (s1 : Option Addr) (s1n : Nat) (s1c : Nat) (s2 : Int) (s8 : Addr) (s9 : Option Addr) (s9n : Nat) (s9c : Nat) (s16 : Int) (s17 : Int) (w : World) : Prop := Nd X_tile_joined Q [(0, 0, .int .i64 s0), (1, 1, .slice s1 s1n s1c), (2, 2, .int .i64 s2), (8, 8, .pointer (some s8)), (9, 9, .slice s9 s9n s9c), (16, 16, .int .i64 s16), (17, 17, .int .i64 s17)] [.code (B_tile_joined.r.r.l.r.l.l.l), .code (B_tile_joined.r.r.l.r.l.l.r), .inLoop (B_tile_joined.r.r.l.r.l.l), .inBlock 0, .code (B_tile_joined.r.r.r)] w
noncomputable def N_tile_joined.j7 (Q : Value → World → Prop) (s0 : Int) (s8 : Addr) (s9 : Option Addr) (s9n : Nat) (s9c : Nat) (w : World) : Prop := Nd X_tile_joined Q [(0, 0, .int .i64 s0), (8, 8, .pointer (some s8)), (9, 9, .slice s9 s9n s9c)] [.code (B_tile_joined.r.r.r.l.l.l.l.l), .code (B_tile_joined.r.r.r.l.l.l.l.r), .code (B_tile_joined.r.r.r.l.l.l.r), .inLoop (B_tile_joined.r.r.r.l.l.l), .inBlock 2, .code (B_tile_joined.r.r.r.r)] w
noncomputable def N_tile_joined.j9 (Q : Value → World → Prop) (s0 : Int) (s8 : Addr) (s9 : Option Addr) (s9n : Nat) (s9c : Nat) (s37 : Int) (s38 : Int) (w : World) : Prop := Nd X_tile_joined Q [(0, 0, .int .i64 s0), (8, 8, .pointer (some s8)), (9, 9, .slice s9 s9n s9c), (37, 37, .int .i64 s37), (38, 38, .int .i64 s38)] [.code (B_tile_joined.r.r.r.l.l.l.r.l.l.r.l.l.l), .code (B_tile_joined.r.r.r.l.l.l.r.l.l.r.l.l.r), .inLoop (B_tile_joined.r.r.r.l.l.l.r.l.l.r.l.l), .inBlock 4, .code (B_tile_joined.r.r.r.l.l.l.r.l.r), .inBlock 3, .inLoop (B_tile_joined.r.r.r.l.l.l), .inBlock 2, .code (B_tile_joined.r.r.r.r)] w
theorem N_tile_joined.j3_eq (Q : Value → World → Prop) (s0 : Int) (s1 : Option Addr) (s1n : Nat) (s1c : Nat) (s2 : Int) (s8 : Addr) (s9 : Option Addr) (s9n : Nat) (s9c : Nat) (s16 : Int) (s17 : Int) (w : World) (h :
  cond (decide (s17 < s16))
  ((0 : Int) ≤ (IntKind.wrap .i64 (32 * (IntKind.wrap .i64 (s2 + s17)))) ∧
  (IntKind.wrap .i64 (32 * (IntKind.wrap .i64 (s2 + s17)))) ≤ ((s1n : Nat) : Int) ∧
  32 ≤ (s1n - (Int.toNat (IntKind.wrap .i64 (32 * (IntKind.wrap .i64 (s2 + s17)))))) ∧
  opnA (slA s1 (Int.toNat (IntKind.wrap .i64 (32 * (IntKind.wrap .i64 (s2 + s17))))) s1c 1) fun ad1 =>
  opnRow w ad1 (32 * 1) fun x2 =>
  (0 : Int) ≤ s17 ∧
  s17 < ((s9n : Nat) : Int) ∧
  opnA s9 fun ad3 =>
  stRow (ad3.add (Int.toNat s17 * 32)) x2 (32 * 1) w fun w4 =>
  N_tile_joined.j3 Q s0 s1 s1n s1c s2 s8 s9 s9n s9c s16 (IntKind.wrap .i64 (s17 + 1)) w4)
  (N_tile_joined.j7 Q s0 s8 s9 s9n s9c w)) :
N_tile_joined.j3 Q s0 s1 s1n s1c s2 s8 s9 s9n s9c s16 s17 w := Nd_fold K_tile_joined (by kernel_rfl) h
theorem N_tile_joined.j7_eq (Q : Value → World → Prop) (s0 : Int) (s8 : Addr) (s9 : Option Addr) (s9n : Nat) (s9c : Nat) (w : World) (h :
  cond (decide (((s9n : Nat) : Int) > 1))
  (2 ≠ (0 : Int) ∧
  N_tile_joined.j9 Q s0 s8 s9 s9n s9c (IntKind.wrap .i64 (Int.tdiv ((s9n : Nat) : Int) 2)) 0 w)
  ((0 : Int) ≤ 0 ∧
  0 < ((s9n : Nat) : Int) ∧
  opnA s9 fun ad1 =>
  opnRow w (ad1.add (Int.toNat 0 * 32)) (32 * 1) fun x2 =>
  stRow s8 x2 (32 * 1) w fun w3 =>
  opnRow w3 s8 (32 * 1) fun x4 =>
  Q (.agg x4) w3)) :
N_tile_joined.j7 Q s0 s8 s9 s9n s9c w := Nd_fold K_tile_joined (by kernel_rfl) h
theorem N_tile_joined.j9_eq (Q : Value → World → Prop) (s0 : Int) (s8 : Addr) (s9 : Option Addr) (s9n : Nat) (s9c : Nat) (s37 : Int) (s38 : Int) (w : World) (h :
  cond (decide (s38 < s37))
  (drw w fun w1 =>
  (0 : Int) ≤ IntKind.wrap .i64 (2 * s38) ∧
  (IntKind.wrap .i64 (2 * s38)) < ((s9n : Nat) : Int) ∧
  opnA s9 fun ad2 =>
  (0 : Int) ≤ IntKind.wrap .i64 ((IntKind.wrap .i64 (2 * s38)) + 1) ∧
  (IntKind.wrap .i64 ((IntKind.wrap .i64 (2 * s38)) + 1)) < ((s9n : Nat) : Int) ∧
  opnA s9 fun ad3 =>
  opnRow w1 (ad2.add (Int.toNat (IntKind.wrap .i64 (2 * s38)) * 32)) (32 * 1) fun x4 =>
  opnRow w1 (ad3.add (Int.toNat (IntKind.wrap .i64 ((IntKind.wrap .i64 (2 * s38)) + 1)) * 32)) (32 * 1) fun x5 =>
  C_tlog_NodeHash #[.int .i64 s0, .agg x4, .agg x5] w1 fun v6 w7 =>
  opnG (some v6) fun x8 =>
  (0 : Int) ≤ s38 ∧
  s38 < ((s9n : Nat) : Int) ∧
  opnA s9 fun ad9 =>
  stRow (ad9.add (Int.toNat s38 * 32)) x8 (32 * 1) w7 fun w10 =>
  N_tile_joined.j9 Q s0 s8 s9 s9n s9c s37 (IntKind.wrap .i64 (s38 + 1)) w10)
  (2 ≠ (0 : Int) ∧
  (0 : Int) ≤ (IntKind.wrap .i64 (Int.tdiv ((s9n : Nat) : Int) 2)) ∧
  (IntKind.wrap .i64 (Int.tdiv ((s9n : Nat) : Int) 2)) ≤ ((s9c : Nat) : Int) ∧
  N_tile_joined.j7 Q s0 s8 (slA s9 0 s9c 32) ((Int.toNat (IntKind.wrap .i64 (Int.tdiv ((s9n : Nat) : Int) 2))) - 0) (s9c - 0) w)) :
N_tile_joined.j9 Q s0 s8 s9 s9n s9c s37 s38 w := Nd_fold K_tile_joined (by kernel_rfl) h
theorem C_tile_joined_eq (Q : Value → World → Prop) (a0 : Int) (a1 : Option Addr) (a1n : Nat) (a1c : Nat) (a2 : Int) (a3 : Int) (w : World) (h :
  alZ PP 29 w fun p1 w2 =>
  nn a3 (
  sem PP (Instr.makeSlice 22 (.int .i64 (shlI .i64 1 a3)) (.int .i64 (shlI .i64 1 a3))) w2 fun v3 w4 =>
  opnL (some v3) fun x5 x5n x5c =>
  N_tile_joined.j3 Q a0 a1 a1n a1c a2 p1 x5 x5n x5c ((x5n : Nat) : Int) 0 w4)) :
C_tile_joined #[.int .i64 a0, .slice a1 a1n a1c, .int .i64 a2, .int .i64 a3] w Q := C_fold K_tile_joined (by kernel_rfl) h
/-! ### ledger/ledgerref10.where -/
noncomputable def B_r10_where : Code := match Tryd.f44.body with | some c => c | _ => .skip
noncomputable def X_r10_where : Cx := { P := PP, fn := 44, N := 62, tab := tab, results := [.tmp 4, .tmp 5, .tmp 6], iter := fun _ => (.none, .none), dyn := fun _ => false, live := fun r => cond (Nat.beq r 3) (some []) (none) }
theorem K_r10_where : OkF X_r10_where B_r10_where Tryd.f44 := ⟨⟨tab_ok, mix_ok⟩, Tryd.func44, by kernel_rfl, by kernel_rfl, by kernel_rfl, by kernel_rfl⟩
noncomputable def N_r10_where.j3 (Q : Value → World → Prop) (w : World) : Prop := Nd X_r10_where Q [] [.code (B_r10_where.r.r.l.r.l.l), .code (B_r10_where.r.r.l.r.l.r), .code (B_r10_where.r.r.r)] w
theorem N_r10_where.j3_eq (Q : Value → World → Prop) (w : World) (h :
  Q (.tuple #[.int .i64 0, .int .i64 0, .bool false]) w) :
N_r10_where.j3 Q w := Nd_fold K_r10_where (by kernel_rfl) h
theorem C_r10_where_eq (Q : Value → World → Prop) (a0_0 : Int) (a0_1 : Int) (a0_2 : Int) (a0_3 : Int) (a0_4 : Bool) (a1 : Int) (w : World) (h :
  alC #[.int .i64 a0_0, .int .i64 a0_1, .int .i64 a0_2, .int .i64 a0_3, .bool a0_4] 37 w fun p1 w2 =>
  opnI .i64 (w2.cell? (p1.add 0)) fun x3 =>
  C_r10_Of #[.int .i64 x3, .int .i64 a1] w2 fun v4 w5 =>
  opnT (some v4) fun x6 =>
  x6.size = 2 ∧
  opnG (x6[0]?) fun x7 =>
  x7.size = 5 ∧
  opnI .i64 (x7[0]?) fun x8 =>
  opnI .i64 (x7[1]?) fun x9 =>
  opnI .i64 (x7[2]?) fun x10 =>
  opnI .i64 (x7[3]?) fun x11 =>
  opnB (x7[4]?) fun x12 =>
  opnI .i64 (x6[1]?) fun x13 =>
  alC #[.int .i64 0, .int .i64 0, .int .i64 0, .int .i64 0, .bool false] 37 w5 fun p14 w15 =>
  Array.size (#[.int .i64 x8, .int .i64 x9, .int .i64 x10, .int .i64 x11, .bool x12] : Array Value) = 5 ∧
  stC (p14.add 0) (.int .i64 x8) w15 fun w16 =>
  stC (p14.add 1) (.int .i64 x9) w16 fun w17 =>
  stC (p14.add 2) (.int .i64 x10) w17 fun w18 =>
  stC (p14.add 3) (.int .i64 x11) w18 fun w19 =>
  stC (p14.add 4) (.bool x12) w19 fun w20 =>
  cond (x13 != 0)
  (N_r10_where.j3 Q w20)
  (opnI .i64 (w20.cell? (p14.add 1)) fun x21 =>
  opnI .i64 (w20.cell? (p1.add 1)) fun x22 =>
  cond (x21 != x22)
  (N_r10_where.j3 Q w20)
  (opnI .i64 (w20.cell? (p14.add 2)) fun x23 =>
  opnI .i64 (w20.cell? (p1.add 2)) fun x24 =>
  cond (x23 != x24)
  (N_r10_where.j3 Q w20)
  (opnI .i64 (w20.cell? (p14.add 3)) fun x25 =>
  opnI .i64 (w20.cell? (p1.add 3)) fun x26 =>
  cond (decide (x25 > x26))
  (N_r10_where.j3 Q w20)
  (C_r08_SplitIndex #[.int .i64 a1] w20 fun v27 w28 =>
  opnT (some v27) fun x29 =>
  x29.size = 3 ∧
  opnI .i64 (x29[0]?) fun x30 =>
  opnI .i64 (x29[1]?) fun x31 =>
  opnI .i64 (x29[2]?) fun x32 =>
  opnI .i64 (w28.cell? (p1.add 0)) fun x33 =>
  x33 ≠ (0 : Int) ∧
  drw w28 fun w34 =>
  opnI .i64 (w34.cell? (p1.add 0)) fun x35 =>
  C_r10_power #[.int .i64 (Int.tmod x30 x33)] w34 fun v36 w37 =>
  opnI .i64 (some v36) fun x38 =>
  (opnI .i64 (w37.cell? (p1.add 0)) fun x39 =>
  ((.int .i64 x39) : Value) = .int .i64 x35) ∧
  C_r10_power #[.int .i64 x35] w37 fun v40 w41 =>
  opnI .i64 (some v40) fun x42 =>
  x42 ≠ (0 : Int) ∧
  Q (.tuple #[.int .i64 (Int.tmod (IntKind.wrap .i64 (x31 * x38)) x42), .int .i64 (Int.tmod x30 x33), .bool true]) w41))))) :
C_r10_where #[.agg #[.int .i64 a0_0, .int .i64 a0_1, .int .i64 a0_2, .int .i64 a0_3, .bool a0_4], .int .i64 a1] w Q := C_fold K_r10_where (by kernel_rfl) h
/-! ### ledger/ledgerref10.joined -/
noncomputable def B_r10_joined : Code := match Tryd.f45.body with | some c => c | _ => .skip
noncomputable def X_r10_joined : Cx := { P := PP, fn := 45, N := 38, tab := tab, results := [.cell 8 28], iter := fun _ => (.none, .none), dyn := fun _ => false, live := fun _ => none }
theorem K_r10_joined : OkF X_r10_joined B_r10_joined Tryd.f45 := ⟨⟨tab_ok, mix_ok⟩, Tryd.func45, by kernel_rfl, by kernel_rfl, by kernel_rfl, by kernel_rfl⟩
theorem C_r10_joined_eq (Q : Value → World → Prop) (a0 : Int) (a1 : Option Addr) (a1n : Nat) (a1c : Nat) (a2 : Int) (a3 : Int) (w : World) (h :
  alZ PP 28 w fun p1 w2 =>
  cond (a3 == 0)
  (C_r10_hashAt #[.slice a1 a1n a1c, .int .i64 a2] w2 fun v3 w4 =>
  opnG (some v3) fun x5 =>
  stRow p1 x5 (32 * 1) w4 fun w6 =>
  opnRow w6 p1 (32 * 1) fun x7 =>
  Q (.agg x7) w6)
  (C_r10_power #[.int .i64 (IntKind.wrap .i64 (a3 - 1))] w2 fun v8 w9 =>
  opnI .i64 (some v8) fun x10 =>
  C_r10_joined #[.int .i64 a0, .slice a1 a1n a1c, .int .i64 a2, .int .i64 (IntKind.wrap .i64 (a3 - 1))] w9 fun v11 w12 =>
  opnG (some v11) fun x13 =>
  alZ PP 28 w12 fun p14 w15 =>
  stRow p14 x13 (32 * 1) w15 fun w16 =>
  C_r10_joined #[.int .i64 a0, .slice a1 a1n a1c, .int .i64 (IntKind.wrap .i64 (a2 + x10)), .int .i64 (IntKind.wrap .i64 (a3 - 1))] w16 fun v17 w18 =>
  opnG (some v17) fun x19 =>
  alZ PP 28 w18 fun p20 w21 =>
  stRow p20 x19 (32 * 1) w21 fun w22 =>
  opnRow w22 p14 (32 * 1) fun x23 =>
  opnRow w22 p20 (32 * 1) fun x24 =>
  C_r08_Node #[.int .i64 a0, .agg x23, .agg x24] w22 fun v25 w26 =>
  opnG (some v25) fun x27 =>
  stRow p1 x27 (32 * 1) w26 fun w28 =>
  opnRow w28 p1 (32 * 1) fun x29 =>
  Q (.agg x29) w28)) :
C_r10_joined #[.int .i64 a0, .slice a1 a1n a1c, .int .i64 a2, .int .i64 a3] w Q := C_fold K_r10_joined (by kernel_rfl) h
/-! ### ledger/tlog.count -/
noncomputable def B_tlog_count : Code := match Tryd.f67.body with | some c => c | _ => .skip
noncomputable def X_tlog_count : Cx := { P := PP, fn := 67, N := 9, tab := tab, results := [.tmp 2], iter := fun _ => (.none, .none), dyn := fun _ => false, live := fun _ => none }
theorem K_tlog_count : OkF X_tlog_count B_tlog_count Tryd.f67 := ⟨⟨tab_ok, mix_ok⟩, Tryd.func67, by kernel_rfl, by kernel_rfl, by kernel_rfl, by kernel_rfl⟩
theorem C_tlog_count_eq (Q : Value → World → Prop) (a0 : Int) (w : World) (h :
  C_math_bits_OnesCount64 #[.int .u64 (IntKind.wrap .u64 a0)] w fun v1 w2 =>
  opnI .i64 (some v1) fun x3 =>
  Q (.int .i64 (IntKind.wrap .i64 ((IntKind.wrap .i64 (2 * a0)) - x3))) w2) :
C_tlog_count #[.int .i64 a0] w Q := C_fold K_tlog_count (by kernel_rfl) h
/-! ### ledger/tlog.filled -/
noncomputable def B_tlog_filled : Code := match Tryd.f68.body with | some c => c | _ => .skip
noncomputable def X_tlog_filled : Cx := { P := PP, fn := 68, N := 18, tab := tab, results := [.tmp 2], iter := fun _ => (.none, .none), dyn := fun _ => false, live := fun r => cond (Nat.beq r 2) (some [0, 3]) (cond (Nat.beq r 4) (some [3]) (none)) }
theorem K_tlog_filled : OkF X_tlog_filled B_tlog_filled Tryd.f68 := ⟨⟨tab_ok, mix_ok⟩, Tryd.func68, by kernel_rfl, by kernel_rfl, by kernel_rfl, by kernel_rfl⟩
noncomputable def N_tlog_filled.j2 (Q : Value → World → Prop) (s0 : Int) (s3 : Int) (w : World) : Prop := Nd X_tlog_filled Q [(0, 0, .int .i64 s0), (3, 3, .int .i64 s3)] [.code (B_tlog_filled.r.r.l.l.l.l.l), .code (B_tlog_filled.r.r.l.l.l.l.r), .code (B_tlog_filled.r.r.l.l.l.r), .inLoop (B_tlog_filled.r.r.l.l.l), .inBlock 0, .code (B_tlog_filled.r.r.r)] w
noncomputable def N_tlog_filled.j4 (Q : Value → World → Prop) (s3 : Int) (w : World) : Prop := Nd X_tlog_filled Q [(3, 3, .int .i64 s3)] [.code (B_tlog_filled.r.r.r.l), .code (B_tlog_filled.r.r.r.r)] w
theorem N_tlog_filled.j2_eq (Q : Value → World → Prop) (s0 : Int) (s3 : Int) (w : World) (h :
  cond (decide (s3 < 281474976710656))
  (C_tlog_count #[.int .i64 (IntKind.wrap .i64 (s3 + 1))] w fun v1 w2 =>
  opnI .i64 (some v1) fun x3 =>
  cond (decide (x3 ≤ s0))
  (N_tlog_filled.j2 Q s0 (IntKind.wrap .i64 (s3 + 1)) w2)
  (N_tlog_filled.j4 Q s3 w2))
  (N_tlog_filled.j4 Q s3 w)) :
N_tlog_filled.j2 Q s0 s3 w := Nd_fold K_tlog_filled (by kernel_rfl) h
theorem N_tlog_filled.j4_eq (Q : Value → World → Prop) (s3 : Int) (w : World) (h :
  Q (.int .i64 s3) w) :
N_tlog_filled.j4 Q s3 w := Nd_fold K_tlog_filled (by kernel_rfl) h
theorem C_tlog_filled_eq (Q : Value → World → Prop) (a0 : Int) (w : World) (h :
  2 ≠ (0 : Int) ∧
  N_tlog_filled.j2 Q a0 (IntKind.wrap .i64 (Int.tdiv a0 2)) w) :
C_tlog_filled #[.int .i64 a0] w Q := C_fold K_tlog_filled (by kernel_rfl) h
/-! ### ledger/tlog.place -/
noncomputable def B_tlog_place : Code := match Tryd.f69.body with | some c => c | _ => .skip
noncomputable def X_tlog_place : Cx := { P := PP, fn := 69, N := 13, tab := tab, results := [.tmp 4], iter := fun _ => (.none, .none), dyn := fun _ => false, live := fun _ => none }
theorem K_tlog_place : OkF X_tlog_place B_tlog_place Tryd.f69 := ⟨⟨tab_ok, mix_ok⟩, Tryd.func69, by kernel_rfl, by kernel_rfl, by kernel_rfl, by kernel_rfl⟩
theorem C_tlog_place_eq (Q : Value → World → Prop) (a0 : Int) (a1 : Int) (w : World) (h :
  nn a0 (
  C_tlog_count #[.int .i64 (IntKind.wrap .i64 ((shlI .i64 (IntKind.wrap .i64 (a1 + 1)) a0) - 1))] w fun v1 w2 =>
  opnI .i64 (some v1) fun x3 =>
  Q (.int .i64 (IntKind.wrap .i64 (x3 + a0))) w2)) :
C_tlog_place #[.int .i64 a0, .int .i64 a1] w Q := C_fold K_tlog_place (by kernel_rfl) h
/-! ### ledger/ledgerref08.record -/
noncomputable def B_r08_record : Code := match Tryd.f70.body with | some c => c | _ => .skip
noncomputable def X_r08_record : Cx := { P := PP, fn := 70, N := 22, tab := tab, results := [.tmp 2], iter := fun _ => (.none, .none), dyn := fun _ => false, live := fun r => cond (Nat.beq r 3) (some [0, 3, 4]) (none) }
theorem K_r08_record : OkF X_r08_record B_r08_record Tryd.f70 := ⟨⟨tab_ok, mix_ok⟩, Tryd.func70, by kernel_rfl, by kernel_rfl, by kernel_rfl, by kernel_rfl⟩
noncomputable def N_r08_record.j3 (Q : Value → World → Prop) (s0 : Int) (s3 : Int) (s4 : Int) (w : World) : Prop := Nd X_r08_record Q [(0, 0, .int .i64 s0), (3, 3, .int .i64 s3), (4, 4, .int .i64 s4)] [.code (B_r08_record.r.r.r.l.l.l.l.l), .code (B_r08_record.r.r.r.l.l.l.l.r), .code (B_r08_record.r.r.r.l.l.l.r), .inLoop (B_r08_record.r.r.r.l.l.l), .inBlock 0, .code (B_r08_record.r.r.r.r)] w
theorem N_r08_record.j3_eq (Q : Value → World → Prop) (s0 : Int) (s3 : Int) (s4 : Int) (w : World) (h :
  cond (decide (s3 < s4))
  (2 ≠ (0 : Int) ∧
  C_r08_laid #[.int .i64 (IntKind.wrap .i64 (Int.tdiv (IntKind.wrap .i64 ((IntKind.wrap .i64 (s3 + s4)) + 1)) 2))] w fun v1 w2 =>
  opnI .i64 (some v1) fun x3 =>
  cond (decide (x3 ≤ s0))
  (N_r08_record.j3 Q s0 (IntKind.wrap .i64 (Int.tdiv (IntKind.wrap .i64 ((IntKind.wrap .i64 (s3 + s4)) + 1)) 2)) s4 w2)
  (N_r08_record.j3 Q s0 s3 (IntKind.wrap .i64 ((IntKind.wrap .i64 (Int.tdiv (IntKind.wrap .i64 ((IntKind.wrap .i64 (s3 + s4)) + 1)) 2)) - 1)) w2))
  (Q (.int .i64 s3) w)) :
N_r08_record.j3 Q s0 s3 s4 w := Nd_fold K_r08_record (by kernel_rfl) h
theorem C_r08_record_eq (Q : Value → World → Prop) (a0 : Int) (w : World) (h :
  N_r08_record.j3 Q a0 0 281474976710656 w) :
C_r08_record #[.int .i64 a0] w Q := C_fold K_r08_record (by kernel_rfl) h
/-! ### ledger/ledgerref08.laid -/
noncomputable def B_r08_laid : Code := match Tryd.f71.body with | some c => c | _ => .skip
noncomputable def X_r08_laid : Cx := { P := PP, fn := 71, N := 12, tab := tab, results := [.tmp 2], iter := fun _ => (.none, .none), dyn := fun _ => false, live := fun r => cond (Nat.beq r 2) (some [0, 3]) (none) }
theorem K_r08_laid : OkF X_r08_laid B_r08_laid Tryd.f71 := ⟨⟨tab_ok, mix_ok⟩, Tryd.func71, by kernel_rfl, by kernel_rfl, by kernel_rfl, by kernel_rfl⟩
noncomputable def N_r08_laid.j2 (Q : Value → World → Prop) (s0 : Int) (s3 : Int) (w : World) : Prop := Nd X_r08_laid Q [(0, 0, .int .i64 s0), (3, 3, .int .i64 s3)] [.code (B_r08_laid.r.r.l.l.l.l.l), .code (B_r08_laid.r.r.l.l.l.l.r), .code (B_r08_laid.r.r.l.l.l.r), .inLoop (B_r08_laid.r.r.l.l.l), .inBlock 0, .code (B_r08_laid.r.r.r)] w
theorem N_r08_laid.j2_eq (Q : Value → World → Prop) (s0 : Int) (s3 : Int) (w : World) (h :
  cond (decide (s0 > 0))
  (2 ≠ (0 : Int) ∧
  N_r08_laid.j2 Q (IntKind.wrap .i64 (Int.tdiv s0 2)) (IntKind.wrap .i64 (s3 + s0)) w)
  (Q (.int .i64 s3) w)) :
N_r08_laid.j2 Q s0 s3 w := Nd_fold K_r08_laid (by kernel_rfl) h
theorem C_r08_laid_eq (Q : Value → World → Prop) (a0 : Int) (w : World) (h :
  N_r08_laid.j2 Q a0 0 w) :
C_r08_laid #[.int .i64 a0] w Q := C_fold K_r08_laid (by kernel_rfl) h
/-! ### ledger/ledgerref10.nodes -/
noncomputable def B_r10_nodes : Code := match Tryd.f72.body with | some c => c | _ => .skip
noncomputable def X_r10_nodes : Cx := { P := PP, fn := 72, N := 21, tab := tab, results := [.tmp 6], iter := fun _ => (.none, .none), dyn := fun _ => false, live := fun r => cond (Nat.beq r 2) (some []) (none) }
theorem K_r10_nodes : OkF X_r10_nodes B_r10_nodes Tryd.f72 := ⟨⟨tab_ok, mix_ok⟩, Tryd.func72, by kernel_rfl, by kernel_rfl, by kernel_rfl, by kernel_rfl⟩
noncomputable def N_r10_nodes.j2 (Q : Value → World → Prop) (w : World) : Prop := Nd X_r10_nodes Q [] [.code (B_r10_nodes.r.l.r.l.l), .code (B_r10_nodes.r.l.r.l.r), .code (B_r10_nodes.r.r)] w
theorem N_r10_nodes.j2_eq (Q : Value → World → Prop) (w : World) (h :
  Q (.int .i64 0) w) :
N_r10_nodes.j2 Q w := Nd_fold K_r10_nodes (by kernel_rfl) h
theorem C_r10_nodes_eq (Q : Value → World → Prop) (a0 : Int) (a1 : Int) (a2 : Int) (w : World) (h :
  cond (decide (a1 > 48))
  (N_r10_nodes.j2 Q w)
  (cond (decide ((IntKind.wrap .i64 (a0 * a1)) > 48))
  (N_r10_nodes.j2 Q w)
  (C_r10_power #[.int .i64 (IntKind.wrap .i64 (a0 * a1))] w fun v1 w2 =>
  opnI .i64 (some v1) fun x3 =>
  x3 ≠ (0 : Int) ∧
  Q (.int .i64 (IntKind.wrap .i64 (Int.tdiv a2 x3))) w2))) :
C_r10_nodes #[.int .i64 a0, .int .i64 a1, .int .i64 a2] w Q := C_fold K_r10_nodes (by kernel_rfl) h
/-! ### ledger/ledgerref08.power -/
noncomputable def B_r08_power : Code := match Tryd.f73.body with | some c => c | _ => .skip
noncomputable def X_r08_power : Cx := { P := PP, fn := 73, N := 13, tab := tab, results := [.tmp 2], iter := fun _ => (.none, .none), dyn := fun _ => false, live := fun r => cond (Nat.beq r 3) (some [0, 3, 4]) (none) }
theorem K_r08_power : OkF X_r08_power B_r08_power Tryd.f73 := ⟨⟨tab_ok, mix_ok⟩, Tryd.func73, by kernel_rfl, by kernel_rfl, by kernel_rfl, by kernel_rfl⟩
noncomputable def N_r08_power.j3 (Q : Value → World → Prop) (s0 : Int) (s3 : Int) (s4 : Int) (w : World) : Prop := Nd X_r08_power Q [(0, 0, .int .i64 s0), (3, 3, .int .i64 s3), (4, 4, .int .i64 s4)] [.code (B_r08_power.r.r.l.r.l.l.l.l), .code (B_r08_power.r.r.l.r.l.l.l.r), .code (B_r08_power.r.r.l.r.l.l.r), .inLoop (B_r08_power.r.r.l.r.l.l), .inBlock 0, .code (B_r08_power.r.r.r)] w
theorem N_r08_power.j3_eq (Q : Value → World → Prop) (s0 : Int) (s3 : Int) (s4 : Int) (w : World) (h :
  cond (decide (s4 < s0))
  (N_r08_power.j3 Q s0 (IntKind.wrap .i64 (2 * s3)) (IntKind.wrap .i64 (s4 + 1)) w)
  (Q (.int .i64 s3) w)) :
N_r08_power.j3 Q s0 s3 s4 w := Nd_fold K_r08_power (by kernel_rfl) h
theorem C_r08_power_eq (Q : Value → World → Prop) (a0 : Int) (w : World) (h :
  N_r08_power.j3 Q a0 1 0 w) :
C_r08_power #[.int .i64 a0] w Q := C_fold K_r08_power (by kernel_rfl) h
/-! ### ledger/tlog.SplitIndex -/
noncomputable def B_tlog_SplitIndex : Code := match Tryd.f74.body with | some c => c | _ => .skip
noncomputable def X_tlog_SplitIndex : Cx := { P := PP, fn := 74, N := 26, tab := tab, results := [.tmp 2, .tmp 3, .tmp 4], iter := fun _ => (.none, .none), dyn := fun _ => false, live := fun r => cond (Nat.beq r 2) (some []) (none) }
theorem K_tlog_SplitIndex : OkF X_tlog_SplitIndex B_tlog_SplitIndex Tryd.f74 := ⟨⟨tab_ok, mix_ok⟩, Tryd.func74, by kernel_rfl, by kernel_rfl, by kernel_rfl, by kernel_rfl⟩
noncomputable def N_tlog_SplitIndex.j2 (Q : Value → World → Prop) (w : World) : Prop := Nd X_tlog_SplitIndex Q [] [.code (B_tlog_SplitIndex.r.l.r.l.l), .code (B_tlog_SplitIndex.r.l.r.l.r), .code (B_tlog_SplitIndex.r.r)] w
theorem N_tlog_SplitIndex.j2_eq (Q : Value → World → Prop) (w : World) (h :
  Q (.tuple #[.int .i64 0, .int .i64 0, .int .i64 1]) w) :
N_tlog_SplitIndex.j2 Q w := Nd_fold K_tlog_SplitIndex (by kernel_rfl) h
theorem C_tlog_SplitIndex_eq (Q : Value → World → Prop) (a0 : Int) (w : World) (h :
  cond (decide (a0 < 0))
  (N_tlog_SplitIndex.j2 Q w)
  (C_tlog_count #[.int .i64 281474976710656] w fun v1 w2 =>
  opnI .i64 (some v1) fun x3 =>
  cond (decide (a0 ≥ x3))
  (N_tlog_SplitIndex.j2 Q w2)
  (C_tlog_filled #[.int .i64 a0] w2 fun v4 w5 =>
  opnI .i64 (some v4) fun x6 =>
  C_tlog_count #[.int .i64 x6] w5 fun v7 w8 =>
  opnI .i64 (some v7) fun x9 =>
  drw w8 fun w10 =>
  nn (IntKind.wrap .i64 (a0 - x9)) (
  Q (.tuple #[.int .i64 (IntKind.wrap .i64 (a0 - x9)), .int .i64 (IntKind.wrap .i64 ((shrI .i64 (IntKind.wrap .i64 (x6 + 1)) (IntKind.wrap .i64 (a0 - x9))) - 1)), .int .i64 0]) w10)))) :
C_tlog_SplitIndex #[.int .i64 a0] w Q := C_fold K_tlog_SplitIndex (by kernel_rfl) h
/-! ### ledger/tlog.NodeHash -/
noncomputable def B_tlog_NodeHash : Code := match Tryd.f75.body with | some c => c | _ => .skip
noncomputable def X_tlog_NodeHash : Cx := { P := PP, fn := 75, N := 13, tab := tab, results := [.cell 6 29], iter := fun _ => (.none, .none), dyn := fun r => cond (Nat.beq r 9) true (false), live := fun _ => none }
theorem K_tlog_NodeHash : OkF X_tlog_NodeHash B_tlog_NodeHash Tryd.f75 := ⟨⟨tab_ok, mix_ok⟩, Tryd.func75, by kernel_rfl, by kernel_rfl, by kernel_rfl, by kernel_rfl⟩
theorem C_tlog_NodeHash_eq (Q : Value → World → Prop) (a0 : Int) (a1 : Array Value) (a2 : Array Value) (w : World) (h :
  alC a1 29 w fun p1 w2 =>
  alC a2 29 w2 fun p3 w4 =>
  alZ PP 29 w4 fun p5 w6 =>
  drw w6 fun w7 =>
  opnRow w7 p1 (32 * 1) fun x8 =>
  opnRow w7 p3 (32 * 1) fun x9 =>
  C_tlog_hasherOf #[.int .i64 a0] w7 fun v10 w11 =>
  opnG (some v10) fun x12 =>
  x12.size = 4 ∧
  opnI .i64 (x12[0]?) fun x13 =>
  opnV (x12[1]?) fun x14 =>
  opnV (x12[2]?) fun x15 =>
  opnV (x12[3]?) fun x16 =>
  (opnRow w11 p3 (32 * 1) fun x17 =>
  ((.agg x17) : Value) = .agg x9) ∧
  (opnRow w11 p1 (32 * 1) fun x18 =>
  ((.agg x18) : Value) = .agg x8) ∧
  invk PP x16 #[.agg x8, .agg x9] w11 fun v19 w20 =>
  opnG (some v19) fun x21 =>
  stRow p5 x21 (32 * 1) w20 fun w22 =>
  opnRow w22 p5 (32 * 1) fun x23 =>
  Q (.agg x23) w22) :
C_tlog_NodeHash #[.int .i64 a0, .agg a1, .agg a2] w Q := C_fold K_tlog_NodeHash (by kernel_rfl) h
end Go.Proofs.YtccjncflbbhldaaDoor
/-! ## ShGb1 -/
set_option maxRecDepth 100000
namespace Go.Proofs.YtccjncflbbhldaaDoor
open Go.Sh
/-! ### ledger/ledgerref10.Of -/
noncomputable def B_r10_Of : Code := match Tryd.f76.body with | some c => c | _ => .skip
noncomputable def X_r10_Of : Cx := { P := PP, fn := 76, N := 52, tab := tab, results := [.cell 4 37, .tmp 5], iter := fun _ => (.none, .none), dyn := fun _ => false, live := fun r => cond (Nat.beq r 2) (some [4]) (cond (Nat.beq r 9) (some [0, 4, 9, 10, 11]) (cond (Nat.beq r 10) (some [4, 11]) (none))) }
theorem K_r10_Of : OkF X_r10_Of B_r10_Of Tryd.f76 := ⟨⟨tab_ok, mix_ok⟩, Tryd.func76, by kernel_rfl, by kernel_rfl, by kernel_rfl, by kernel_rfl⟩
noncomputable def N_r10_Of.j2 (Q : Value → World → Prop) (s4 : Addr) (w : World) : Prop := Nd X_r10_Of Q [(4, 4, .pointer (some s4))] [.code (B_r10_Of.r.l.r.l.l), .code (B_r10_Of.r.l.r.l.r), .code (B_r10_Of.r.r)] w
noncomputable def N_r10_Of.j9 (Q : Value → World → Prop) (s0 : Int) (s4 : Addr) (s9 : Int) (s10 : Int) (s11 : Addr) (w : World) : Prop := Nd X_r10_Of Q [(0, 0, .int .i64 s0), (4, 4, .pointer (some s4)), (9, 9, .int .i64 s9), (10, 10, .int .i64 s10), (11, 11, .pointer (some s11))] [.code (B_r10_Of.r.r.r.r.r.r.r.l), .code (B_r10_Of.r.r.r.r.r.r.r.r)] w
noncomputable def N_r10_Of.j10 (Q : Value → World → Prop) (s4 : Addr) (s11 : Addr) (w : World) : Prop := Nd X_r10_Of Q [(4, 4, .pointer (some s4)), (11, 11, .pointer (some s11))] [.code (B_r10_Of.r.r.r.r.r.r.r.r.l), .code (B_r10_Of.r.r.r.r.r.r.r.r.r)] w
theorem N_r10_Of.j2_eq (Q : Value → World → Prop) (s4 : Addr) (w : World) (h :
  Array.size (#[.int .i64 0, .int .i64 0, .int .i64 0, .int .i64 0, .bool false] : Array Value) = 5 ∧
  stC (s4.add 0) (.int .i64 0) w fun w1 =>
  stC (s4.add 1) (.int .i64 0) w1 fun w2 =>
  stC (s4.add 2) (.int .i64 0) w2 fun w3 =>
  stC (s4.add 3) (.int .i64 0) w3 fun w4 =>
  stC (s4.add 4) (.bool false) w4 fun w5 =>
  opnI .i64 (w5.cell? (s4.add 0)) fun x6 =>
  opnI .i64 (w5.cell? (s4.add 1)) fun x7 =>
  opnI .i64 (w5.cell? (s4.add 2)) fun x8 =>
  opnI .i64 (w5.cell? (s4.add 3)) fun x9 =>
  opnB (w5.cell? (s4.add 4)) fun x10 =>
  Q (.tuple #[.agg #[.int .i64 x6, .int .i64 x7, .int .i64 x8, .int .i64 x9, .bool x10], .int .i64 1]) w5) :
N_r10_Of.j2 Q s4 w := Nd_fold K_r10_Of (by kernel_rfl) h
theorem N_r10_Of.j9_eq (Q : Value → World → Prop) (s0 : Int) (s4 : Addr) (s9 : Int) (s10 : Int) (s11 : Addr) (w : World) (h :
  C_r10_power #[.int .i64 s0] w fun v1 w2 =>
  opnI .i64 (some v1) fun x3 =>
  x3 ≠ (0 : Int) ∧
  stC (s11.add 3) (.int .i64 (IntKind.wrap .i64 ((Int.tmod s10 x3) + s9))) w2 fun w4 =>
  N_r10_Of.j10 Q s4 s11 w4) :
N_r10_Of.j9 Q s0 s4 s9 s10 s11 w := Nd_fold K_r10_Of (by kernel_rfl) h
theorem N_r10_Of.j10_eq (Q : Value → World → Prop) (s4 : Addr) (s11 : Addr) (w : World) (h :
  opnI .i64 (w.cell? (s11.add 0)) fun x1 =>
  opnI .i64 (w.cell? (s11.add 1)) fun x2 =>
  opnI .i64 (w.cell? (s11.add 2)) fun x3 =>
  opnI .i64 (w.cell? (s11.add 3)) fun x4 =>
  opnB (w.cell? (s11.add 4)) fun x5 =>
  Array.size (#[.int .i64 x1, .int .i64 x2, .int .i64 x3, .int .i64 x4, .bool x5] : Array Value) = 5 ∧
  stC (s4.add 0) (.int .i64 x1) w fun w6 =>
  stC (s4.add 1) (.int .i64 x2) w6 fun w7 =>
  stC (s4.add 2) (.int .i64 x3) w7 fun w8 =>
  stC (s4.add 3) (.int .i64 x4) w8 fun w9 =>
  stC (s4.add 4) (.bool x5) w9 fun w10 =>
  opnI .i64 (w10.cell? (s4.add 0)) fun x11 =>
  opnI .i64 (w10.cell? (s4.add 1)) fun x12 =>
  opnI .i64 (w10.cell? (s4.add 2)) fun x13 =>
  opnI .i64 (w10.cell? (s4.add 3)) fun x14 =>
  opnB (w10.cell? (s4.add 4)) fun x15 =>
  Q (.tuple #[.agg #[.int .i64 x11, .int .i64 x12, .int .i64 x13, .int .i64 x14, .bool x15], .int .i64 0]) w10) :
N_r10_Of.j10 Q s4 s11 w := Nd_fold K_r10_Of (by kernel_rfl) h
theorem C_r10_Of_eq (Q : Value → World → Prop) (a0 : Int) (a1 : Int) (w : World) (h :
  alC #[.int .i64 0, .int .i64 0, .int .i64 0, .int .i64 0, .bool false] 37 w fun p1 w2 =>
  cond (decide (a0 < 1))
  (N_r10_Of.j2 Q p1 w2)
  (cond (decide (a0 > 8))
  (N_r10_Of.j2 Q p1 w2)
  (C_r08_SplitIndex #[.int .i64 a1] w2 fun v3 w4 =>
  opnT (some v3) fun x5 =>
  x5.size = 3 ∧
  opnI .i64 (x5[0]?) fun x6 =>
  opnI .i64 (x5[1]?) fun x7 =>
  opnI .i64 (x5[2]?) fun x8 =>
  cond (x8 != 0)
  (Array.size (#[.int .i64 0, .int .i64 0, .int .i64 0, .int .i64 0, .bool false] : Array Value) = 5 ∧
  stC (p1.add 0) (.int .i64 0) w4 fun w9 =>
  stC (p1.add 1) (.int .i64 0) w9 fun w10 =>
  stC (p1.add 2) (.int .i64 0) w10 fun w11 =>
  stC (p1.add 3) (.int .i64 0) w11 fun w12 =>
  stC (p1.add 4) (.bool false) w12 fun w13 =>
  opnI .i64 (w13.cell? (p1.add 0)) fun x14 =>
  opnI .i64 (w13.cell? (p1.add 1)) fun x15 =>
  opnI .i64 (w13.cell? (p1.add 2)) fun x16 =>
  opnI .i64 (w13.cell? (p1.add 3)) fun x17 =>
  opnB (w13.cell? (p1.add 4)) fun x18 =>
  Q (.tuple #[.agg #[.int .i64 x14, .int .i64 x15, .int .i64 x16, .int .i64 x17, .bool x18], .int .i64 1]) w13)
  (a0 ≠ (0 : Int) ∧
  C_r10_power #[.int .i64 (Int.tmod x6 a0)] w4 fun v19 w20 =>
  opnI .i64 (some v19) fun x21 =>
  drw w20 fun w22 =>
  a0 ≠ (0 : Int) ∧
  (C_r10_power #[.int .i64 a0] w22 fun v23 w24 =>
  opnI .i64 (some v23) fun x25 =>
  x25 ≠ (0 : Int) ∧
  alC #[.int .i64 0, .int .i64 0, .int .i64 0, .int .i64 0, .bool false] 37 w24 fun p26 w27 =>
  Array.size (#[.int .i64 a0, .int .i64 (IntKind.wrap .i64 (Int.tdiv x6 a0)), .int .i64 (IntKind.wrap .i64 (Int.tdiv (IntKind.wrap .i64 (x7 * x21)) x25)), .int .i64 0, .bool false] : Array Value) = 5 ∧
  stC (p26.add 0) (.int .i64 a0) w27 fun w28 =>
  stC (p26.add 1) (.int .i64 (IntKind.wrap .i64 (Int.tdiv x6 a0))) w28 fun w29 =>
  stC (p26.add 2) (.int .i64 (IntKind.wrap .i64 (Int.tdiv (IntKind.wrap .i64 (x7 * x21)) x25))) w29 fun w30 =>
  stC (p26.add 3) (.int .i64 0) w30 fun w31 =>
  stC (p26.add 4) (.bool false) w31 fun w32 =>
  N_r10_Of.j9 Q a0 p1 x21 (IntKind.wrap .i64 (x7 * x21)) p26 w32) ∧
  (alC #[.int .i64 0, .int .i64 0, .int .i64 0, .int .i64 0, .bool false] 37 w22 fun p33 w34 =>
  C_r10_power #[.int .i64 a0] w34 fun v35 w36 =>
  opnI .i64 (some v35) fun x37 =>
  x37 ≠ (0 : Int) ∧
  Array.size (#[.int .i64 a0, .int .i64 (IntKind.wrap .i64 (Int.tdiv x6 a0)), .int .i64 (IntKind.wrap .i64 (Int.tdiv (IntKind.wrap .i64 (x7 * x21)) x37)), .int .i64 0, .bool false] : Array Value) = 5 ∧
  stC (p33.add 0) (.int .i64 a0) w36 fun w38 =>
  stC (p33.add 1) (.int .i64 (IntKind.wrap .i64 (Int.tdiv x6 a0))) w38 fun w39 =>
  stC (p33.add 2) (.int .i64 (IntKind.wrap .i64 (Int.tdiv (IntKind.wrap .i64 (x7 * x21)) x37))) w39 fun w40 =>
  stC (p33.add 3) (.int .i64 0) w40 fun w41 =>
  stC (p33.add 4) (.bool false) w41 fun w42 =>
  N_r10_Of.j9 Q a0 p1 x21 (IntKind.wrap .i64 (x7 * x21)) p33 w42))))) :
C_r10_Of #[.int .i64 a0, .int .i64 a1] w Q := C_fold K_r10_Of (by kernel_rfl) h
/-! ### ledger/ledgerref08.SplitIndex -/
noncomputable def B_r08_SplitIndex : Code := match Tryd.f77.body with | some c => c | _ => .skip
noncomputable def X_r08_SplitIndex : Cx := { P := PP, fn := 77, N := 26, tab := tab, results := [.tmp 2, .tmp 3, .tmp 4], iter := fun _ => (.none, .none), dyn := fun _ => false, live := fun r => cond (Nat.beq r 2) (some []) (none) }
theorem K_r08_SplitIndex : OkF X_r08_SplitIndex B_r08_SplitIndex Tryd.f77 := ⟨⟨tab_ok, mix_ok⟩, Tryd.func77, by kernel_rfl, by kernel_rfl, by kernel_rfl, by kernel_rfl⟩
noncomputable def N_r08_SplitIndex.j2 (Q : Value → World → Prop) (w : World) : Prop := Nd X_r08_SplitIndex Q [] [.code (B_r08_SplitIndex.r.l.r.l.l), .code (B_r08_SplitIndex.r.l.r.l.r), .code (B_r08_SplitIndex.r.r)] w
theorem N_r08_SplitIndex.j2_eq (Q : Value → World → Prop) (w : World) (h :
  Q (.tuple #[.int .i64 0, .int .i64 0, .int .i64 1]) w) :
N_r08_SplitIndex.j2 Q w := Nd_fold K_r08_SplitIndex (by kernel_rfl) h
theorem C_r08_SplitIndex_eq (Q : Value → World → Prop) (a0 : Int) (w : World) (h :
  cond (decide (a0 < 0))
  (N_r08_SplitIndex.j2 Q w)
  (cond (decide (a0 ≥ 562949953421311))
  (N_r08_SplitIndex.j2 Q w)
  (C_r08_record #[.int .i64 a0] w fun v1 w2 =>
  opnI .i64 (some v1) fun x3 =>
  C_r08_laid #[.int .i64 x3] w2 fun v4 w5 =>
  opnI .i64 (some v4) fun x6 =>
  drw w5 fun w7 =>
  C_r08_power #[.int .i64 (IntKind.wrap .i64 (a0 - x6))] w7 fun v8 w9 =>
  opnI .i64 (some v8) fun x10 =>
  x10 ≠ (0 : Int) ∧
  Q (.tuple #[.int .i64 (IntKind.wrap .i64 (a0 - x6)), .int .i64 (IntKind.wrap .i64 ((IntKind.wrap .i64 (Int.tdiv (IntKind.wrap .i64 (x3 + 1)) x10)) - 1)), .int .i64 0]) w9))) :
C_r08_SplitIndex #[.int .i64 a0] w Q := C_fold K_r08_SplitIndex (by kernel_rfl) h
/-! ### ledger/ledgerref10.hashAt -/
noncomputable def B_r10_hashAt : Code := match Tryd.f78.body with | some c => c | _ => .skip
noncomputable def X_r10_hashAt : Cx := { P := PP, fn := 78, N := 21, tab := tab, results := [.cell 4 28], iter := fun _ => (.none, .none), dyn := fun _ => false, live := fun r => cond (Nat.beq r 3) (some [0, 1, 4, 5, 6]) (none) }
theorem K_r10_hashAt : OkF X_r10_hashAt B_r10_hashAt Tryd.f78 := ⟨⟨tab_ok, mix_ok⟩, Tryd.func78, by kernel_rfl, by kernel_rfl, by kernel_rfl, by kernel_rfl⟩
noncomputable def N_r10_hashAt.j3 (Q : Value → World → Prop) (s0 : Option Addr) (s0n : Nat) (s0c : Nat) (s1 : Int) (s4 : Addr) (s5 : Addr) (s6 : Int) (w : World) : Prop := Nd X_r10_hashAt Q [(0, 0, .slice s0 s0n s0c), (1, 1, .int .i64 s1), (4, 4, .pointer (some s4)), (5, 5, .pointer (some s5)), (6, 6, .int .i64 s6)] [.code (B_r10_hashAt.r.r.l.r.l.l.l.l), .code (B_r10_hashAt.r.r.l.r.l.l.l.r), .code (B_r10_hashAt.r.r.l.r.l.l.r), .inLoop (B_r10_hashAt.r.r.l.r.l.l), .inBlock 0, .code (B_r10_hashAt.r.r.r)] w
theorem N_r10_hashAt.j3_eq (Q : Value → World → Prop) (s0 : Option Addr) (s0n : Nat) (s0c : Nat) (s1 : Int) (s4 : Addr) (s5 : Addr) (s6 : Int) (w : World) (h :
  cond (decide (s6 < 32))
  ((0 : Int) ≤ IntKind.wrap .i64 ((IntKind.wrap .i64 (32 * s1)) + s6) ∧
  (IntKind.wrap .i64 ((IntKind.wrap .i64 (32 * s1)) + s6)) < ((s0n : Nat) : Int) ∧
  opnA s0 fun ad1 =>
  opnI .u8 (w.cell? (ad1.add (Int.toNat (IntKind.wrap .i64 ((IntKind.wrap .i64 (32 * s1)) + s6)) * 1))) fun x2 =>
  (0 : Int) ≤ s6 ∧
  s6 < ((32 : Nat) : Int) ∧
  stC (s5.add (Int.toNat s6 * 1)) (.int .u8 x2) w fun w3 =>
  N_r10_hashAt.j3 Q s0 s0n s0c s1 s4 s5 (IntKind.wrap .i64 (s6 + 1)) w3)
  (opnRow w s5 (32 * 1) fun x4 =>
  stRow s4 x4 (32 * 1) w fun w5 =>
  opnRow w5 s4 (32 * 1) fun x6 =>
  Q (.agg x6) w5)) :
N_r10_hashAt.j3 Q s0 s0n s0c s1 s4 s5 s6 w := Nd_fold K_r10_hashAt (by kernel_rfl) h
theorem C_r10_hashAt_eq (Q : Value → World → Prop) (a0 : Option Addr) (a0n : Nat) (a0c : Nat) (a1 : Int) (w : World) (h :
  alZ PP 28 w fun p1 w2 =>
  alZ PP 28 w2 fun p3 w4 =>
  N_r10_hashAt.j3 Q a0 a0n a0c a1 p1 p3 0 w4) :
C_r10_hashAt #[.slice a0 a0n a0c, .int .i64 a1] w Q := C_fold K_r10_hashAt (by kernel_rfl) h
/-! ### ledger/ledgerref08.Node -/
noncomputable def B_r08_Node : Code := match Tryd.f79.body with | some c => c | _ => .skip
noncomputable def X_r08_Node : Cx := { P := PP, fn := 79, N := 37, tab := tab, results := [.cell 6 28], iter := fun _ => (.none, .none), dyn := fun _ => false, live := fun r => cond (Nat.beq r 3) (some [0, 4, 5, 6, 7, 8]) (cond (Nat.beq r 7) (some [0, 5, 6, 7, 9]) (none)) }
theorem K_r08_Node : OkF X_r08_Node B_r08_Node Tryd.f79 := ⟨⟨tab_ok, mix_ok⟩, Tryd.func79, by kernel_rfl, by kernel_rfl, by kernel_rfl, by kernel_rfl⟩
noncomputable def N_r08_Node.j3 (Q : Value → World → Prop) (s0 : Int) (s4 : Addr) (s5 : Addr) (s6 : Addr) (s7 : Option Addr) (s7n : Nat) (s7c : Nat) (s8 : Int) (w : World) : Prop := Nd X_r08_Node Q [(0, 0, .int .i64 s0), (4, 4, .pointer (some s4)), (5, 5, .pointer (some s5)), (6, 6, .pointer (some s6)), (7, 7, .slice s7 s7n s7c), (8, 8, .int .i64 s8)] [.code (B_r08_Node.r.r.l.r.l.l.l.l), .code (B_r08_Node.r.r.l.r.l.l.l.r), .code (B_r08_Node.r.r.l.r.l.l.r), .inLoop (B_r08_Node.r.r.l.r.l.l), .inBlock 0, .code (B_r08_Node.r.r.r)] w
noncomputable def N_r08_Node.j7 (Q : Value → World → Prop) (s0 : Int) (s5 : Addr) (s6 : Addr) (s7 : Option Addr) (s7n : Nat) (s7c : Nat) (s9 : Int) (w : World) : Prop := Nd X_r08_Node Q [(0, 0, .int .i64 s0), (5, 5, .pointer (some s5)), (6, 6, .pointer (some s6)), (7, 7, .slice s7 s7n s7c), (9, 9, .int .i64 s9)] [.code (B_r08_Node.r.r.r.l.r.l.l.l.l), .code (B_r08_Node.r.r.r.l.r.l.l.l.r), .code (B_r08_Node.r.r.r.l.r.l.l.r), .inLoop (B_r08_Node.r.r.r.l.r.l.l), .inBlock 2, .code (B_r08_Node.r.r.r.r)] w
theorem N_r08_Node.j3_eq (Q : Value → World → Prop) (s0 : Int) (s4 : Addr) (s5 : Addr) (s6 : Addr) (s7 : Option Addr) (s7n : Nat) (s7c : Nat) (s8 : Int) (w : World) (h :
  cond (decide (s8 < 32))
  ((0 : Int) ≤ s8 ∧
  s8 < ((32 : Nat) : Int) ∧
  opnI .u8 (w.cell? (s4.add (Int.toNat s8 * 1))) fun x1 =>
  alC #[.int .u8 x1] 5 w fun p2 w3 =>
  sem PP (Builtin.append_ #[25, 25] 25 #[.slice s7 s7n s7c, .slice (some p2) 1 1]) w3 fun v4 w5 =>
  opnL (some v4) fun x6 x6n x6c =>
  N_r08_Node.j3 Q s0 s4 s5 s6 x6 x6n x6c (IntKind.wrap .i64 (s8 + 1)) w5)
  (N_r08_Node.j7 Q s0 s5 s6 s7 s7n s7c 0 w)) :
N_r08_Node.j3 Q s0 s4 s5 s6 s7 s7n s7c s8 w := Nd_fold K_r08_Node (by kernel_rfl) h
theorem N_r08_Node.j7_eq (Q : Value → World → Prop) (s0 : Int) (s5 : Addr) (s6 : Addr) (s7 : Option Addr) (s7n : Nat) (s7c : Nat) (s9 : Int) (w : World) (h :
  cond (decide (s9 < 32))
  ((0 : Int) ≤ s9 ∧
  s9 < ((32 : Nat) : Int) ∧
  opnI .u8 (w.cell? (s5.add (Int.toNat s9 * 1))) fun x1 =>
  alC #[.int .u8 x1] 5 w fun p2 w3 =>
  sem PP (Builtin.append_ #[25, 25] 25 #[.slice s7 s7n s7c, .slice (some p2) 1 1]) w3 fun v4 w5 =>
  opnL (some v4) fun x6 x6n x6c =>
  N_r08_Node.j7 Q s0 s5 s6 x6 x6n x6c (IntKind.wrap .i64 (s9 + 1)) w5)
  (C_r01_Sum256 #[.slice s7 s7n s7c] w fun v7 w8 =>
  opnG (some v7) fun x9 =>
  alZ PP 28 w8 fun p10 w11 =>
  stRow p10 x9 (32 * 1) w11 fun w12 =>
  opnRow w12 p10 (32 * 1) fun x13 =>
  C_r08_weak #[.int .i64 s0, .agg x13] w12 fun v14 w15 =>
  opnG (some v14) fun x16 =>
  stRow s6 x16 (32 * 1) w15 fun w17 =>
  opnRow w17 s6 (32 * 1) fun x18 =>
  Q (.agg x18) w17)) :
N_r08_Node.j7 Q s0 s5 s6 s7 s7n s7c s9 w := Nd_fold K_r08_Node (by kernel_rfl) h
theorem C_r08_Node_eq (Q : Value → World → Prop) (a0 : Int) (a1 : Array Value) (a2 : Array Value) (w : World) (h :
  alC a1 28 w fun p1 w2 =>
  alC a2 28 w2 fun p3 w4 =>
  alZ PP 28 w4 fun p5 w6 =>
  alC #[.int .u8 1] 5 w6 fun p7 w8 =>
  N_r08_Node.j3 Q a0 p1 p3 p5 (some p7) 1 1 0 w8) :
C_r08_Node #[.int .i64 a0, .agg a1, .agg a2] w Q := C_fold K_r08_Node (by kernel_rfl) h
/-! ### ledger/tlog.hasherOf -/
noncomputable def B_tlog_hasherOf : Code := match Tryd.f80.body with | some c => c | _ => .skip
noncomputable def X_tlog_hasherOf : Cx := { P := PP, fn := 80, N := 20, tab := tab, results := [.cell 2 143], iter := fun _ => (.none, .none), dyn := fun _ => false, live := fun r => cond (Nat.beq r 2) (some [1, 2]) (cond (Nat.beq r 3) (some [1, 2]) (cond (Nat.beq r 4) (some [1, 2, 3]) (cond (Nat.beq r 5) (some [1, 2, 3, 4]) (cond (Nat.beq r 6) (some [1, 2, 3, 4, 5]) (none))))) }
theorem K_tlog_hasherOf : OkF X_tlog_hasherOf B_tlog_hasherOf Tryd.f80 := ⟨⟨tab_ok, mix_ok⟩, Tryd.func80, by kernel_rfl, by kernel_rfl, by kernel_rfl, by kernel_rfl⟩
noncomputable def N_tlog_hasherOf.j2 (Q : Value → World → Prop) (s1 : Addr) (s2 : Addr) (w : World) : Prop := Nd X_tlog_hasherOf Q [(1, 1, .pointer (some s1)), (2, 2, .pointer (some s2))] [.code (B_tlog_hasherOf.r.l.r.l), .code (B_tlog_hasherOf.r.r)] w
noncomputable def N_tlog_hasherOf.j3 (Q : Value → World → Prop) (s1 : Addr) (s2 : Addr) (w : World) : Prop := Nd X_tlog_hasherOf Q [(1, 1, .pointer (some s1)), (2, 2, .pointer (some s2))] [.code (B_tlog_hasherOf.r.r.l), .code (B_tlog_hasherOf.r.r.r)] w
noncomputable def N_tlog_hasherOf.j4 (Q : Value → World → Prop) (s1 : Addr) (s2 : Addr) (s3 : Addr) (w : World) : Prop := Nd X_tlog_hasherOf Q [(1, 1, .pointer (some s1)), (2, 2, .pointer (some s2)), (3, 3, .pointer (some s3))] [.code (B_tlog_hasherOf.r.r.r.l), .code (B_tlog_hasherOf.r.r.r.r)] w
noncomputable def N_tlog_hasherOf.j5 (Q : Value → World → Prop) (s1 : Addr) (s2 : Addr) (s3 : Addr) (s4c0 : Addr) (w : World) : Prop := Nd X_tlog_hasherOf Q [(1, 1, .pointer (some s1)), (2, 2, .pointer (some s2)), (3, 3, .pointer (some s3)), (4, 4, .func (.func 109) #[] #[.pointer (some s4c0)])] [.code (B_tlog_hasherOf.r.r.r.r.l), .code (B_tlog_hasherOf.r.r.r.r.r)] w
noncomputable def N_tlog_hasherOf.j6 (Q : Value → World → Prop) (s1 : Addr) (s2 : Addr) (s3 : Addr) (s4c0 : Addr) (s5c0 : Addr) (w : World) : Prop := Nd X_tlog_hasherOf Q [(1, 1, .pointer (some s1)), (2, 2, .pointer (some s2)), (3, 3, .pointer (some s3)), (4, 4, .func (.func 109) #[] #[.pointer (some s4c0)]), (5, 5, .func (.func 110) #[] #[.pointer (some s5c0)])] [.code (B_tlog_hasherOf.r.r.r.r.r.l), .code (B_tlog_hasherOf.r.r.r.r.r.r)] w
theorem N_tlog_hasherOf.j2_eq (Q : Value → World → Prop) (s1 : Addr) (s2 : Addr) (w : World) (h :
  stC s1 (.int .i64 32) w fun w1 =>
  N_tlog_hasherOf.j3 Q s1 s2 w1) :
N_tlog_hasherOf.j2 Q s1 s2 w := Nd_fold K_tlog_hasherOf (by kernel_rfl) h
theorem N_tlog_hasherOf.j3_eq (Q : Value → World → Prop) (s1 : Addr) (s2 : Addr) (w : World) (h :
  alZ PP 140 w fun p1 w2 =>
  stC p1 (.func (.func 107) #[] #[.pointer (some s1)]) w2 fun w3 =>
  N_tlog_hasherOf.j4 Q s1 s2 p1 w3) :
N_tlog_hasherOf.j3 Q s1 s2 w := Nd_fold K_tlog_hasherOf (by kernel_rfl) h
theorem N_tlog_hasherOf.j4_eq (Q : Value → World → Prop) (s1 : Addr) (s2 : Addr) (s3 : Addr) (w : World) (h :
  N_tlog_hasherOf.j5 Q s1 s2 s3 s3 w) :
N_tlog_hasherOf.j4 Q s1 s2 s3 w := Nd_fold K_tlog_hasherOf (by kernel_rfl) h
theorem N_tlog_hasherOf.j5_eq (Q : Value → World → Prop) (s1 : Addr) (s2 : Addr) (s3 : Addr) (s4c0 : Addr) (w : World) (h :
  N_tlog_hasherOf.j6 Q s1 s2 s3 s4c0 s3 w) :
N_tlog_hasherOf.j5 Q s1 s2 s3 s4c0 w := Nd_fold K_tlog_hasherOf (by kernel_rfl) h
theorem N_tlog_hasherOf.j6_eq (Q : Value → World → Prop) (s1 : Addr) (s2 : Addr) (s3 : Addr) (s4c0 : Addr) (s5c0 : Addr) (w : World) (h :
  opnI .i64 (w.cell? s1) fun x1 =>
  opnV (w.cell? s3) fun x2 =>
  semP PP (Instr.build 143 #[(0, .int .i64 x1), (1, x2), (2, .func (.func 109) #[] #[.pointer (some s4c0)]), (3, .func (.func 110) #[] #[.pointer (some s5c0)])]) fun v3 =>
  opnG (some v3) fun x5 =>
  x5.size = 4 ∧
  opnI .i64 (x5[0]?) fun x6 =>
  opnV (x5[1]?) fun x7 =>
  opnV (x5[2]?) fun x8 =>
  opnV (x5[3]?) fun x9 =>
  Array.size (#[.int .i64 x6, x7, x8, x9] : Array Value) = 4 ∧
  stC (s2.add 0) (.int .i64 x6) w fun w10 =>
  stC (s2.add 1) x7 w10 fun w11 =>
  stC (s2.add 2) x8 w11 fun w12 =>
  stC (s2.add 3) x9 w12 fun w13 =>
  opnI .i64 (w13.cell? (s2.add 0)) fun x14 =>
  opnV (w13.cell? (s2.add 1)) fun x15 =>
  opnV (w13.cell? (s2.add 2)) fun x16 =>
  opnV (w13.cell? (s2.add 3)) fun x17 =>
  Q (.agg #[.int .i64 x14, x15, x16, x17]) w13) :
N_tlog_hasherOf.j6 Q s1 s2 s3 s4c0 s5c0 w := Nd_fold K_tlog_hasherOf (by kernel_rfl) h
theorem C_tlog_hasherOf_eq (Q : Value → World → Prop) (a0 : Int) (w : World) (h :
  alC #[.int .i64 a0] 3 w fun p1 w2 =>
  alZ PP 143 w2 fun p3 w4 =>
  opnI .i64 (w4.cell? p1) fun x5 =>
  cond (decide (x5 < 1))
  (N_tlog_hasherOf.j2 Q p1 p3 w4)
  (opnI .i64 (w4.cell? p1) fun x6 =>
  cond (decide (x6 > 31))
  (N_tlog_hasherOf.j2 Q p1 p3 w4)
  (N_tlog_hasherOf.j3 Q p1 p3 w4))) :
C_tlog_hasherOf #[.int .i64 a0] w Q := C_fold K_tlog_hasherOf (by kernel_rfl) h
/-! ### ledger/ledgerref01.Sum256 -/
noncomputable def B_r01_Sum256 : Code := match Tryd.f105.body with | some c => c | _ => .skip
noncomputable def X_r01_Sum256 : Cx := { P := PP, fn := 105, N := 19, tab := tab, results := [.cell 2 28], iter := fun _ => (.none, .none), dyn := fun _ => false, live := fun r => cond (Nat.beq r 4) (some [2, 3, 4, 5]) (none) }
theorem K_r01_Sum256 : OkF X_r01_Sum256 B_r01_Sum256 Tryd.f105 := ⟨⟨tab_ok, mix_ok⟩, Tryd.func105, by kernel_rfl, by kernel_rfl, by kernel_rfl, by kernel_rfl⟩
noncomputable def N_r01_Sum256.j4 (Q : Value → World → Prop) (s2 : Addr) (s3 : Addr) (s4 : Option Addr) (s4n : Nat) (s4c : Nat) (s5 : Int) (w : World) : Prop := Nd X_r01_Sum256 Q [(2, 2, .pointer (some s2)), (3, 3, .pointer (some s3)), (4, 4, .slice s4 s4n s4c), (5, 5, .int .i64 s5)] [.code (B_r01_Sum256.r.r.r.l.r.l.l.l.l), .code (B_r01_Sum256.r.r.r.l.r.l.l.l.r), .code (B_r01_Sum256.r.r.r.l.r.l.l.r), .inLoop (B_r01_Sum256.r.r.r.l.r.l.l), .inBlock 0, .code (B_r01_Sum256.r.r.r.r)] w
theorem N_r01_Sum256.j4_eq (Q : Value → World → Prop) (s2 : Addr) (s3 : Addr) (s4 : Option Addr) (s4n : Nat) (s4c : Nat) (s5 : Int) (w : World) (h :
  cond (decide (s5 < 32))
  ((0 : Int) ≤ s5 ∧
  s5 < ((s4n : Nat) : Int) ∧
  opnA s4 fun ad1 =>
  opnI .u8 (w.cell? (ad1.add (Int.toNat s5 * 1))) fun x2 =>
  (0 : Int) ≤ s5 ∧
  s5 < ((32 : Nat) : Int) ∧
  stC (s3.add (Int.toNat s5 * 1)) (.int .u8 x2) w fun w3 =>
  N_r01_Sum256.j4 Q s2 s3 s4 s4n s4c (IntKind.wrap .i64 (s5 + 1)) w3)
  (opnRow w s3 (32 * 1) fun x4 =>
  stRow s2 x4 (32 * 1) w fun w5 =>
  opnRow w5 s2 (32 * 1) fun x6 =>
  Q (.agg x6) w5)) :
N_r01_Sum256.j4 Q s2 s3 s4 s4n s4c s5 w := Nd_fold K_r01_Sum256 (by kernel_rfl) h
theorem C_r01_Sum256_eq (Q : Value → World → Prop) (a0 : Option Addr) (a0n : Nat) (a0c : Nat) (w : World) (h :
  alZ PP 28 w fun p1 w2 =>
  alZ PP 28 w2 fun p3 w4 =>
  C_r01_Hash #[.int .i64 1, .slice a0 a0n a0c] w4 fun v5 w6 =>
  opnL (some v5) fun x7 x7n x7c =>
  N_r01_Sum256.j4 Q p1 p3 x7 x7n x7c 0 w6) :
C_r01_Sum256 #[.slice a0 a0n a0c] w Q := C_fold K_r01_Sum256 (by kernel_rfl) h
/-! ### ledger/ledgerref08.weak -/
noncomputable def B_r08_weak : Code := match Tryd.f106.body with | some c => c | _ => .skip
noncomputable def X_r08_weak : Cx := { P := PP, fn := 106, N := 21, tab := tab, results := [.cell 4 28], iter := fun _ => (.none, .none), dyn := fun _ => false, live := fun r => cond (Nat.beq r 2) (some [3, 4]) (cond (Nat.beq r 4) (some [3, 4, 5]) (none)) }
theorem K_r08_weak : OkF X_r08_weak B_r08_weak Tryd.f106 := ⟨⟨tab_ok, mix_ok⟩, Tryd.func106, by kernel_rfl, by kernel_rfl, by kernel_rfl, by kernel_rfl⟩
noncomputable def N_r08_weak.j2 (Q : Value → World → Prop) (s3 : Addr) (s4 : Addr) (w : World) : Prop := Nd X_r08_weak Q [(3, 3, .pointer (some s3)), (4, 4, .pointer (some s4))] [.code (B_r08_weak.r.l.r.l.l), .code (B_r08_weak.r.l.r.l.r), .code (B_r08_weak.r.r)] w
noncomputable def N_r08_weak.j4 (Q : Value → World → Prop) (s3 : Addr) (s4 : Addr) (s5 : Int) (w : World) : Prop := Nd X_r08_weak Q [(3, 3, .pointer (some s3)), (4, 4, .pointer (some s4)), (5, 5, .int .i64 s5)] [.code (B_r08_weak.r.r.l.r.l.l.l.l), .code (B_r08_weak.r.r.l.r.l.l.l.r), .code (B_r08_weak.r.r.l.r.l.l.r), .inLoop (B_r08_weak.r.r.l.r.l.l), .inBlock 0, .code (B_r08_weak.r.r.r)] w
theorem N_r08_weak.j2_eq (Q : Value → World → Prop) (s3 : Addr) (s4 : Addr) (w : World) (h :
  opnRow w s3 (32 * 1) fun x1 =>
  stRow s4 x1 (32 * 1) w fun w2 =>
  opnRow w2 s4 (32 * 1) fun x3 =>
  Q (.agg x3) w2) :
N_r08_weak.j2 Q s3 s4 w := Nd_fold K_r08_weak (by kernel_rfl) h
theorem N_r08_weak.j4_eq (Q : Value → World → Prop) (s3 : Addr) (s4 : Addr) (s5 : Int) (w : World) (h :
  cond (decide (s5 < 32))
  ((0 : Int) ≤ s5 ∧
  s5 < ((32 : Nat) : Int) ∧
  stC (s3.add (Int.toNat s5 * 1)) (.int .u8 0) w fun w1 =>
  N_r08_weak.j4 Q s3 s4 (IntKind.wrap .i64 (s5 + 1)) w1)
  (opnRow w s3 (32 * 1) fun x2 =>
  stRow s4 x2 (32 * 1) w fun w3 =>
  opnRow w3 s4 (32 * 1) fun x4 =>
  Q (.agg x4) w3)) :
N_r08_weak.j4 Q s3 s4 s5 w := Nd_fold K_r08_weak (by kernel_rfl) h
theorem C_r08_weak_eq (Q : Value → World → Prop) (a0 : Int) (a1 : Array Value) (w : World) (h :
  alC a1 28 w fun p1 w2 =>
  alZ PP 28 w2 fun p3 w4 =>
  cond (decide (a0 < 1))
  (N_r08_weak.j2 Q p1 p3 w4)
  (cond (decide (a0 > 31))
  (N_r08_weak.j2 Q p1 p3 w4)
  (N_r08_weak.j4 Q p1 p3 a0 w4))) :
C_r08_weak #[.int .i64 a0, .agg a1] w Q := C_fold K_r08_weak (by kernel_rfl) h
/-! ### ledger/ledgerref01.Hash -/
noncomputable def B_r01_Hash : Code := match Tryd.f130.body with | some c => c | _ => .skip
noncomputable def X_r01_Hash : Cx := { P := PP, fn := 130, N := 10, tab := tab, results := [.tmp 4], iter := fun _ => (.none, .none), dyn := fun _ => false, live := fun _ => none }
theorem K_r01_Hash : OkF X_r01_Hash B_r01_Hash Tryd.f130 := ⟨⟨tab_ok, mix_ok⟩, Tryd.func130, by kernel_rfl, by kernel_rfl, by kernel_rfl, by kernel_rfl⟩
theorem C_r01_Hash_eq (Q : Value → World → Prop) (a0 : Int) (a1 : Option Addr) (a1n : Nat) (a1c : Nat) (w : World) (h :
  C_r01_Begin #[.int .i64 a0] w fun v1 w2 =>
  opnG (some v1) fun x3 =>
  C_r01_Given #[.agg x3, .slice a1 a1n a1c] w2 fun v4 w5 =>
  opnG (some v4) fun x6 =>
  C_r01_Told #[.agg x6] w5 fun v7 w8 =>
  opnL (some v7) fun x9 x9n x9c =>
  Q (.slice x9 x9n x9c) w8) :
C_r01_Hash #[.int .i64 a0, .slice a1 a1n a1c] w Q := C_fold K_r01_Hash (by kernel_rfl) h
/-! ### ledger/ledgerref01.Told -/
noncomputable def B_r01_Told : Code := match Tryd.f158.body with | some c => c | _ => .skip
noncomputable def X_r01_Told : Cx := { P := PP, fn := 158, N := 63, tab := tab, results := [.tmp 2], iter := fun _ => (.none, .none), dyn := fun _ => false, live := fun r => cond (Nat.beq r 4) (some [1, 3, 4, 5]) (cond (Nat.beq r 8) (some [1, 5]) (cond (Nat.beq r 9) (some [1, 5]) (cond (Nat.beq r 10) (some [1, 6]) (cond (Nat.beq r 11) (some [1, 6, 7]) (cond (Nat.beq r 12) (some [1, 6, 7, 8]) (none)))))) }
theorem K_r01_Told : OkF X_r01_Told B_r01_Told Tryd.f158 := ⟨⟨tab_ok, mix_ok⟩, Tryd.func158, by kernel_rfl, by kernel_rfl, by kernel_rfl, by kernel_rfl⟩
noncomputable def N_r01_Told.j4 (Q : Value → World → Prop) (s1 : Addr) (s3 : Int) (s4 : Int) (s5 : Option Addr) (s5n : Nat) (s5c : Nat) (w : World) : Prop := Nd X_r01_Told Q [(1, 1, .pointer (some s1)), (3, 3, .int .i64 s3), (4, 4, .int .i64 s4), (5, 5, .slice s5 s5n s5c)] [.code (B_r01_Told.r.r.r.r.l.l.l.l.l), .code (B_r01_Told.r.r.r.r.l.l.l.l.r), .code (B_r01_Told.r.r.r.r.l.l.l.r), .inLoop (B_r01_Told.r.r.r.r.l.l.l), .inBlock 0, .code (B_r01_Told.r.r.r.r.r)] w
noncomputable def N_r01_Told.j8 (Q : Value → World → Prop) (s1 : Addr) (s5 : Option Addr) (s5n : Nat) (s5c : Nat) (w : World) : Prop := Nd X_r01_Told Q [(1, 1, .pointer (some s1)), (5, 5, .slice s5 s5n s5c)] [.code (B_r01_Told.r.r.r.r.r.r.l), .code (B_r01_Told.r.r.r.r.r.r.r)] w
noncomputable def N_r01_Told.j9 (Q : Value → World → Prop) (s1 : Addr) (s5 : Option Addr) (s5n : Nat) (s5c : Nat) (w : World) : Prop := Nd X_r01_Told Q [(1, 1, .pointer (some s1)), (5, 5, .slice s5 s5n s5c)] [.code (B_r01_Told.r.r.r.r.r.r.r.l), .code (B_r01_Told.r.r.r.r.r.r.r.r)] w
noncomputable def N_r01_Told.j10 (Q : Value → World → Prop) (s1 : Addr) (s6 : Addr) (w : World) : Prop := Nd X_r01_Told Q [(1, 1, .pointer (some s1)), (6, 6, .pointer (some s6))] [.code (B_r01_Told.r.r.r.r.r.r.r.r.l), .code (B_r01_Told.r.r.r.r.r.r.r.r.r)] w
noncomputable def N_r01_Told.j11 (Q : Value → World → Prop) (s1 : Addr) (s6 : Addr) (s7 : Option Addr) (s7n : Nat) (s7c : Nat) (w : World) : Prop := Nd X_r01_Told Q [(1, 1, .pointer (some s1)), (6, 6, .pointer (some s6)), (7, 7, .slice s7 s7n s7c)] [.code (B_r01_Told.r.r.r.r.r.r.r.r.r.l.l), .code (B_r01_Told.r.r.r.r.r.r.r.r.r.l.r), .code (B_r01_Told.r.r.r.r.r.r.r.r.r.r)] w
noncomputable def N_r01_Told.j12 (Q : Value → World → Prop) (s1 : Addr) (s6 : Addr) (s7 : Option Addr) (s7n : Nat) (s7c : Nat) (s8 : Int) (w : World) : Prop := Nd X_r01_Told Q [(1, 1, .pointer (some s1)), (6, 6, .pointer (some s6)), (7, 7, .slice s7 s7n s7c), (8, 8, .int .i64 s8)] [.code (B_r01_Told.r.r.r.r.r.r.r.r.r.l.r.l.l.l.l), .code (B_r01_Told.r.r.r.r.r.r.r.r.r.l.r.l.l.l.r), .code (B_r01_Told.r.r.r.r.r.r.r.r.r.l.r.l.l.r), .inLoop (B_r01_Told.r.r.r.r.r.r.r.r.r.l.r.l.l), .inBlock 2, .code (B_r01_Told.r.r.r.r.r.r.r.r.r.r)] w
theorem N_r01_Told.j4_eq (Q : Value → World → Prop) (s1 : Addr) (s3 : Int) (s4 : Int) (s5 : Option Addr) (s5n : Nat) (s5c : Nat) (w : World) (h :
  opnL (w.cell? (s1.add 10)) fun x1 x1n x1c =>
  s3 ≠ (0 : Int) ∧
  cond ((Int.tmod (IntKind.wrap .i64 ((IntKind.wrap .i64 (((x1n : Nat) : Int) + ((s5n : Nat) : Int))) + s4)) s3) != 0)
  (alC #[.int .u8 0] 5 w fun p2 w3 =>
  sem PP (Builtin.append_ #[25, 25] 25 #[.slice s5 s5n s5c, .slice (some p2) 1 1]) w3 fun v4 w5 =>
  opnL (some v4) fun x6 x6n x6c =>
  N_r01_Told.j4 Q s1 s3 s4 x6 x6n x6c w5)
  (opnI .i64 (w.cell? (s1.add 0)) fun x7 =>
  cond (x7 == 2)
  (opnI .u64 (w.cell? (s1.add 9)) fun x8 =>
  C_r01_bytesOf #[.int .u64 (shrI .u64 x8 61), .int .i64 8] w fun v9 w10 =>
  opnL (some v9) fun x11 x11n x11c =>
  sem PP (Builtin.append_ #[25, 25] 25 #[.slice s5 s5n s5c, .slice x11 x11n x11c]) w10 fun v12 w13 =>
  opnL (some v12) fun x14 x14n x14c =>
  N_r01_Told.j8 Q s1 x14 x14n x14c w13)
  (N_r01_Told.j8 Q s1 s5 s5n s5c w))) :
N_r01_Told.j4 Q s1 s3 s4 s5 s5n s5c w := Nd_fold K_r01_Told (by kernel_rfl) h
theorem N_r01_Told.j8_eq (Q : Value → World → Prop) (s1 : Addr) (s5 : Option Addr) (s5n : Nat) (s5c : Nat) (w : World) (h :
  opnI .u64 (w.cell? (s1.add 9)) fun x1 =>
  C_r01_bytesOf #[.int .u64 (shlI .u64 x1 3), .int .i64 8] w fun v2 w3 =>
  opnL (some v2) fun x4 x4n x4c =>
  sem PP (Builtin.append_ #[25, 25] 25 #[.slice s5 s5n s5c, .slice x4 x4n x4c]) w3 fun v5 w6 =>
  opnL (some v5) fun x7 x7n x7c =>
  N_r01_Told.j9 Q s1 x7 x7n x7c w6) :
N_r01_Told.j8 Q s1 s5 s5n s5c w := Nd_fold K_r01_Told (by kernel_rfl) h
theorem N_r01_Told.j9_eq (Q : Value → World → Prop) (s1 : Addr) (s5 : Option Addr) (s5n : Nat) (s5c : Nat) (w : World) (h :
  opnRow w s1 11 fun x1 =>
  C_r01_Given #[.agg x1, .slice s5 s5n s5c] w fun v2 w3 =>
  opnG (some v2) fun x4 =>
  alZ PP 220 w3 fun p5 w6 =>
  stRow p5 x4 (11) w6 fun w7 =>
  N_r01_Told.j10 Q s1 p5 w7) :
N_r01_Told.j9 Q s1 s5 s5n s5c w := Nd_fold K_r01_Told (by kernel_rfl) h
theorem N_r01_Told.j10_eq (Q : Value → World → Prop) (s1 : Addr) (s6 : Addr) (w : World) (h :
  N_r01_Told.j11 Q s1 s6 none 0 0 w) :
N_r01_Told.j10 Q s1 s6 w := Nd_fold K_r01_Told (by kernel_rfl) h
theorem N_r01_Told.j11_eq (Q : Value → World → Prop) (s1 : Addr) (s6 : Addr) (s7 : Option Addr) (s7n : Nat) (s7c : Nat) (w : World) (h :
  N_r01_Told.j12 Q s1 s6 s7 s7n s7c 0 w) :
N_r01_Told.j11 Q s1 s6 s7 s7n s7c w := Nd_fold K_r01_Told (by kernel_rfl) h
theorem N_r01_Told.j12_eq (Q : Value → World → Prop) (s1 : Addr) (s6 : Addr) (s7 : Option Addr) (s7n : Nat) (s7c : Nat) (s8 : Int) (w : World) (h :
  cond (decide (s8 < 8))
  (drw w fun w1 =>
  (0 : Int) ≤ s8 ∧
  s8 < ((8 : Nat) : Int) ∧
  opnI .u64 (w1.cell? ((s6.add 1).add (Int.toNat s8 * 1))) fun x2 =>
  opnI .i64 (w1.cell? (s1.add 0)) fun x3 =>
  C_r01_wide #[.int .i64 x3] w1 fun v4 w5 =>
  opnI .i64 (some v4) fun x6 =>
  (opnI .u64 (w5.cell? ((s6.add 1).add (Int.toNat s8 * 1))) fun x7 =>
  ((.int .u64 x7) : Value) = .int .u64 x2) ∧
  C_r01_bytesOf #[.int .u64 x2, .int .i64 x6] w5 fun v8 w9 =>
  opnL (some v8) fun x10 x10n x10c =>
  sem PP (Builtin.append_ #[25, 25] 25 #[.slice s7 s7n s7c, .slice x10 x10n x10c]) w9 fun v11 w12 =>
  opnL (some v11) fun x13 x13n x13c =>
  N_r01_Told.j12 Q s1 s6 x13 x13n x13c (IntKind.wrap .i64 (s8 + 1)) w12)
  (Q (.slice s7 s7n s7c) w)) :
N_r01_Told.j12 Q s1 s6 s7 s7n s7c s8 w := Nd_fold K_r01_Told (by kernel_rfl) h
theorem C_r01_Told_eq (Q : Value → World → Prop) (a0 : Array Value) (w : World) (h :
  alC a0 220 w fun p1 w2 =>
  opnI .i64 (w2.cell? (p1.add 0)) fun x3 =>
  C_r01_Block #[.int .i64 x3] w2 fun v4 w5 =>
  opnI .i64 (some v4) fun x6 =>
  opnI .i64 (w5.cell? (p1.add 0)) fun x7 =>
  alC #[.int .u8 128] 5 w5 fun p8 w9 =>
  N_r01_Told.j4 Q p1 x6 (IntKind.wrap .i64 (8 * x7)) (some p8) 1 1 w9) :
C_r01_Told #[.agg a0] w Q := C_fold K_r01_Told (by kernel_rfl) h
/-! ### ledger/ledgerref01.Given -/
noncomputable def B_r01_Given : Code := match Tryd.f159.body with | some c => c | _ => .skip
noncomputable def X_r01_Given : Cx := { P := PP, fn := 159, N := 59, tab := tab, results := [.cell 4 220], iter := fun _ => (.none, .none), dyn := fun _ => false, live := fun r => cond (Nat.beq r 7) (some [2, 4, 5, 6, 7, 8]) (none) }
theorem K_r01_Given : OkF X_r01_Given B_r01_Given Tryd.f159 := ⟨⟨tab_ok, mix_ok⟩, Tryd.func159, by kernel_rfl, by kernel_rfl, by kernel_rfl, by kernel_rfl⟩
noncomputable def N_r01_Given.j7 (Q : Value → World → Prop) (s2 : Addr) (s4 : Addr) (s5 : Int) (s6 : Option Addr) (s6n : Nat) (s6c : Nat) (s7 : Addr) (s8 : Int) (w : World) : Prop := Nd X_r01_Given Q [(2, 2, .pointer (some s2)), (4, 4, .pointer (some s4)), (5, 5, .int .i64 s5), (6, 6, .slice s6 s6n s6c), (7, 7, .pointer (some s7)), (8, 8, .int .i64 s8)] [.code (B_r01_Given.r.r.r.r.r.r.r.l.l.l.l.l), .code (B_r01_Given.r.r.r.r.r.r.r.l.l.l.l.r), .code (B_r01_Given.r.r.r.r.r.r.r.l.l.l.r), .inLoop (B_r01_Given.r.r.r.r.r.r.r.l.l.l), .inBlock 0, .code (B_r01_Given.r.r.r.r.r.r.r.r)] w
theorem N_r01_Given.j7_eq (Q : Value → World → Prop) (s2 : Addr) (s4 : Addr) (s5 : Int) (s6 : Option Addr) (s6n : Nat) (s6c : Nat) (s7 : Addr) (s8 : Int) (w : World) (h :
  cond (decide ((IntKind.wrap .i64 (s8 + s5)) ≤ ((s6n : Nat) : Int)))
  (drw w fun w1 =>
  (0 : Int) ≤ (IntKind.wrap .i64 (s8 + s5)) ∧
  (IntKind.wrap .i64 (s8 + s5)) ≤ ((s6c : Nat) : Int) ∧
  (0 : Int) ≤ s8 ∧
  s8 ≤ (IntKind.wrap .i64 (s8 + s5)) ∧
  opnI .i64 (w1.cell? (s2.add 0)) fun x2 =>
  opnRow w1 (s7.add 1) (8 * 1) fun x3 =>
  C_r01_mixed #[.int .i64 x2, .agg x3, .slice (slA s6 (Int.toNat s8) s6c 1) ((Int.toNat (IntKind.wrap .i64 (s8 + s5))) - (Int.toNat s8)) (s6c - (Int.toNat s8))] w1 fun v4 w5 =>
  opnG (some v4) fun x6 =>
  stRow (s7.add 1) x6 (8 * 1) w5 fun w7 =>
  N_r01_Given.j7 Q s2 s4 s5 s6 s6n s6c s7 (IntKind.wrap .i64 (s8 + s5)) w7)
  (drw w fun w8 =>
  (0 : Int) ≤ s8 ∧
  s8 ≤ ((s6n : Nat) : Int) ∧
  opnL (w8.cell? (s7.add 10)) fun x9 x9n x9c =>
  sem PP (Builtin.append_ #[25, 25] 25 #[.slice x9 x9n x9c, .slice (slA s6 (Int.toNat s8) s6c 1) (s6n - (Int.toNat s8)) (s6c - (Int.toNat s8))]) w8 fun v10 w11 =>
  opnL (some v10) fun x12 x12n x12c =>
  stC (s7.add 10) (.slice x12 x12n x12c) w11 fun w13 =>
  opnRow w13 s7 11 fun x14 =>
  stRow s4 x14 (11) w13 fun w15 =>
  opnRow w15 s4 11 fun x16 =>
  Q (.agg x16) w15)) :
N_r01_Given.j7 Q s2 s4 s5 s6 s6n s6c s7 s8 w := Nd_fold K_r01_Given (by kernel_rfl) h
theorem C_r01_Given_eq (Q : Value → World → Prop) (a0 : Array Value) (a1 : Option Addr) (a1n : Nat) (a1c : Nat) (w : World) (h :
  alC a0 220 w fun p1 w2 =>
  alZ PP 220 w2 fun p3 w4 =>
  opnI .i64 (w4.cell? (p1.add 0)) fun x5 =>
  C_r01_Block #[.int .i64 x5] w4 fun v6 w7 =>
  opnI .i64 (some v6) fun x8 =>
  opnL (w7.cell? (p1.add 10)) fun x9 x9n x9c =>
  sem PP (Builtin.append_ #[25, 25] 25 #[.slice none 0 0, .slice x9 x9n x9c]) w7 fun v10 w11 =>
  opnL (some v10) fun x12 x12n x12c =>
  sem PP (Builtin.append_ #[25, 25] 25 #[.slice x12 x12n x12c, .slice a1 a1n a1c]) w11 fun v13 w14 =>
  opnL (some v13) fun x15 x15n x15c =>
  opnI .i64 (w14.cell? (p1.add 0)) fun x16 =>
  opnRow w14 (p1.add 1) (8 * 1) fun x17 =>
  opnI .u64 (w14.cell? (p1.add 9)) fun x18 =>
  semP PP (Instr.build 220 #[(0, .int .i64 x16), (1, .agg x17), (2, .int .u64 (IntKind.wrap .u64 (x18 + (IntKind.wrap .u64 ((a1n : Nat) : Int)))))]) fun v19 =>
  opnG (some v19) fun x21 =>
  alZ PP 220 w14 fun p22 w23 =>
  stRow p22 x21 (11) w23 fun w24 =>
  N_r01_Given.j7 Q p1 p3 x8 x15 x15n x15c p22 0 w24) :
C_r01_Given #[.agg a0, .slice a1 a1n a1c] w Q := C_fold K_r01_Given (by kernel_rfl) h
/-! ### ledger/ledgerref01.Begin -/
noncomputable def B_r01_Begin : Code := match Tryd.f160.body with | some c => c | _ => .skip
noncomputable def X_r01_Begin : Cx := { P := PP, fn := 160, N := 27, tab := tab, results := [.cell 2 220], iter := fun _ => (.none, .none), dyn := fun _ => false, live := fun r => cond (Nat.beq r 3) (some [0, 2, 3, 4]) (cond (Nat.beq r 4) (some [0, 2, 3, 4]) (none)) }
theorem K_r01_Begin : OkF X_r01_Begin B_r01_Begin Tryd.f160 := ⟨⟨tab_ok, mix_ok⟩, Tryd.func160, by kernel_rfl, by kernel_rfl, by kernel_rfl, by kernel_rfl⟩
noncomputable def N_r01_Begin.j3 (Q : Value → World → Prop) (s0 : Int) (s2 : Addr) (s3 : Addr) (s4 : Int) (w : World) : Prop := Nd X_r01_Begin Q [(0, 0, .int .i64 s0), (2, 2, .pointer (some s2)), (3, 3, .pointer (some s3)), (4, 4, .int .i64 s4)] [.code (B_r01_Begin.r.r.l.r.l.l.l.l), .code (B_r01_Begin.r.r.l.r.l.l.l.r), .code (B_r01_Begin.r.r.l.r.l.l.r), .inLoop (B_r01_Begin.r.r.l.r.l.l), .inBlock 0, .code (B_r01_Begin.r.r.r)] w
noncomputable def N_r01_Begin.j4 (Q : Value → World → Prop) (s0 : Int) (s2 : Addr) (s3 : Addr) (s4 : Int) (w : World) : Prop := Nd X_r01_Begin Q [(0, 0, .int .i64 s0), (2, 2, .pointer (some s2)), (3, 3, .pointer (some s3)), (4, 4, .int .i64 s4)] [.code (B_r01_Begin.r.r.l.r.l.l.r.r), .inLoop (B_r01_Begin.r.r.l.r.l.l), .inBlock 0, .code (B_r01_Begin.r.r.r)] w
theorem N_r01_Begin.j3_eq (Q : Value → World → Prop) (s0 : Int) (s2 : Addr) (s3 : Addr) (s4 : Int) (w : World) (h :
  cond (decide (s4 < 8))
  ((0 : Int) ≤ s4 ∧
  s4 < ((8 : Nat) : Int) ∧
  opnI .u64 (w.cell? ((⟨3, 0, none⟩ : Addr).add (Int.toNat s4 * 1))) fun x1 =>
  (0 : Int) ≤ s4 ∧
  s4 < ((8 : Nat) : Int) ∧
  stC ((s3.add 1).add (Int.toNat s4 * 1)) (.int .u64 x1) w fun w2 =>
  cond (s0 == 1)
  ((0 : Int) ≤ s4 ∧
  s4 < ((8 : Nat) : Int) ∧
  opnI .u64 (w2.cell? ((⟨3, 0, none⟩ : Addr).add (Int.toNat s4 * 1))) fun x3 =>
  (0 : Int) ≤ s4 ∧
  s4 < ((8 : Nat) : Int) ∧
  stC ((s3.add 1).add (Int.toNat s4 * 1)) (.int .u64 (shrI .u64 x3 32)) w2 fun w4 =>
  N_r01_Begin.j4 Q s0 s2 s3 s4 w4)
  (N_r01_Begin.j4 Q s0 s2 s3 s4 w2))
  (opnRow w s3 11 fun x5 =>
  stRow s2 x5 (11) w fun w6 =>
  opnRow w6 s2 11 fun x7 =>
  Q (.agg x7) w6)) :
N_r01_Begin.j3 Q s0 s2 s3 s4 w := Nd_fold K_r01_Begin (by kernel_rfl) h
theorem N_r01_Begin.j4_eq (Q : Value → World → Prop) (s0 : Int) (s2 : Addr) (s3 : Addr) (s4 : Int) (w : World) (h :
  N_r01_Begin.j3 Q s0 s2 s3 (IntKind.wrap .i64 (s4 + 1)) w) :
N_r01_Begin.j4 Q s0 s2 s3 s4 w := Nd_fold K_r01_Begin (by kernel_rfl) h
theorem C_r01_Begin_eq (Q : Value → World → Prop) (a0 : Int) (w : World) (h :
  alZ PP 220 w fun p1 w2 =>
  semP PP (Instr.build 220 #[(0, .int .i64 a0)]) fun v3 =>
  opnG (some v3) fun x5 =>
  alZ PP 220 w2 fun p6 w7 =>
  stRow p6 x5 (11) w7 fun w8 =>
  N_r01_Begin.j3 Q a0 p1 p6 0 w8) :
C_r01_Begin #[.int .i64 a0] w Q := C_fold K_r01_Begin (by kernel_rfl) h
/-! ### ledger/ledgerref01.Block -/
noncomputable def B_r01_Block : Code := match Tryd.f181.body with | some c => c | _ => .skip
noncomputable def X_r01_Block : Cx := { P := PP, fn := 181, N := 5, tab := tab, results := [.tmp 2], iter := fun _ => (.none, .none), dyn := fun _ => false, live := fun _ => none }
theorem K_r01_Block : OkF X_r01_Block B_r01_Block Tryd.f181 := ⟨⟨tab_ok, mix_ok⟩, Tryd.func181, by kernel_rfl, by kernel_rfl, by kernel_rfl, by kernel_rfl⟩
theorem C_r01_Block_eq (Q : Value → World → Prop) (a0 : Int) (w : World) (h :
  Q (.int .i64 (IntKind.wrap .i64 (64 * a0))) w) :
C_r01_Block #[.int .i64 a0] w Q := C_fold K_r01_Block (by kernel_rfl) h
/-! ### ledger/ledgerref01.bytesOf -/
noncomputable def B_r01_bytesOf : Code := match Tryd.f182.body with | some c => c | _ => .skip
noncomputable def X_r01_bytesOf : Cx := { P := PP, fn := 182, N := 24, tab := tab, results := [.tmp 4], iter := fun _ => (.none, .none), dyn := fun _ => false, live := fun r => cond (Nat.beq r 3) (some [0, 5, 6]) (none) }
theorem K_r01_bytesOf : OkF X_r01_bytesOf B_r01_bytesOf Tryd.f182 := ⟨⟨tab_ok, mix_ok⟩, Tryd.func182, by kernel_rfl, by kernel_rfl, by kernel_rfl, by kernel_rfl⟩
noncomputable def N_r01_bytesOf.j3 (Q : Value → World → Prop) (s0 : Int) (s5 : Option Addr) (s5n : Nat) (s5c : Nat) (s6 : Int) (w : World) : Prop := Nd X_r01_bytesOf Q [(0, 0, .int .u64 s0), (5, 5, .slice s5 s5n s5c), (6, 6, .int .i64 s6)] [.code (B_r01_bytesOf.r.r.l.r.l.l.l.l), .code (B_r01_bytesOf.r.r.l.r.l.l.l.r), .code (B_r01_bytesOf.r.r.l.r.l.l.r), .inLoop (B_r01_bytesOf.r.r.l.r.l.l), .inBlock 0, .code (B_r01_bytesOf.r.r.r)] w
theorem N_r01_bytesOf.j3_eq (Q : Value → World → Prop) (s0 : Int) (s5 : Option Addr) (s5n : Nat) (s5c : Nat) (s6 : Int) (w : World) (h :
  cond (decide (s6 ≥ 0))
  (256 ≠ (0 : Int) ∧
  (0 : Int) ≤ s6 ∧
  s6 < ((s5n : Nat) : Int) ∧
  opnA s5 fun ad1 =>
  stC (ad1.add (Int.toNat s6 * 1)) (.int .u8 (IntKind.wrap .u8 (Int.tmod s0 256))) w fun w2 =>
  256 ≠ (0 : Int) ∧
  N_r01_bytesOf.j3 Q (IntKind.wrap .u64 (Int.tdiv s0 256)) s5 s5n s5c (IntKind.wrap .i64 (s6 - 1)) w2)
  (Q (.slice s5 s5n s5c) w)) :
N_r01_bytesOf.j3 Q s0 s5 s5n s5c s6 w := Nd_fold K_r01_bytesOf (by kernel_rfl) h
theorem C_r01_bytesOf_eq (Q : Value → World → Prop) (a0 : Int) (a1 : Int) (w : World) (h :
  sem PP (Instr.makeSlice 25 (.int .i64 a1) (.int .i64 a1)) w fun v1 w2 =>
  opnL (some v1) fun x3 x3n x3c =>
  N_r01_bytesOf.j3 Q a0 x3 x3n x3c (IntKind.wrap .i64 (a1 - 1)) w2) :
C_r01_bytesOf #[.int .u64 a0, .int .i64 a1] w Q := C_fold K_r01_bytesOf (by kernel_rfl) h
/-! ### ledger/ledgerref01.wide -/
noncomputable def B_r01_wide : Code := match Tryd.f183.body with | some c => c | _ => .skip
noncomputable def X_r01_wide : Cx := { P := PP, fn := 183, N := 5, tab := tab, results := [.tmp 2], iter := fun _ => (.none, .none), dyn := fun _ => false, live := fun _ => none }
theorem K_r01_wide : OkF X_r01_wide B_r01_wide Tryd.f183 := ⟨⟨tab_ok, mix_ok⟩, Tryd.func183, by kernel_rfl, by kernel_rfl, by kernel_rfl, by kernel_rfl⟩
theorem C_r01_wide_eq (Q : Value → World → Prop) (a0 : Int) (w : World) (h :
  Q (.int .i64 (IntKind.wrap .i64 (4 * a0))) w) :
C_r01_wide #[.int .i64 a0] w Q := C_fold K_r01_wide (by kernel_rfl) h
/-! ### ledger/ledgerref01.mixed -/
noncomputable def B_r01_mixed : Code := match Tryd.f184.body with | some c => c | _ => .skip
noncomputable def X_r01_mixed : Cx := { P := PP, fn := 184, N := 55, tab := tab, results := [.cell 6 218], iter := fun _ => (.none, .none), dyn := fun _ => false, live := fun r => cond (Nat.beq r 4) (some [0, 4, 6, 7, 8, 9]) (cond (Nat.beq r 5) (some [0, 4, 6, 7, 8, 9]) (cond (Nat.beq r 9) (some [0, 4, 6, 7, 8, 9, 10]) (cond (Nat.beq r 11) (some [0, 4, 6, 8, 11]) (none)))) }
theorem K_r01_mixed : OkF X_r01_mixed B_r01_mixed Tryd.f184 := ⟨⟨tab_ok, mix_ok⟩, Tryd.func184, by kernel_rfl, by kernel_rfl, by kernel_rfl, by kernel_rfl⟩
noncomputable def N_r01_mixed.j4 (Q : Value → World → Prop) (s0 : Int) (s4 : Addr) (s6 : Addr) (s7 : Option Addr) (s7n : Nat) (s7c : Nat) (s8 : Addr) (s9 : Int) (w : World) : Prop := Nd X_r01_mixed Q [(0, 0, .int .i64 s0), (4, 4, .pointer (some s4)), (6, 6, .pointer (some s6)), (7, 7, .slice s7 s7n s7c), (8, 8, .pointer (some s8)), (9, 9, .int .i64 s9)] [.code (B_r01_mixed.r.r.r.l.r.l.l.l.l), .code (B_r01_mixed.r.r.r.l.r.l.l.l.r), .code (B_r01_mixed.r.r.r.l.r.l.l.r), .inLoop (B_r01_mixed.r.r.r.l.r.l.l), .inBlock 0, .code (B_r01_mixed.r.r.r.r)] w
noncomputable def N_r01_mixed.j5 (Q : Value → World → Prop) (s0 : Int) (s4 : Addr) (s6 : Addr) (s7 : Option Addr) (s7n : Nat) (s7c : Nat) (s8 : Addr) (s9 : Int) (w : World) : Prop := Nd X_r01_mixed Q [(0, 0, .int .i64 s0), (4, 4, .pointer (some s4)), (6, 6, .pointer (some s6)), (7, 7, .slice s7 s7n s7c), (8, 8, .pointer (some s8)), (9, 9, .int .i64 s9)] [.code (B_r01_mixed.r.r.r.l.r.l.l.r.r), .inLoop (B_r01_mixed.r.r.r.l.r.l.l), .inBlock 0, .code (B_r01_mixed.r.r.r.r)] w
noncomputable def N_r01_mixed.j9 (Q : Value → World → Prop) (s0 : Int) (s4 : Addr) (s6 : Addr) (s7 : Option Addr) (s7n : Nat) (s7c : Nat) (s8 : Addr) (s9 : Int) (s10 : Int) (w : World) : Prop := Nd X_r01_mixed Q [(0, 0, .int .i64 s0), (4, 4, .pointer (some s4)), (6, 6, .pointer (some s6)), (7, 7, .slice s7 s7n s7c), (8, 8, .pointer (some s8)), (9, 9, .int .i64 s9), (10, 10, .int .u64 s10)] [.code (B_r01_mixed.r.r.r.l.r.l.l.r.l.l.r.r), .inBlock 1, .code (B_r01_mixed.r.r.r.l.r.l.l.r.r), .inLoop (B_r01_mixed.r.r.r.l.r.l.l), .inBlock 0, .code (B_r01_mixed.r.r.r.r)] w
noncomputable def N_r01_mixed.j11 (Q : Value → World → Prop) (s0 : Int) (s4 : Addr) (s6 : Addr) (s8 : Addr) (s11 : Int) (w : World) : Prop := Nd X_r01_mixed Q [(0, 0, .int .i64 s0), (4, 4, .pointer (some s4)), (6, 6, .pointer (some s6)), (8, 8, .pointer (some s8)), (11, 11, .int .i64 s11)] [.code (B_r01_mixed.r.r.r.r.l.r.l.l.l.l), .code (B_r01_mixed.r.r.r.r.l.r.l.l.l.r), .code (B_r01_mixed.r.r.r.r.l.r.l.l.r), .inLoop (B_r01_mixed.r.r.r.r.l.r.l.l), .inBlock 2, .code (B_r01_mixed.r.r.r.r.r)] w
theorem N_r01_mixed.j4_eq (Q : Value → World → Prop) (s0 : Int) (s4 : Addr) (s6 : Addr) (s7 : Option Addr) (s7n : Nat) (s7c : Nat) (s8 : Addr) (s9 : Int) (w : World) (h :
  cond (decide (s9 < ((s7n : Nat) : Int)))
  ((0 : Int) ≤ s9 ∧
  s9 < ((80 : Nat) : Int) ∧
  opnI .u64 (w.cell? ((⟨14, 0, none⟩ : Addr).add (Int.toNat s9 * 1))) fun x1 =>
  cond (s0 == 1)
  ((0 : Int) ≤ s9 ∧
  s9 < ((80 : Nat) : Int) ∧
  opnI .u64 (w.cell? ((⟨14, 0, none⟩ : Addr).add (Int.toNat s9 * 1))) fun x2 =>
  N_r01_mixed.j9 Q s0 s4 s6 s7 s7n s7c s8 s9 (shrI .u64 x2 32) w)
  (N_r01_mixed.j9 Q s0 s4 s6 s7 s7n s7c s8 s9 x1 w))
  (N_r01_mixed.j11 Q s0 s4 s6 s8 0 w)) :
N_r01_mixed.j4 Q s0 s4 s6 s7 s7n s7c s8 s9 w := Nd_fold K_r01_mixed (by kernel_rfl) h
theorem N_r01_mixed.j5_eq (Q : Value → World → Prop) (s0 : Int) (s4 : Addr) (s6 : Addr) (s7 : Option Addr) (s7n : Nat) (s7c : Nat) (s8 : Addr) (s9 : Int) (w : World) (h :
  N_r01_mixed.j4 Q s0 s4 s6 s7 s7n s7c s8 (IntKind.wrap .i64 (s9 + 1)) w) :
N_r01_mixed.j5 Q s0 s4 s6 s7 s7n s7c s8 s9 w := Nd_fold K_r01_mixed (by kernel_rfl) h
theorem N_r01_mixed.j9_eq (Q : Value → World → Prop) (s0 : Int) (s4 : Addr) (s6 : Addr) (s7 : Option Addr) (s7n : Nat) (s7c : Nat) (s8 : Addr) (s9 : Int) (s10 : Int) (w : World) (h :
  drw w fun w1 =>
  (0 : Int) ≤ s9 ∧
  s9 < ((s7n : Nat) : Int) ∧
  opnA s7 fun ad2 =>
  opnRow w1 s8 (8 * 1) fun x3 =>
  opnI .u64 (w1.cell? (ad2.add (Int.toNat s9 * 1))) fun x4 =>
  C_r01_round #[.int .i64 s0, .agg x3, .int .u64 s10, .int .u64 x4] w1 fun v5 w6 =>
  opnG (some v5) fun x7 =>
  stRow s8 x7 (8 * 1) w6 fun w8 =>
  N_r01_mixed.j5 Q s0 s4 s6 s7 s7n s7c s8 s9 w8) :
N_r01_mixed.j9 Q s0 s4 s6 s7 s7n s7c s8 s9 s10 w := Nd_fold K_r01_mixed (by kernel_rfl) h
theorem N_r01_mixed.j11_eq (Q : Value → World → Prop) (s0 : Int) (s4 : Addr) (s6 : Addr) (s8 : Addr) (s11 : Int) (w : World) (h :
  cond (decide (s11 < 8))
  (drw w fun w1 =>
  (0 : Int) ≤ s11 ∧
  s11 < ((8 : Nat) : Int) ∧
  (0 : Int) ≤ s11 ∧
  s11 < ((8 : Nat) : Int) ∧
  opnI .u64 (w1.cell? (s8.add (Int.toNat s11 * 1))) fun x2 =>
  opnI .u64 (w1.cell? (s4.add (Int.toNat s11 * 1))) fun x3 =>
  C_r01_word #[.int .i64 s0, .int .u64 (IntKind.wrap .u64 (x2 + x3))] w1 fun v4 w5 =>
  opnI .u64 (some v4) fun x6 =>
  (0 : Int) ≤ s11 ∧
  s11 < ((8 : Nat) : Int) ∧
  stC (s8.add (Int.toNat s11 * 1)) (.int .u64 x6) w5 fun w7 =>
  N_r01_mixed.j11 Q s0 s4 s6 s8 (IntKind.wrap .i64 (s11 + 1)) w7)
  (opnRow w s8 (8 * 1) fun x8 =>
  stRow s6 x8 (8 * 1) w fun w9 =>
  opnRow w9 s6 (8 * 1) fun x10 =>
  Q (.agg x10) w9)) :
N_r01_mixed.j11 Q s0 s4 s6 s8 s11 w := Nd_fold K_r01_mixed (by kernel_rfl) h
theorem C_r01_mixed_eq (Q : Value → World → Prop) (a0 : Int) (a1 : Array Value) (a2 : Option Addr) (a2n : Nat) (a2c : Nat) (w : World) (h :
  alC a1 218 w fun p1 w2 =>
  alZ PP 218 w2 fun p3 w4 =>
  C_r01_plan #[.int .i64 a0, .slice a2 a2n a2c] w4 fun v5 w6 =>
  opnL (some v5) fun x7 x7n x7c =>
  opnRow w6 p1 (8 * 1) fun x8 =>
  alZ PP 218 w6 fun p9 w10 =>
  stRow p9 x8 (8 * 1) w10 fun w11 =>
  N_r01_mixed.j4 Q a0 p1 p3 x7 x7n x7c p9 0 w11) :
C_r01_mixed #[.int .i64 a0, .agg a1, .slice a2 a2n a2c] w Q := C_fold K_r01_mixed (by kernel_rfl) h
/-! ### ledger/ledgerref01.plan -/
noncomputable def B_r01_plan : Code := match Tryd.f196.body with | some c => c | _ => .skip
noncomputable def X_r01_plan : Cx := { P := PP, fn := 196, N := 107, tab := tab, results := [.tmp 4], iter := fun _ => (.none, .none), dyn := fun _ => false, live := fun r => cond (Nat.beq r 5) (some [0, 1, 5, 6, 7, 8]) (cond (Nat.beq r 9) (some [0, 6, 7, 9]) (none)) }
theorem K_r01_plan : OkF X_r01_plan B_r01_plan Tryd.f196 := ⟨⟨tab_ok, mix_ok⟩, Tryd.func196, by kernel_rfl, by kernel_rfl, by kernel_rfl, by kernel_rfl⟩
noncomputable def N_r01_plan.j5 (Q : Value → World → Prop) (s0 : Int) (s1 : Option Addr) (s1n : Nat) (s1c : Nat) (s5 : Int) (s6 : Addr) (s7 : Option Addr) (s7n : Nat) (s7c : Nat) (s8 : Int) (w : World) : Prop := Nd X_r01_plan Q [(0, 0, .int .i64 s0), (1, 1, .slice s1 s1n s1c), (5, 5, .int .i64 s5), (6, 6, .pointer (some s6)), (7, 7, .slice s7 s7n s7c), (8, 8, .int .i64 s8)] [.code (B_r01_plan.r.r.r.r.l.r.l.l.l.l), .code (B_r01_plan.r.r.r.r.l.r.l.l.l.r), .code (B_r01_plan.r.r.r.r.l.r.l.l.r), .inLoop (B_r01_plan.r.r.r.r.l.r.l.l), .inBlock 0, .code (B_r01_plan.r.r.r.r.r)] w
noncomputable def N_r01_plan.j9 (Q : Value → World → Prop) (s0 : Int) (s6 : Addr) (s7 : Option Addr) (s7n : Nat) (s7c : Nat) (s9 : Int) (w : World) : Prop := Nd X_r01_plan Q [(0, 0, .int .i64 s0), (6, 6, .pointer (some s6)), (7, 7, .slice s7 s7n s7c), (9, 9, .int .i64 s9)] [.code (B_r01_plan.r.r.r.r.r.l.r.l.l.l.l), .code (B_r01_plan.r.r.r.r.r.l.r.l.l.l.r), .code (B_r01_plan.r.r.r.r.r.l.r.l.l.r), .inLoop (B_r01_plan.r.r.r.r.r.l.r.l.l), .inBlock 2, .code (B_r01_plan.r.r.r.r.r.r)] w
theorem N_r01_plan.j5_eq (Q : Value → World → Prop) (s0 : Int) (s1 : Option Addr) (s1n : Nat) (s1c : Nat) (s5 : Int) (s6 : Addr) (s7 : Option Addr) (s7n : Nat) (s7c : Nat) (s8 : Int) (w : World) (h :
  cond (decide (s8 < 16))
  ((0 : Int) ≤ (IntKind.wrap .i64 ((IntKind.wrap .i64 (s5 * s8)) + s5)) ∧
  (IntKind.wrap .i64 ((IntKind.wrap .i64 (s5 * s8)) + s5)) ≤ ((s1c : Nat) : Int) ∧
  (0 : Int) ≤ (IntKind.wrap .i64 (s5 * s8)) ∧
  (IntKind.wrap .i64 (s5 * s8)) ≤ (IntKind.wrap .i64 ((IntKind.wrap .i64 (s5 * s8)) + s5)) ∧
  C_r01_number #[.slice (slA s1 (Int.toNat (IntKind.wrap .i64 (s5 * s8))) s1c 1) ((Int.toNat (IntKind.wrap .i64 ((IntKind.wrap .i64 (s5 * s8)) + s5))) - (Int.toNat (IntKind.wrap .i64 (s5 * s8)))) (s1c - (Int.toNat (IntKind.wrap .i64 (s5 * s8))))] w fun v1 w2 =>
  opnI .u64 (some v1) fun x3 =>
  alC #[.int .u64 x3] 169 w2 fun p4 w5 =>
  sem PP (Builtin.append_ #[257, 257] 257 #[.slice s7 s7n s7c, .slice (some p4) 1 1]) w5 fun v6 w7 =>
  opnL (some v6) fun x8 x8n x8c =>
  N_r01_plan.j5 Q s0 s1 s1n s1c s5 s6 x8 x8n x8c (IntKind.wrap .i64 (s8 + 1)) w7)
  (N_r01_plan.j9 Q s0 s6 s7 s7n s7c 16 w)) :
N_r01_plan.j5 Q s0 s1 s1n s1c s5 s6 s7 s7n s7c s8 w := Nd_fold K_r01_plan (by kernel_rfl) h
theorem N_r01_plan.j9_eq (Q : Value → World → Prop) (s0 : Int) (s6 : Addr) (s7 : Option Addr) (s7n : Nat) (s7c : Nat) (s9 : Int) (w : World) (h :
  cond (decide (s9 < (IntKind.wrap .i64 (48 + (IntKind.wrap .i64 (16 * s0))))))
  ((0 : Int) ≤ IntKind.wrap .i64 (s9 - 15) ∧
  (IntKind.wrap .i64 (s9 - 15)) < ((s7n : Nat) : Int) ∧
  opnA s7 fun ad1 =>
  opnI .u64 (w.cell? (ad1.add (Int.toNat (IntKind.wrap .i64 (s9 - 15)) * 1))) fun x2 =>
  (0 : Int) ≤ IntKind.wrap .i64 (s9 - 2) ∧
  (IntKind.wrap .i64 (s9 - 2)) < ((s7n : Nat) : Int) ∧
  opnA s7 fun ad3 =>
  opnI .u64 (w.cell? (ad3.add (Int.toNat (IntKind.wrap .i64 (s9 - 2)) * 1))) fun x4 =>
  drw w fun w5 =>
  (0 : Int) ≤ 6 ∧
  6 < ((12 : Nat) : Int) ∧
  (0 : Int) ≤ 7 ∧
  7 < ((12 : Nat) : Int) ∧
  (0 : Int) ≤ 8 ∧
  8 < ((12 : Nat) : Int) ∧
  opnI .u64 (w5.cell? (s6.add (Int.toNat 6 * 1))) fun x6 =>
  opnI .u64 (w5.cell? (s6.add (Int.toNat 7 * 1))) fun x7 =>
  opnI .u64 (w5.cell? (s6.add (Int.toNat 8 * 1))) fun x8 =>
  nn x8 (
  C_r01_turn #[.int .i64 s0, .int .u64 x2, .int .u64 x6] w5 fun v9 w10 =>
  opnI .u64 (some v9) fun x11 =>
  (opnI .u64 (w10.cell? (s6.add (Int.toNat 8 * 1))) fun x12 =>
  ((.int .u64 x12) : Value) = .int .u64 x8) ∧
  (opnI .u64 (w10.cell? (s6.add (Int.toNat 7 * 1))) fun x13 =>
  ((.int .u64 x13) : Value) = .int .u64 x7) ∧
  C_r01_turn #[.int .i64 s0, .int .u64 x2, .int .u64 x7] w10 fun v14 w15 =>
  opnI .u64 (some v14) fun x16 =>
  (opnI .u64 (w15.cell? (s6.add (Int.toNat 8 * 1))) fun x17 =>
  ((.int .u64 x17) : Value) = .int .u64 x8) ∧
  drw w15 fun w18 =>
  (0 : Int) ≤ 9 ∧
  9 < ((12 : Nat) : Int) ∧
  (0 : Int) ≤ 10 ∧
  10 < ((12 : Nat) : Int) ∧
  (0 : Int) ≤ 11 ∧
  11 < ((12 : Nat) : Int) ∧
  opnI .u64 (w18.cell? (s6.add (Int.toNat 9 * 1))) fun x19 =>
  opnI .u64 (w18.cell? (s6.add (Int.toNat 10 * 1))) fun x20 =>
  opnI .u64 (w18.cell? (s6.add (Int.toNat 11 * 1))) fun x21 =>
  nn x21 (
  C_r01_turn #[.int .i64 s0, .int .u64 x4, .int .u64 x19] w18 fun v22 w23 =>
  opnI .u64 (some v22) fun x24 =>
  (opnI .u64 (w23.cell? (s6.add (Int.toNat 11 * 1))) fun x25 =>
  ((.int .u64 x25) : Value) = .int .u64 x21) ∧
  (opnI .u64 (w23.cell? (s6.add (Int.toNat 10 * 1))) fun x26 =>
  ((.int .u64 x26) : Value) = .int .u64 x20) ∧
  C_r01_turn #[.int .i64 s0, .int .u64 x4, .int .u64 x20] w23 fun v27 w28 =>
  opnI .u64 (some v27) fun x29 =>
  (opnI .u64 (w28.cell? (s6.add (Int.toNat 11 * 1))) fun x30 =>
  ((.int .u64 x30) : Value) = .int .u64 x21) ∧
  drw w28 fun w31 =>
  (0 : Int) ≤ IntKind.wrap .i64 (s9 - 16) ∧
  (IntKind.wrap .i64 (s9 - 16)) < ((s7n : Nat) : Int) ∧
  opnA s7 fun ad32 =>
  (0 : Int) ≤ IntKind.wrap .i64 (s9 - 7) ∧
  (IntKind.wrap .i64 (s9 - 7)) < ((s7n : Nat) : Int) ∧
  opnA s7 fun ad33 =>
  opnI .u64 (w31.cell? (ad32.add (Int.toNat (IntKind.wrap .i64 (s9 - 16)) * 1))) fun x34 =>
  opnI .u64 (w31.cell? (ad33.add (Int.toNat (IntKind.wrap .i64 (s9 - 7)) * 1))) fun x35 =>
  C_r01_word #[.int .i64 s0, .int .u64 (IntKind.wrap .u64 ((IntKind.wrap .u64 ((IntKind.wrap .u64 (x34 + (bits .xor .u64 (bits .xor .u64 x11 x16) (shrI .u64 x2 x8)))) + x35)) + (bits .xor .u64 (bits .xor .u64 x24 x29) (shrI .u64 x4 x21))))] w31 fun v36 w37 =>
  opnI .u64 (some v36) fun x38 =>
  alC #[.int .u64 x38] 169 w37 fun p39 w40 =>
  sem PP (Builtin.append_ #[257, 257] 257 #[.slice s7 s7n s7c, .slice (some p39) 1 1]) w40 fun v41 w42 =>
  opnL (some v41) fun x43 x43n x43c =>
  N_r01_plan.j9 Q s0 s6 x43 x43n x43c (IntKind.wrap .i64 (s9 + 1)) w42)))
  (Q (.slice s7 s7n s7c) w)) :
N_r01_plan.j9 Q s0 s6 s7 s7n s7c s9 w := Nd_fold K_r01_plan (by kernel_rfl) h
theorem C_r01_plan_eq (Q : Value → World → Prop) (a0 : Int) (a1 : Option Addr) (a1n : Nat) (a1c : Nat) (w : World) (h :
  C_r01_wide #[.int .i64 a0] w fun v1 w2 =>
  opnI .i64 (some v1) fun x3 =>
  (0 : Int) ≤ a0 ∧
  a0 < ((3 : Nat) : Int) ∧
  opnRow w2 ((⟨15, 0, none⟩ : Addr).add (Int.toNat a0 * 12)) (12 * 1) fun x4 =>
  alZ PP 279 w2 fun p5 w6 =>
  stRow p5 x4 (12 * 1) w6 fun w7 =>
  N_r01_plan.j5 Q a0 a1 a1n a1c x3 p5 none 0 0 0 w7) :
C_r01_plan #[.int .i64 a0, .slice a1 a1n a1c] w Q := C_fold K_r01_plan (by kernel_rfl) h
/-! ### ledger/ledgerref01.round -/
noncomputable def B_r01_round : Code := match Tryd.f197.body with | some c => c | _ => .skip
noncomputable def X_r01_round : Cx := { P := PP, fn := 197, N := 123, tab := tab, results := [.cell 8 218], iter := fun _ => (.none, .none), dyn := fun _ => false, live := fun _ => none }
theorem K_r01_round : OkF X_r01_round B_r01_round Tryd.f197 := ⟨⟨tab_ok, mix_ok⟩, Tryd.func197, by kernel_rfl, by kernel_rfl, by kernel_rfl, by kernel_rfl⟩
theorem C_r01_round_eq (Q : Value → World → Prop) (a0 : Int) (a1 : Array Value) (a2 : Int) (a3 : Int) (w : World) (h :
  alC a1 218 w fun p1 w2 =>
  alZ PP 218 w2 fun p3 w4 =>
  (0 : Int) ≤ a0 ∧
  a0 < ((3 : Nat) : Int) ∧
  opnRow w4 ((⟨15, 0, none⟩ : Addr).add (Int.toNat a0 * 12)) (12 * 1) fun x5 =>
  alZ PP 279 w4 fun p6 w7 =>
  stRow p6 x5 (12 * 1) w7 fun w8 =>
  drw w8 fun w9 =>
  (0 : Int) ≤ 4 ∧
  4 < ((8 : Nat) : Int) ∧
  (0 : Int) ≤ 3 ∧
  3 < ((12 : Nat) : Int) ∧
  (0 : Int) ≤ 4 ∧
  4 < ((8 : Nat) : Int) ∧
  (0 : Int) ≤ 4 ∧
  4 < ((12 : Nat) : Int) ∧
  (0 : Int) ≤ 4 ∧
  4 < ((8 : Nat) : Int) ∧
  (0 : Int) ≤ 5 ∧
  5 < ((12 : Nat) : Int) ∧
  opnI .u64 (w9.cell? (p1.add (Int.toNat 4 * 1))) fun x10 =>
  opnI .u64 (w9.cell? (p6.add (Int.toNat 3 * 1))) fun x11 =>
  opnI .u64 (w9.cell? (p1.add (Int.toNat 4 * 1))) fun x12 =>
  opnI .u64 (w9.cell? (p6.add (Int.toNat 4 * 1))) fun x13 =>
  opnI .u64 (w9.cell? (p1.add (Int.toNat 4 * 1))) fun x14 =>
  opnI .u64 (w9.cell? (p6.add (Int.toNat 5 * 1))) fun x15 =>
  C_r01_turn #[.int .i64 a0, .int .u64 x10, .int .u64 x11] w9 fun v16 w17 =>
  opnI .u64 (some v16) fun x18 =>
  (opnI .u64 (w17.cell? (p6.add (Int.toNat 5 * 1))) fun x19 =>
  ((.int .u64 x19) : Value) = .int .u64 x15) ∧
  (opnI .u64 (w17.cell? (p1.add (Int.toNat 4 * 1))) fun x20 =>
  ((.int .u64 x20) : Value) = .int .u64 x14) ∧
  (opnI .u64 (w17.cell? (p6.add (Int.toNat 4 * 1))) fun x21 =>
  ((.int .u64 x21) : Value) = .int .u64 x13) ∧
  (opnI .u64 (w17.cell? (p1.add (Int.toNat 4 * 1))) fun x22 =>
  ((.int .u64 x22) : Value) = .int .u64 x12) ∧
  C_r01_turn #[.int .i64 a0, .int .u64 x12, .int .u64 x13] w17 fun v23 w24 =>
  opnI .u64 (some v23) fun x25 =>
  (opnI .u64 (w24.cell? (p6.add (Int.toNat 5 * 1))) fun x26 =>
  ((.int .u64 x26) : Value) = .int .u64 x15) ∧
  (opnI .u64 (w24.cell? (p1.add (Int.toNat 4 * 1))) fun x27 =>
  ((.int .u64 x27) : Value) = .int .u64 x14) ∧
  C_r01_turn #[.int .i64 a0, .int .u64 x14, .int .u64 x15] w24 fun v28 w29 =>
  opnI .u64 (some v28) fun x30 =>
  (0 : Int) ≤ 4 ∧
  4 < ((8 : Nat) : Int) ∧
  opnI .u64 (w29.cell? (p1.add (Int.toNat 4 * 1))) fun x31 =>
  (0 : Int) ≤ 5 ∧
  5 < ((8 : Nat) : Int) ∧
  opnI .u64 (w29.cell? (p1.add (Int.toNat 5 * 1))) fun x32 =>
  (0 : Int) ≤ 4 ∧
  4 < ((8 : Nat) : Int) ∧
  opnI .u64 (w29.cell? (p1.add (Int.toNat 4 * 1))) fun x33 =>
  (0 : Int) ≤ 6 ∧
  6 < ((8 : Nat) : Int) ∧
  opnI .u64 (w29.cell? (p1.add (Int.toNat 6 * 1))) fun x34 =>
  (0 : Int) ≤ 7 ∧
  7 < ((8 : Nat) : Int) ∧
  opnI .u64 (w29.cell? (p1.add (Int.toNat 7 * 1))) fun x35 =>
  drw w29 fun w36 =>
  (0 : Int) ≤ 0 ∧
  0 < ((8 : Nat) : Int) ∧
  (0 : Int) ≤ 0 ∧
  0 < ((12 : Nat) : Int) ∧
  (0 : Int) ≤ 0 ∧
  0 < ((8 : Nat) : Int) ∧
  (0 : Int) ≤ 1 ∧
  1 < ((12 : Nat) : Int) ∧
  (0 : Int) ≤ 0 ∧
  0 < ((8 : Nat) : Int) ∧
  (0 : Int) ≤ 2 ∧
  2 < ((12 : Nat) : Int) ∧
  opnI .u64 (w36.cell? (p1.add (Int.toNat 0 * 1))) fun x37 =>
  opnI .u64 (w36.cell? (p6.add (Int.toNat 0 * 1))) fun x38 =>
  opnI .u64 (w36.cell? (p1.add (Int.toNat 0 * 1))) fun x39 =>
  opnI .u64 (w36.cell? (p6.add (Int.toNat 1 * 1))) fun x40 =>
  opnI .u64 (w36.cell? (p1.add (Int.toNat 0 * 1))) fun x41 =>
  opnI .u64 (w36.cell? (p6.add (Int.toNat 2 * 1))) fun x42 =>
  C_r01_turn #[.int .i64 a0, .int .u64 x37, .int .u64 x38] w36 fun v43 w44 =>
  opnI .u64 (some v43) fun x45 =>
  (opnI .u64 (w44.cell? (p6.add (Int.toNat 2 * 1))) fun x46 =>
  ((.int .u64 x46) : Value) = .int .u64 x42) ∧
  (opnI .u64 (w44.cell? (p1.add (Int.toNat 0 * 1))) fun x47 =>
  ((.int .u64 x47) : Value) = .int .u64 x41) ∧
  (opnI .u64 (w44.cell? (p6.add (Int.toNat 1 * 1))) fun x48 =>
  ((.int .u64 x48) : Value) = .int .u64 x40) ∧
  (opnI .u64 (w44.cell? (p1.add (Int.toNat 0 * 1))) fun x49 =>
  ((.int .u64 x49) : Value) = .int .u64 x39) ∧
  C_r01_turn #[.int .i64 a0, .int .u64 x39, .int .u64 x40] w44 fun v50 w51 =>
  opnI .u64 (some v50) fun x52 =>
  (opnI .u64 (w51.cell? (p6.add (Int.toNat 2 * 1))) fun x53 =>
  ((.int .u64 x53) : Value) = .int .u64 x42) ∧
  (opnI .u64 (w51.cell? (p1.add (Int.toNat 0 * 1))) fun x54 =>
  ((.int .u64 x54) : Value) = .int .u64 x41) ∧
  C_r01_turn #[.int .i64 a0, .int .u64 x41, .int .u64 x42] w51 fun v55 w56 =>
  opnI .u64 (some v55) fun x57 =>
  (0 : Int) ≤ 0 ∧
  0 < ((8 : Nat) : Int) ∧
  opnI .u64 (w56.cell? (p1.add (Int.toNat 0 * 1))) fun x58 =>
  (0 : Int) ≤ 1 ∧
  1 < ((8 : Nat) : Int) ∧
  opnI .u64 (w56.cell? (p1.add (Int.toNat 1 * 1))) fun x59 =>
  (0 : Int) ≤ 0 ∧
  0 < ((8 : Nat) : Int) ∧
  opnI .u64 (w56.cell? (p1.add (Int.toNat 0 * 1))) fun x60 =>
  (0 : Int) ≤ 2 ∧
  2 < ((8 : Nat) : Int) ∧
  opnI .u64 (w56.cell? (p1.add (Int.toNat 2 * 1))) fun x61 =>
  (0 : Int) ≤ 1 ∧
  1 < ((8 : Nat) : Int) ∧
  opnI .u64 (w56.cell? (p1.add (Int.toNat 1 * 1))) fun x62 =>
  (0 : Int) ≤ 2 ∧
  2 < ((8 : Nat) : Int) ∧
  opnI .u64 (w56.cell? (p1.add (Int.toNat 2 * 1))) fun x63 =>
  drw w56 fun w64 =>
  (0 : Int) ≤ 0 ∧
  0 < ((8 : Nat) : Int) ∧
  (0 : Int) ≤ 1 ∧
  1 < ((8 : Nat) : Int) ∧
  (0 : Int) ≤ 2 ∧
  2 < ((8 : Nat) : Int) ∧
  (0 : Int) ≤ 3 ∧
  3 < ((8 : Nat) : Int) ∧
  (0 : Int) ≤ 4 ∧
  4 < ((8 : Nat) : Int) ∧
  (0 : Int) ≤ 5 ∧
  5 < ((8 : Nat) : Int) ∧
  (0 : Int) ≤ 6 ∧
  6 < ((8 : Nat) : Int) ∧
  opnI .u64 (w64.cell? (p1.add (Int.toNat 0 * 1))) fun x65 =>
  opnI .u64 (w64.cell? (p1.add (Int.toNat 1 * 1))) fun x66 =>
  opnI .u64 (w64.cell? (p1.add (Int.toNat 2 * 1))) fun x67 =>
  opnI .u64 (w64.cell? (p1.add (Int.toNat 3 * 1))) fun x68 =>
  opnI .u64 (w64.cell? (p1.add (Int.toNat 4 * 1))) fun x69 =>
  opnI .u64 (w64.cell? (p1.add (Int.toNat 5 * 1))) fun x70 =>
  opnI .u64 (w64.cell? (p1.add (Int.toNat 6 * 1))) fun x71 =>
  C_r01_word #[.int .i64 a0, .int .u64 (IntKind.wrap .u64 ((IntKind.wrap .u64 ((IntKind.wrap .u64 ((IntKind.wrap .u64 ((IntKind.wrap .u64 ((IntKind.wrap .u64 (x35 + (bits .xor .u64 (bits .xor .u64 x18 x25) x30))) + (bits .or .u64 (bits .and .u64 x31 x32) (bits .and .u64 (bits .xor .u64 (if IntKind.signed .u64 then -1 else IntKind.max .u64) x33) x34)))) + a2)) + a3)) + (bits .xor .u64 (bits .xor .u64 x45 x52) x57))) + (bits .or .u64 (bits .or .u64 (bits .and .u64 x58 x59) (bits .and .u64 x60 x61)) (bits .and .u64 x62 x63))))] w64 fun v72 w73 =>
  opnI .u64 (some v72) fun x74 =>
  (opnI .u64 (w73.cell? (p1.add (Int.toNat 6 * 1))) fun x75 =>
  ((.int .u64 x75) : Value) = .int .u64 x71) ∧
  (opnI .u64 (w73.cell? (p1.add (Int.toNat 5 * 1))) fun x76 =>
  ((.int .u64 x76) : Value) = .int .u64 x70) ∧
  (opnI .u64 (w73.cell? (p1.add (Int.toNat 4 * 1))) fun x77 =>
  ((.int .u64 x77) : Value) = .int .u64 x69) ∧
  (opnI .u64 (w73.cell? (p1.add (Int.toNat 3 * 1))) fun x78 =>
  ((.int .u64 x78) : Value) = .int .u64 x68) ∧
  (opnI .u64 (w73.cell? (p1.add (Int.toNat 2 * 1))) fun x79 =>
  ((.int .u64 x79) : Value) = .int .u64 x67) ∧
  (opnI .u64 (w73.cell? (p1.add (Int.toNat 1 * 1))) fun x80 =>
  ((.int .u64 x80) : Value) = .int .u64 x66) ∧
  (opnI .u64 (w73.cell? (p1.add (Int.toNat 0 * 1))) fun x81 =>
  ((.int .u64 x81) : Value) = .int .u64 x65) ∧
  C_r01_word #[.int .i64 a0, .int .u64 (IntKind.wrap .u64 (x68 + (IntKind.wrap .u64 ((IntKind.wrap .u64 ((IntKind.wrap .u64 ((IntKind.wrap .u64 (x35 + (bits .xor .u64 (bits .xor .u64 x18 x25) x30))) + (bits .or .u64 (bits .and .u64 x31 x32) (bits .and .u64 (bits .xor .u64 (if IntKind.signed .u64 then -1 else IntKind.max .u64) x33) x34)))) + a2)) + a3))))] w73 fun v82 w83 =>
  opnI .u64 (some v82) fun x84 =>
  (opnI .u64 (w83.cell? (p1.add (Int.toNat 6 * 1))) fun x85 =>
  ((.int .u64 x85) : Value) = .int .u64 x71) ∧
  (opnI .u64 (w83.cell? (p1.add (Int.toNat 5 * 1))) fun x86 =>
  ((.int .u64 x86) : Value) = .int .u64 x70) ∧
  (opnI .u64 (w83.cell? (p1.add (Int.toNat 4 * 1))) fun x87 =>
  ((.int .u64 x87) : Value) = .int .u64 x69) ∧
  (opnI .u64 (w83.cell? (p1.add (Int.toNat 2 * 1))) fun x88 =>
  ((.int .u64 x88) : Value) = .int .u64 x67) ∧
  (opnI .u64 (w83.cell? (p1.add (Int.toNat 1 * 1))) fun x89 =>
  ((.int .u64 x89) : Value) = .int .u64 x66) ∧
  (opnI .u64 (w83.cell? (p1.add (Int.toNat 0 * 1))) fun x90 =>
  ((.int .u64 x90) : Value) = .int .u64 x65) ∧
  semP PP (Instr.build 218 #[(0, .int .u64 x74), (1, .int .u64 x65), (2, .int .u64 x66), (3, .int .u64 x67), (4, .int .u64 x84), (5, .int .u64 x69), (6, .int .u64 x70), (7, .int .u64 x71)]) fun v91 =>
  opnG (some v91) fun x93 =>
  stRow p3 x93 (8 * 1) w83 fun w94 =>
  opnRow w94 p3 (8 * 1) fun x95 =>
  Q (.agg x95) w94) :
C_r01_round #[.int .i64 a0, .agg a1, .int .u64 a2, .int .u64 a3] w Q := C_fold K_r01_round (by kernel_rfl) h
/-! ### ledger/ledgerref01.word -/
noncomputable def B_r01_word : Code := match Tryd.f198.body with | some c => c | _ => .skip
noncomputable def X_r01_word : Cx := { P := PP, fn := 198, N := 10, tab := tab, results := [.tmp 4], iter := fun _ => (.none, .none), dyn := fun _ => false, live := fun _ => none }
theorem K_r01_word : OkF X_r01_word B_r01_word Tryd.f198 := ⟨⟨tab_ok, mix_ok⟩, Tryd.func198, by kernel_rfl, by kernel_rfl, by kernel_rfl, by kernel_rfl⟩
theorem C_r01_word_eq (Q : Value → World → Prop) (a0 : Int) (a1 : Int) (w : World) (h :
  cond (a0 == 1)
  (4294967296 ≠ (0 : Int) ∧
  Q (.int .u64 (Int.tmod a1 4294967296)) w)
  (Q (.int .u64 a1) w)) :
C_r01_word #[.int .i64 a0, .int .u64 a1] w Q := C_fold K_r01_word (by kernel_rfl) h
/-! ### ledger/ledgerref01.number -/
noncomputable def B_r01_number : Code := match Tryd.f203.body with | some c => c | _ => .skip
noncomputable def X_r01_number : Cx := { P := PP, fn := 203, N := 20, tab := tab, results := [.tmp 2], iter := fun _ => (.none, .none), dyn := fun _ => false, live := fun r => cond (Nat.beq r 3) (some [0, 3, 4]) (none) }
theorem K_r01_number : OkF X_r01_number B_r01_number Tryd.f203 := ⟨⟨tab_ok, mix_ok⟩, Tryd.func203, by kernel_rfl, by kernel_rfl, by kernel_rfl, by kernel_rfl⟩
noncomputable def N_r01_number.j3 (Q : Value → World → Prop) (s0 : Option Addr) (s0n : Nat) (s0c : Nat) (s3 : Int) (s4 : Int) (w : World) : Prop := Nd X_r01_number Q [(0, 0, .slice s0 s0n s0c), (3, 3, .int .u64 s3), (4, 4, .int .i64 s4)] [.code (B_r01_number.r.r.l.r.l.l.l.l), .code (B_r01_number.r.r.l.r.l.l.l.r), .code (B_r01_number.r.r.l.r.l.l.r), .inLoop (B_r01_number.r.r.l.r.l.l), .inBlock 0, .code (B_r01_number.r.r.r)] w
theorem N_r01_number.j3_eq (Q : Value → World → Prop) (s0 : Option Addr) (s0n : Nat) (s0c : Nat) (s3 : Int) (s4 : Int) (w : World) (h :
  cond (decide (s4 < ((s0n : Nat) : Int)))
  ((0 : Int) ≤ s4 ∧
  s4 < ((s0n : Nat) : Int) ∧
  opnA s0 fun ad1 =>
  opnI .u8 (w.cell? (ad1.add (Int.toNat s4 * 1))) fun x2 =>
  N_r01_number.j3 Q s0 s0n s0c (IntKind.wrap .u64 ((IntKind.wrap .u64 (s3 * 256)) + (IntKind.wrap .u64 x2))) (IntKind.wrap .i64 (s4 + 1)) w)
  (Q (.int .u64 s3) w)) :
N_r01_number.j3 Q s0 s0n s0c s3 s4 w := Nd_fold K_r01_number (by kernel_rfl) h
theorem C_r01_number_eq (Q : Value → World → Prop) (a0 : Option Addr) (a0n : Nat) (a0c : Nat) (w : World) (h :
  N_r01_number.j3 Q a0 a0n a0c 0 0 w) :
C_r01_number #[.slice a0 a0n a0c] w Q := C_fold K_r01_number (by kernel_rfl) h
/-! ### ledger/ledgerref01.turn -/
noncomputable def B_r01_turn : Code := match Tryd.f204.body with | some c => c | _ => .skip
noncomputable def X_r01_turn : Cx := { P := PP, fn := 204, N := 23, tab := tab, results := [.tmp 6], iter := fun _ => (.none, .none), dyn := fun _ => false, live := fun _ => none }
theorem K_r01_turn : OkF X_r01_turn B_r01_turn Tryd.f204 := ⟨⟨tab_ok, mix_ok⟩, Tryd.func204, by kernel_rfl, by kernel_rfl, by kernel_rfl, by kernel_rfl⟩
theorem C_r01_turn_eq (Q : Value → World → Prop) (a0 : Int) (a1 : Int) (a2 : Int) (w : World) (h :
  C_r01_wide #[.int .i64 a0] w fun v1 w2 =>
  opnI .i64 (some v1) fun x3 =>
  nn a2 (
  nn (IntKind.wrap .u64 ((IntKind.wrap .u64 (IntKind.wrap .i64 (8 * x3))) - a2)) (
  C_r01_word #[.int .i64 a0, .int .u64 (IntKind.wrap .u64 ((shrI .u64 a1 a2) + (shlI .u64 a1 (IntKind.wrap .u64 ((IntKind.wrap .u64 (IntKind.wrap .i64 (8 * x3))) - a2)))))] w2 fun v4 w5 =>
  opnI .u64 (some v4) fun x6 =>
  Q (.int .u64 x6) w5))) :
C_r01_turn #[.int .i64 a0, .int .u64 a1, .int .u64 a2] w Q := C_fold K_r01_turn (by kernel_rfl) h
end Go.Proofs.YtccjncflbbhldaaDoor
/-! ## ShL1 -/
namespace Go.Sh
open Go.ChangeShapes

/-- From w to w' nothing has changed but blocks of D and new ones. -/
structure Chg (D : Nat → Prop) (w w' : World) : Prop where
  os : w'.os = w.os
  tape : w'.tape = w.tape
  output : w'.output = w.output
  size : w.heap.size ≤ w'.heap.size
  block : ∀ k, k < w.heap.size → ¬ D k → w'.heap[k]? = w.heap[k]?
theorem Chg.refl (D : Nat → Prop) (w : World) : Chg D w w := ⟨rfl, rfl, rfl, Nat.le_refl _, fun _ _ _ => rfl⟩
theorem Chg.trans {D D' E : Nat → Prop} {a b c : World} (h : Chg D a b) (k : Chg D' b c) (h1 : ∀ x, x < a.heap.size → D x → E x) (h2 : ∀ x, x < a.heap.size → D' x → E x) : Chg E a c :=
  ⟨k.os.trans h.os, k.tape.trans h.tape, k.output.trans h.output, Nat.le_trans h.size k.size, fun i hi hn => (k.block i (Nat.lt_of_lt_of_le hi h.size) fun hd => hn (h2 i hi hd)).trans (h.block i hi fun hd => hn (h1 i hi hd))⟩
theorem Chg.mono {D E : Nat → Prop} {a b : World} (h : Chg D a b) (h1 : ∀ x, x < a.heap.size → D x → E x) : Chg E a b := ⟨h.os, h.tape, h.output, h.size, fun k hk hn => h.block k hk fun hd => hn (h1 k hk hd)⟩
/-- Blocks from B on. -/
abbrev Fr (B : Nat) := Chg (fun k => B ≤ k)
theorem Fr.trans {B : Nat} {a b c : World} (h : Fr B a b) (k : Fr B b c) : Fr B a c := Chg.trans h k (fun _ _ h => h) (fun _ _ h => h)
theorem Fr.of {D : Nat → Prop} {B : Nat} {a b : World} (h : Chg D a b) (hd : ∀ k, D k → B ≤ k) : Fr B a b := h.mono fun k _ h => hd k h
theorem Fr.below {B : Nat} {a b : World} (h : Fr B a b) (hB : B ≤ a.heap.size) : Go.RowKit.Below B a b := ⟨h.os, h.tape, h.output, h.size, fun k hk => h.block k (by omega) (by omega)⟩
theorem Fr.mono {B B' : Nat} {a b : World} (h : Fr B a b) (hB : B' ≤ B) : Fr B' a b := Chg.mono h fun _ _ h => Nat.le_trans hB h
/-- nothing old -/
abbrev None : Nat → Prop := fun _ => False
theorem Chg.fr {B : Nat} {a b : World} (h : Chg None a b) : Fr B a b := h.mono fun _ _ h => h.elim
theorem Chg.drew {D : Nat → Prop} {a w : World} (h : Chg D a w) : Chg D a w.drew := ⟨h.os, h.tape, h.output, h.size, h.block⟩
theorem Chg.drew0 {D : Nat → Prop} (w : World) : Chg D w w.drew := (Chg.refl D w).drew
theorem chg_alloc {D : Nat → Prop} (w : World) (o : Obj) : Chg D w (w.alloc o) := ⟨rfl, rfl, rfl, by simp, fun k hk _ => Go.RowKit.Below.heap_alloc w o k hk⟩
theorem chg_setCell {w : World} {p : Addr} {v : Value} : Chg (fun k => k = p.block) w (w.setCell p v) := ⟨rfl, rfl, rfl, by simp [World.setCell], fun k _ hn => Go.RowKit.Below.heap_setCell w p v k hn⟩

/-- Block b is a row of cells l, none of them frozen. -/
def Blk (w : World) (b : Nat) (t : TypeId) (l : List Value) : Prop := ∃ fr : Nat × Nat, w.heap[b]? = some (.cells l.toArray t fr) ∧ ∀ i, i < l.length → ¬ (fr.1 ≤ i ∧ i < fr.2)
section
variable {w w' : World} {b : Nat} {t : TypeId} {l : List Value}
theorem Blk.lt (h : Blk w b t l) : b < w.heap.size := by obtain ⟨_, h, _⟩ := h; exact (Array.getElem?_eq_some_iff.1 h).1
theorem Blk.cell (h : Blk w b t l) (j : Nat) : w.cell? ⟨b, j, none⟩ = l[j]? := by obtain ⟨_, h, _⟩ := h; simp [World.cell?, h]
theorem Blk.thaw (h : Blk w b t l) {j : Nat} (hj : j < l.length) : w.frozen? ⟨b, j, none⟩ = false := by
  obtain ⟨fr, h, hf⟩ := h
  have := hf j hj
  simp only [World.frozen?, h]
  cases h1 : decide (fr.1 ≤ j) <;> simp_all
theorem Blk.chg {D : Nat → Prop} (h : Blk w b t l) (c : Chg D w w') (hd : ¬ D b) : Blk w' b t l := by
  have hlt := h.lt
  obtain ⟨fr, h, hf⟩ := h
  exact ⟨fr, by rw [c.block b hlt hd]; exact h, hf⟩
theorem blk_alloc {cs : Array Value} : Blk (w.alloc (.cells cs t)) w.heap.size t cs.toList := ⟨(0, 0), by show (w.heap.push _)[w.heap.size]? = _; simp, fun i _ => by simp⟩
theorem Blk.set (h : Blk w b t l) (j : Nat) (v : Value) : Blk (w.setCell ⟨b, j, none⟩ v) b t (l.set j v) := by
  have hlt := h.lt
  obtain ⟨fr, h, hf⟩ := h
  refine ⟨fr, ?_, fun i hi => hf i (by simpa using hi)⟩
  simp only [World.setCell, Array.getElem?_modify, if_pos, h, Option.map_some, Option.isSome_none, Bool.false_eq_true, if_false]
  congr 2
  exact Array.ext' (by simp)
/-- A store into an own block. -/
theorem Blk.store (h : Blk w b t l) {j : Nat} (hj : j < l.length) {v : Value} (hv : v.oneCell' = true) {K : World → Prop} (hK : Blk (w.setCell ⟨b, j, none⟩ v) b t (l.set j v) → Chg (fun k => k = b) w (w.setCell ⟨b, j, none⟩ v) → K (w.setCell ⟨b, j, none⟩ v)) : stC ⟨b, j, none⟩ v w K :=
  ⟨hv, by rw [h.cell j]; simp [hj], h.thaw hj, hK (h.set j v) (chg_setCell (p := ⟨b, j, none⟩))⟩
theorem Blk.setCells (h : Blk w b t l) : ∀ (vs : List Value) (o : Nat), o + vs.length ≤ l.length → Blk (w.setCells b o vs) b t (l.take o ++ vs ++ l.drop (o + vs.length)) ∧ Chg (fun k => k = b) w (w.setCells b o vs) := by
  intro vs
  induction vs generalizing w l with
  | nil => intro o _; exact ⟨by simpa [World.setCells] using h, Chg.refl _ _⟩
  | cons v r ih =>
    intro o ho
    simp only [List.length_cons] at ho
    obtain ⟨h1, h2⟩ := ih (h.set o v) (o + 1) (by simp; omega)
    refine ⟨?_, Chg.trans (chg_setCell (p := ⟨b, o, none⟩)) h2 (fun _ _ h => h) (fun _ _ h => h)⟩
    have e : (l.set o v).take (o + 1) ++ r ++ (l.set o v).drop (o + 1 + r.length) = l.take o ++ (v :: r) ++ l.drop (o + (v :: r).length) := by
      rw [take_set_next l o (by omega), List.drop_set_of_lt (by omega)]
      simp [Nat.add_assoc, Nat.add_comm 1]
    rw [e] at h1; exact h1
end

/-- What lies behind an address: the values l, in blocks of S. -/
def Lies (w : World) (S : Nat → Prop) (a : Option Addr) (l : List Value) : Prop := ∀ j v, l[j]? = some v → ∃ p, a = some p ∧ S p.block ∧ w.cell? (p.add j) = some v
section
variable {w w' : World} {S S' : Nat → Prop} {a : Option Addr} {l : List Value}
theorem Lies.nil : Lies w S a [] := fun j v h => by simp at h
theorem Lies.mono (h : Lies w S a l) (hs : ∀ k, S k → S' k) : Lies w S' a l := fun j v hj => let ⟨p, h1, h2, h3⟩ := h j v hj; ⟨p, h1, hs _ h2, h3⟩
theorem Lies.chg {D : Nat → Prop} (h : Lies w S a l) (c : Chg D w w') (hd : ∀ k, k < w.heap.size → S k → ¬ D k) : Lies w' S a l := fun j v hj => by
  obtain ⟨p, h1, h2, h3⟩ := h j v hj
  refine ⟨p, h1, h2, ?_⟩
  have hb := World.block_lt_of_cell? _ _ h3
  rw [block_add] at hb
  rw [World.cell?_of_block (w := w) (by rw [block_add]; exact c.block _ hb (hd _ hb h2))]
  exact h3
theorem Lies.take (h : Lies w S a l) (n : Nat) : Lies w S a (l.take n) := fun j v hj => h j v (by rw [List.getElem?_take] at hj; split at hj; exact hj; cases hj)
theorem add_add' (a : Addr) (i j : Nat) : (a.add i).add j = a.add (i + j) := Go.Deep.add_add a i j
theorem Lies.drop (h : Lies w S a l) (n : Nat) : Lies w S (a.map (·.add n)) (l.drop n) := fun j v hj => by
  rw [List.getElem?_drop] at hj
  obtain ⟨p, rfl, h2, h3⟩ := h _ v hj
  exact ⟨p.add n, rfl, by rw [block_add]; exact h2, by rw [add_add']; exact h3⟩
theorem Lies.slA (h : Lies w S a l) (n m : Nat) : Lies w S (Sh.slA a n m 1) (if m = n then [] else l.drop n) := by
  unfold Sh.slA
  split
  · exact Lies.nil
  · rw [Nat.mul_one]; exact h.drop n
theorem Blk.lies {b : Nat} {t : TypeId} (h : Blk w b t l) (hS : S b) : Lies w S (some ⟨b, 0, none⟩) l := fun j v hj => ⟨_, rfl, hS, by rw [Addr.add_lit, Nat.zero_add, h.cell]; exact hj⟩
end
end Go.Sh
/-! ## ShL2 -/
namespace Go.Sh
open Go.ChangeShapes
variable {P : Program}

/-- t is a type of slices; its elements: type e, sz cells, by bytes. -/
structure SlT (P : Program) (t e sz by_ : Nat) : Prop where
  ht : P.underlying t = some (.slice e)
  info : (P.info? e).map (fun i => (i.zero.map (·.cells.size), i.size, i.bytes)) = some (some sz, sz, by_)
theorem SlT.get {t e sz by_ : Nat} (h : SlT P t e sz by_) : ∃ i z, P.info? e = some i ∧ i.zero = some z ∧ i.size = sz ∧ i.bytes = by_ ∧ z.cells.size = sz := by
  obtain ⟨i, hi, h⟩ := Option.map_eq_some_iff.1 h.info
  simp only [Prod.mk.injEq] at h
  obtain ⟨hz, hs, hb⟩ := h
  obtain ⟨z, hz, hc⟩ := Option.map_eq_some_iff.1 hz
  exact ⟨i, z, hi, hz, hs, hb, hc⟩

/-- A slice of one's own: a, n, c: its cells l (n elements of sz cells), alone in its block. -/
structure Own (w : World) (e sz : Nat) (a : Option Addr) (n c : Nat) (l : List Value) : Prop where
  len : l.length = n * sz
  row : (a = .none ∧ n = 0 ∧ c = 0) ∨ ∃ b rest, a = some ⟨b, 0, .none⟩ ∧ Blk w b e (l ++ rest) ∧ c * sz ≤ (l ++ rest).length ∧ n ≤ c
/-- The block of a slice. -/
def At (a : Option Addr) : Nat → Prop := fun k => ∃ p, a = some p ∧ p.block = k
section
variable {w w' : World} {e sz n c : Nat} {a : Option Addr} {l : List Value}
theorem Own.nil : Own w e sz .none 0 0 [] := ⟨by simp, .inl ⟨rfl, rfl, rfl⟩⟩
theorem Own.le (h : Own w e sz a n c l) : n ≤ c := by rcases h.row with ⟨_, h1, h2⟩ | ⟨_, _, _, _, _, h⟩ <;> omega
theorem Own.chg {D : Nat → Prop} (h : Own w e sz a n c l) (k : Chg D w w') (hd : ∀ x, At a x → ¬ D x) : Own w' e sz a n c l :=
  ⟨h.len, h.row.imp id fun ⟨b, rest, h1, h2, h3, h4⟩ => ⟨b, rest, h1, h2.chg k (hd b ⟨_, h1, rfl⟩), h3, h4⟩⟩
theorem Own.tight (h : Own w e sz a n c l) : Own w e sz a n n l :=
  ⟨h.len, h.row.imp (fun ⟨h1, h2, _⟩ => ⟨h1, h2, h2⟩) fun ⟨b, rest, h1, h2, h3, h4⟩ => ⟨b, rest, h1, h2, by rw [List.length_append, h.len]; omega, Nat.le_refl _⟩⟩
theorem Own.lies (h : Own w e sz a n c l) : Lies w (At a) a l := by
  rcases h.row with ⟨h1, h2, h3⟩ | ⟨b, rest, h1, h2, h3, h4⟩
  · have : l = [] := List.eq_nil_of_length_eq_zero (by rw [h.len, h2, Nat.zero_mul])
    subst this; exact Lies.nil
  · subst h1
    have := (h2.lies (S := At (some ⟨b, 0, .none⟩)) ⟨_, rfl, rfl⟩).take l.length
    rwa [List.take_left] at this
theorem Own.lt (h : Own w e sz a n c l) {k : Nat} (hk : At a k) : k < w.heap.size := by
  obtain ⟨p, rfl, rfl⟩ := hk
  rcases h.row with ⟨h1, _⟩ | ⟨b, rest, h1, h2, h3, h4⟩
  · cases h1
  · cases h1; exact h2.lt
end

/-- Where the appended cells come from. -/
theorem src_two {w : World} {tx e' : Nat} (hk : P.underlying tx = some (.slice e')) {vs : List Value} {n c : Nat} {sz t : Nat} (hl : vs.length = n * sz) (h1 : ∀ u ∈ vs, u.oneCell' = true) : Src P sz tx (.slice (some ⟨w.heap.size, 0, .none⟩) n c) n vs (w.alloc (.cells vs.toArray t)) :=
  Src.ofSlice _ hk _ n c vs hl (fun j u hj => by
    rw [Addr.add_lit, Nat.zero_add]
    rw [(blk_alloc (w := w) (t := t) (cs := vs.toArray)).cell j]; exact hj) h1
theorem src_lies {w : World} {S : Nat → Prop} {tx e' sz : Nat} (hk : P.underlying tx = some (.slice e')) {a : Option Addr} {n c : Nat} {vs : List Value} (h : Lies w S a vs) (hl : vs.length = n * sz) (hz : n = 0 ∨ 0 < sz) (h1 : ∀ u ∈ vs, u.oneCell' = true) : Src P sz tx (.slice a n c) n vs w := by
  cases a with
  | some p => exact Src.ofSlice _ hk p n c vs hl (fun j u hj => by obtain ⟨q, hq, _, hc⟩ := h j u hj; cases hq; exact hc) h1
  | none =>
    have : vs = [] := by
      cases vs with
      | nil => rfl
      | cons v r => obtain ⟨_, hq, _⟩ := h 0 v rfl; cases hq
    subst this
    have hn : n = 0 := by
      rcases hz with h | h
      · exact h
      · have : n * sz = 0 := by simpa using hl.symm
        rcases Nat.mul_eq_zero.1 this with h' | h' <;> omega
    subst hn
    exact Src.ofNil _ hk c

theorem append_own' {t tx ty e sz by_ : Nat} (T : SlT P t e sz by_) {w : World} {a : Option Addr} {n c : Nat} {l : List Value} (h : Own w e sz a n c l) {x : Value} {m : Nat} {news : List Value} (hs : Src P sz tx x m news w)
    (h63 : n + m ≤ maxLen) (hb : (n + m) * by_ ≤ 140737488355328) {K : Value → World → Prop}
    (hK : ∀ a' c' w', Own w' e sz a' (n + m) c' (l ++ news) → Chg (At a) w w' → (a' = a ∨ ∃ b, a' = some ⟨b, 0, .none⟩ ∧ w.heap.size ≤ b ∧ Chg None w w') → K (.slice a' (n + m) c') w') :
    sem P (Builtin.append_ #[t, tx] ty #[.slice a n c, x]) w K := by
  obtain ⟨i, z, hi, hz, rfl, rfl, hzs⟩ := T.get
  have hlen : (l ++ news).length = (n + m) * i.size := by rw [List.length_append, h.len, hs.newsLen, Nat.add_mul]
  have room : n + m ≤ c → sem P (Builtin.append_ #[t, tx] ty #[.slice a n c, x]) w K := by
    intro hr
    rcases h.row with ⟨rfl, h2, h3⟩ | ⟨b, rest, rfl, h2, h3, h4⟩
    · obtain rfl : m = 0 := by omega
      subst h2; subst h3
      have hn : news = [] := List.eq_nil_of_length_eq_zero (by rw [hs.newsLen, Nat.zero_mul])
      subst hn
      unfold sem
      rw [run_append_nothing w t tx ty e i T.ht hi .none 0 0 (Nat.le_refl _) x hs]
      exact hK .none 0 w (by simpa using h) (Chg.refl _ _) (.inl rfl)
    · have hlr : l.length + news.length ≤ (l ++ rest).length := by
        refine Nat.le_trans ?_ h3
        rw [h.len, hs.newsLen, ← Nat.add_mul]; exact Nat.mul_le_mul_right _ hr
      have hcell : ∀ j, j < news.length → 0 + n * i.size + j < (l ++ rest).length := fun j hj => by rw [Nat.zero_add, ← h.len]; omega
      have hrun := run_append_room_src (P := P) w t tx ty e i T.ht hi b 0 n c x m news hs hr
        (fun j hj => by rw [h2.cell, List.getElem?_eq_getElem (hcell j hj)]; rfl) (fun j hj => h2.thaw (hcell j hj))
      unfold sem
      rw [hrun]
      obtain ⟨g1, g2⟩ := h2.setCells news (0 + n * i.size) (by rw [Nat.zero_add, ← h.len]; omega)
      have e1 : (l ++ rest).take (0 + n * i.size) = l := by rw [Nat.zero_add, ← h.len, List.take_left]
      rw [e1] at g1
      refine hK _ c _ ⟨hlen, .inr ⟨b, (l ++ rest).drop (0 + n * i.size + news.length), rfl, g1, ?_, hr⟩⟩ (g2.mono fun k _ hk => ⟨_, rfl, hk.symm⟩) (.inl rfl)
      rw [Nat.zero_add, ← h.len]
      simp only [List.length_append, List.length_drop] at hlr h3 ⊢
      omega
  by_cases hr : n + m ≤ c
  · exact room hr
  · have hold : (Builtin.firstCells i.size n (.slice a n c)).run P w.drew = .ok l.toArray w.drew := by
      rcases h.row with ⟨rfl, h2, h3⟩ | ⟨b, rest, rfl, h2, h3, h4⟩
      · have : l = [] := List.eq_nil_of_length_eq_zero (by rw [h.len, h2, Nat.zero_mul])
        subst this; exact run_firstCells_none _ _ _ _ _
      · refine run_firstCells_some w.drew i.size n ⟨b, 0, .none⟩ n c l h.len fun j u hj => ?_
        rw [Addr.add_lit, Nat.zero_add]
        show w.cell? _ = _
        rw [h2.cell, List.getElem?_append_left (List.getElem?_eq_some_iff.1 hj).1]; exact hj
    have hmx : n + m ≤ 9223372036854775807 := by simpa [maxLen] using h63
    have hrun := run_append_grow_src (P := P) w t tx ty e i z T.ht hi hz a n c l hold x m news hs (by omega) (by omega) (growslice_fits (by omega) hb)
    unfold sem
    rw [hrun]
    have hge := grownCap_ge w (n + m) c e
    have kn : Chg None w (w.drew.alloc (.cells ((l ++ news).toArray ++ Builtin.zeroCells z.cells (grownCap w (n + m) c e - (n + m))) e)) := Chg.trans (Chg.drew0 (D := None) w) (chg_alloc (D := None) _ _) (fun _ _ h => h.elim) (fun _ _ h => h.elim)
    refine hK _ _ _ ⟨hlen, .inr ⟨w.heap.size, (Builtin.zeroCells z.cells (grownCap w (n + m) c e - (n + m))).toList, rfl, ?_, ?_, hge⟩⟩ (kn.mono fun _ _ h => h.elim) (.inr ⟨_, rfl, Nat.le_refl _, kn⟩)
    · have := blk_alloc (w := w.drew) (t := e) (cs := (l ++ news).toArray ++ Builtin.zeroCells z.cells (grownCap w (n + m) c e - (n + m)))
      simpa using this
    · rw [List.length_append, hlen, Array.length_toList, size_zeroCells, hzs, ← Nat.add_mul]
      exact Nat.mul_le_mul_right _ (by omega)
theorem append_own {t tx ty e sz by_ : Nat} (T : SlT P t e sz by_) {w : World} {a : Option Addr} {n c : Nat} {l : List Value} (h : Own w e sz a n c l) {x : Value} {m : Nat} {news : List Value} (hs : Src P sz tx x m news w)
    (h63 : n + m ≤ maxLen) (hb : (n + m) * by_ ≤ 140737488355328) {K : Value → World → Prop}
    (hK : ∀ a' c' w', Own w' e sz a' (n + m) c' (l ++ news) → Chg (At a) w w' → (a' = a ∨ ∃ b, a' = some ⟨b, 0, .none⟩ ∧ w.heap.size ≤ b) → K (.slice a' (n + m) c') w') :
    sem P (Builtin.append_ #[t, tx] ty #[.slice a n c, x]) w K :=
  append_own' T h hs h63 hb fun a' c' w' o k f => hK a' c' w' o k (f.imp id fun ⟨b, h1, h2, _⟩ => ⟨b, h1, h2⟩)

/-! ### bytes -/
def bv (b : UInt8) : Value := .int .u8 (b.toNat : Int)
def bvs (l : List UInt8) : List Value := l.map bv
theorem bvs_one {l : List UInt8} : ∀ u ∈ bvs l, u.oneCell' = true := fun u hu => by obtain ⟨b, _, rfl⟩ := List.mem_map.1 hu; rfl
theorem bvs_get {l : List UInt8} {j : Nat} (h : j < l.length) : (bvs l)[j]? = some (bv l[j]) := by simp [bvs, h]
theorem bvs_app (l r : List UInt8) : bvs (l ++ r) = bvs l ++ bvs r := List.map_append
@[simp] theorem bvs_len (l : List UInt8) : (bvs l).length = l.length := List.length_map _
/-- A byte, read. -/
theorem read_byte {w : World} {S : Nat → Prop} {a : Option Addr} {l : List UInt8} (h : Lies w S a (bvs l)) {j : Nat} (hj : j < l.length) {K : Int → Prop} (hK : K (l[j].toNat : Int)) : opnA a fun ad => opnI .u8 (w.cell? (ad.add (j * 1))) K := by
  obtain ⟨p, rfl, _, hc⟩ := h j _ (bvs_get hj)
  simp only [opnA, Nat.mul_one, hc, opnI, bv]
  exact ⟨trivial, hK⟩
/-- string(b) -/
theorem to_string {src dst e : Nat} (hs : P.underlying src = some (.slice e)) (he : P.underlying e = some (.int .u8)) (hd : P.underlying dst = some .string) {w : World} {S : Nat → Prop} {a : Option Addr} {c : Nat} {l : List UInt8} (h : Lies w S a (bvs l)) {K : Value → Prop} (hK : K (.string ⟨l.toArray⟩)) : semR P (convert src dst (.slice a l.length c)) w K := by
  unfold semR
  cases a with
  | some p =>
    rw [run_convert_bytes_back w src dst e p c l hs he hd (fun j hj => by obtain ⟨q, hq, _, hc⟩ := h j _ (bvs_get hj); cases hq; exact hc)]
    exact ⟨rfl, hK⟩
  | none =>
    have : l = [] := by
      cases l with
      | nil => rfl
      | cons v r => obtain ⟨_, hq, _⟩ := h 0 (bv v) rfl; cases hq
    subst this
    rw [run_convert_bytes_string w src dst e .none _ c hs he hd]
    exact ⟨rfl, hK⟩
/-- []byte(s) -/
theorem of_string {src dst e : Nat} (hs : P.underlying src = some .string) (hd : P.underlying dst = some (.slice e)) (he : P.underlying e = some (.int .u8)) {w : World} {l : List UInt8} {K : Value → World → Prop}
    (hK : ∀ b c w', Own w' e 1 (some ⟨b, 0, .none⟩) l.length c (bvs l) → Chg None w w' → w.heap.size ≤ b → K (.slice (some ⟨b, 0, .none⟩) l.length c) w') : sem P (convert src dst (.string ⟨l.toArray⟩)) w K := by
  unfold sem
  rw [run_bytes_of_string w src dst e ⟨l.toArray⟩ hs hd he]
  have hsz : (⟨l.toArray⟩ : ByteArray).size = l.length := by simp [ByteArray.size]
  have hge := grownCap_ge w l.length 0 e
  simp only [hsz]
  refine hK _ _ _ ⟨by simp, .inr ⟨w.heap.size, List.replicate (grownCap w l.length 0 e - l.length) (.int .u8 0), rfl, ?_, by simp; omega, hge⟩⟩ (Chg.trans (Chg.drew0 (D := None) w) (chg_alloc (D := None) _ _) (fun _ _ h => h.elim) (fun _ _ h => h.elim)) (Nat.le_refl _)
  refine ⟨((bytesRow ⟨l.toArray⟩ (grownCap w l.length 0 e)).size, (bytesRow ⟨l.toArray⟩ (grownCap w l.length 0 e)).size + 1), ?_, ?_⟩
  · show (w.heap.push _)[w.heap.size]? = _
    simp only [Array.getElem?_push_size]
    congr 2
    apply Array.ext'
    simp [bytesRow, bvs, bv, hsz]
  · intro i hi
    have : (bytesRow ⟨l.toArray⟩ (grownCap w l.length 0 e)).size = (bvs l ++ List.replicate (grownCap w l.length 0 e - l.length) (Value.int .u8 0)).length := by simp [bytesRow, hsz]
    rw [this]; omega
end Go.Sh
/-! ## ShL3 -/
namespace Go.Sh
open Go.ChangeShapes
variable {P : Program}

/-- What a [][]byte tells. -/
def Recs (w : World) (S : Nat → Prop) (a : Option Addr) (rs : List (List UInt8)) : Prop :=
  ∀ (j : Nat) (r : List UInt8), rs[j]? = some r → ∃ p q c, a = some p ∧ S p.block ∧ w.cell? (p.add j) = some (.slice q r.length c) ∧ r.length ≤ c ∧ Lies w S q (bvs r)
section
variable {w w' : World} {S : Nat → Prop} {a : Option Addr} {rs : List (List UInt8)}
theorem Recs.chg {D : Nat → Prop} (h : Recs w S a rs) (k : Chg D w w') (hd : ∀ x, x < w.heap.size → S x → ¬ D x) : Recs w' S a rs := fun j r hj => by
  obtain ⟨p, q, c, h1, h2, h3, h4, h5⟩ := h j r hj
  refine ⟨p, q, c, h1, h2, ?_, h4, h5.chg k hd⟩
  have hb := World.block_lt_of_cell? _ _ h3
  rw [block_add] at hb
  rw [World.cell?_of_block (w := w) (by rw [block_add]; exact k.block _ hb (hd _ hb h2))]
  exact h3
theorem Recs.mono {S' : Nat → Prop} (h : Recs w S a rs) (hs : ∀ k, S k → S' k) : Recs w S' a rs := fun j r hj => by
  obtain ⟨p, q, c, h1, h2, h3, h4, h5⟩ := h j r hj
  exact ⟨p, q, c, h1, hs _ h2, h3, h4, h5.mono hs⟩
theorem Recs.chg0 (h : Recs w S a rs) (k : Chg None w w') : Recs w' S a rs := h.chg k (fun _ _ _ h => h)
theorem Lies.chg0 {l : List Value} (h : Lies w S a l) (k : Chg None w w') : Lies w' S a l := h.chg k (fun _ _ _ h => h)
theorem Own.chg0 {e sz n c : Nat} {l : List Value} (h : Own w e sz a n c l) (k : Chg None w w') : Own w' e sz a n c l := h.chg k (fun _ _ h => h)
/-- A record, read. -/
theorem read_rec (h : Recs w S a rs) {j : Nat} {r : List UInt8} (hj : rs[j]? = some r) {K : Option Addr → Nat → Nat → Prop} (hK : ∀ q c, r.length ≤ c → Lies w S q (bvs r) → K q r.length c) : opnA a fun ad => opnL (w.cell? (ad.add (j * 1))) K := by
  obtain ⟨p, q, c, rfl, _, h3, h4, h5⟩ := h j r hj
  simp only [opnA, Nat.mul_one, h3, opnL]
  exact hK q c h4 h5
theorem read_rec0 {w0 : World} (h : Recs w0 S a rs) (k : Chg None w0 w) {j : Nat} {r : List UInt8} (hj : rs[j]? = some r) {K : Option Addr → Nat → Nat → Prop} (hK : ∀ q c, r.length ≤ c → Lies w0 S q (bvs r) → K q r.length c) : opnA a fun ad => opnL (w.cell? (ad.add (j * 1))) K := by
  obtain ⟨p, q, c, rfl, h2, h3, h4, h5⟩ := h j r hj
  have hb := World.block_lt_of_cell? _ _ h3
  rw [block_add] at hb
  have h6 : w.cell? (p.add j) = some (.slice q r.length c) := by
    rw [World.cell?_of_block (w := w0) (by rw [block_add]; exact k.block _ hb (fun h => h))]; exact h3
  simp only [opnA, Nat.mul_one, h6, opnL]
  exact hK q c h4 h5
end
theorem src_pair {w : World} {tx e' t : Nat} (hk : P.underlying tx = some (.slice e')) (x y : UInt8) : Src P 1 tx (.slice (some ⟨w.heap.size, 0, .none⟩) 2 2) 2 (bvs [x, y]) (w.alloc (.cells #[bv x, bv y] t)) := src_two (vs := bvs [x, y]) hk rfl bvs_one
theorem src_bytes {w : World} {S : Nat → Prop} {tx e' : Nat} (hk : P.underlying tx = some (.slice e')) {a : Option Addr} {c : Nat} {l : List UInt8} (h : Lies w S a (bvs l)) : Src P 1 tx (.slice a l.length c) l.length (bvs l) w := src_lies hk h (by simp) (.inr (by decide)) bvs_one
theorem Chg.none_trans {a b c : World} (h : Chg None a b) (k : Chg None b c) : Chg None a c := Chg.trans h k (fun _ _ h => h) (fun _ _ h => h)
/-- A change of own, new blocks alone. -/
theorem Chg.fresh {D : Nat → Prop} {a b c : World} (h : Chg None a b) (k : Chg D b c) (hd : ∀ x, D x → a.heap.size ≤ x) : Chg None a c := Chg.trans h k (fun _ _ h => h) (fun x hx h => absurd (hd x h) (by omega))
theorem wrap_id {n : Int} (h0 : -9223372036854775808 ≤ n) (h1 : n < 9223372036854775808) : IntKind.wrap .i64 n = n := by rw [IntKind.wrap_i64]; omega
theorem wrap_nat {n : Nat} (h1 : n < 9223372036854775807) : IntKind.wrap .i64 (((n : Nat) : Int) + 1) = ((n + 1 : Nat) : Int) := by rw [IntKind.wrap_i64]; omega
theorem u8_eq (n : Nat) : bv (UInt8.ofNat n) = .int .u8 (IntKind.wrap .u8 (n : Int)) := by
  simp only [bv, IntKind.wrap_u8]
  congr 1
end Go.Sh
/-! ## ShL4 -/
namespace Go.Sh
open Go.ChangeShapes
variable {P : Program}

theorem i64_or (a b : Nat) (ha : a < 9223372036854775808) (hb : b < 9223372036854775808) : bits .or .i64 (a : Int) (b : Int) = ((a ||| b : Nat) : Int) := by
  have hx : a ||| b < 2 ^ 63 := Nat.or_lt_two_pow (by omega) (by omega)
  have e : ∀ n : Nat, n < 9223372036854775808 → (BitVec.ofInt 64 (n : Int)).toNat = n := fun n hn => by
    rw [BitVec.ofInt_natCast, BitVec.toNat_ofNat]; exact Nat.mod_eq_of_lt (by omega)
  show IntKind.i64.wrap ((BitVec.ofInt 64 (a : Int) ||| BitVec.ofInt 64 (b : Int)).toNat : Int) = _
  rw [BitVec.toNat_or, e a ha, e b hb, IntKind.wrap_i64]
  omega
theorem or_add (a b : Nat) (hb : b < 256) : a * 256 ||| b = a * 256 + b := by
  have := Nat.two_pow_add_eq_or_of_lt (i := 8) (show b < 2 ^ 8 from hb) a
  rw [show 2 ^ 8 * a = a * 256 from by omega] at this
  exact this.symm
theorem u8_lt (b : UInt8) : b.toNat < 256 := b.toNat_lt
/-- two bytes, the higher first -/
theorem two_bytes (x y : UInt8) : bits .or .i64 (shlI .i64 (IntKind.wrap .i64 (x.toNat : Int)) 8) (IntKind.wrap .i64 (y.toNat : Int)) = ((x.toNat * 256 + y.toNat : Nat) : Int) := by
  have h1 := u8_lt x
  have h2 := u8_lt y
  have e1 : shlI .i64 (IntKind.wrap .i64 (x.toNat : Int)) 8 = ((x.toNat * 256 : Nat) : Int) := by
    rw [wrap_id (by omega) (by omega)]
    have : shlI .i64 (x.toNat : Int) 8 = IntKind.wrap .i64 ((x.toNat : Int) * 256) := rfl
    rw [this, wrap_id (by omega) (by omega)]; omega
  rw [e1, wrap_id (n := (y.toNat : Int)) (by omega) (by omega), i64_or _ _ (by omega) (by omega), or_add _ _ h2]

theorem make_own {t e by_ : Nat} {z : Value} (ht : P.underlying t = some (.slice e)) (info : (P.info? e).map (fun i => (i.zero, i.size, i.bytes)) = some (some z, 1, by_)) (hz : z.cells = #[z]) {w : World} {l c : Nat} (hlc : l ≤ c) (hb : by_ * c ≤ 281474976710656) (h63 : c ≤ 9223372036854775807) {K : Value → World → Prop}
    (hK : ∀ b w', Own w' e 1 (some ⟨b, 0, .none⟩) l c (List.replicate l z) → Chg None w w' → w.heap.size ≤ b → K (.slice (some ⟨b, 0, .none⟩) l c) w') : sem P (Instr.makeSlice t (.int .i64 (l : Int)) (.int .i64 (c : Int))) w K := by
  obtain ⟨i, hi, h⟩ := Option.map_eq_some_iff.1 info
  simp only [Prod.mk.injEq] at h
  obtain ⟨hzz, hs, rfl⟩ := h
  have hb' : (i.bytes : Int) * (c : Int) ≤ 281474976710656 := by
    have h : ((i.bytes * c : Nat) : Int) ≤ 281474976710656 := by omega
    rwa [Int.natCast_mul] at h
  unfold sem
  rw [run_make (P := P) w t e i z ht hi hzz .i64 .i64 l c (by omega) (by omega) hb' (by omega)]
  simp only [Int.toNat_natCast, hs, Nat.mul_one, hz]
  refine hK _ _ ⟨by simp, .inr ⟨w.heap.size, List.replicate (c - l) z, rfl, ?_, by simp; omega, hlc⟩⟩ (chg_alloc w _) (Nat.le_refl _)
  have := blk_alloc (w := w) (t := e) (cs := madeCells #[z] c)
  have e1 : (madeCells #[z] c).toList = List.replicate l z ++ List.replicate (c - l) z := by
    rw [List.replicate_append_replicate, show l + (c - l) = c by omega]
    apply List.ext_getElem?
    intro j
    by_cases hj : j < c
    · simp [madeCells, hj, Nat.mod_one]
    · simp [madeCells, hj]
  rw [e1] at this; exact this

/-- A store into an own slice. -/
theorem store_own {w : World} {e n c : Nat} {a : Option Addr} {l : List Value} (h : Own w e 1 a n c l) {j : Nat} (hj : j < n) {v : Value} (hv : v.oneCell' = true) {K : World → Prop} (hK : ∀ w', Own w' e 1 a n c (l.set j v) → Chg (At a) w w' → K w') : opnA a fun ad => stC (ad.add (j * 1)) v w K := by
  have hl := h.len
  rcases h.row with ⟨rfl, h2, h3⟩ | ⟨b, rest, rfl, h2, h3, h4⟩
  · omega
  · simp only [opnA, Nat.mul_one, Addr.add_lit, Nat.zero_add]
    refine h2.store (by rw [List.length_append]; omega) hv fun b1 k1 => hK _ ⟨by simp [hl], .inr ⟨b, rest, rfl, ?_, by simpa using h3, h4⟩⟩ (k1.mono fun k _ hk => ⟨_, rfl, hk.symm⟩)
    rw [List.set_append_left _ _ (by omega)] at b1; exact b1

/-- []byte{..} turned into a []byte: the run-time's mark behind its last cell. -/
theorem conv_same {t e : Nat} (hu : P.underlying t = some (.slice e)) (he : P.underlying e = some (.int .u8)) {w : World} {l : List UInt8} {cs : Array Value} (hcs : cs = (bvs l).toArray) {n : Nat} (hn : n = l.length) {K : Value → World → Prop}
    (hK : ∀ b c w', Own w' e 1 (some ⟨b, 0, .none⟩) l.length c (bvs l) → Chg None w w' → w.heap.size ≤ b → K (.slice (some ⟨b, 0, .none⟩) l.length c) w') : sem P (convert t t (.slice (some ⟨w.heap.size, 0, .none⟩) n n)) (w.alloc (.cells cs e)) K := by
  subst hcs; subst hn
  have hsh : (w.alloc (.cells (bvs l).toArray e)).shape? w.heap.size = some (e, l.length) := by
    have : (w.alloc (.cells (bvs l).toArray e)).heap[w.heap.size]? = some (.cells (bvs l).toArray e) := by
      show (w.heap.push _)[w.heap.size]? = _
      simp
    unfold World.shape?
    rw [this]; simp
  have hm : ∀ (a : Array Obj) (x : Obj) (f : Obj → Obj), (a.push x).modify a.size f = a.push (f x) := by
    intro a x f
    apply Array.ext
    · simp
    · intro i h1 h2
      simp only [Array.getElem_modify, Array.getElem_push]
      by_cases h : a.size = i
      · subst h; simp
      · have hi : i < a.size := by simp at h1; omega
        simp [h, hi]
  have hfr : (w.alloc (.cells (bvs l).toArray e)).freeze ⟨w.heap.size, l.length, none⟩ 1 = w.alloc (.cells (bvs l).toArray e (l.length, l.length + 1)) := by
    unfold World.freeze
    rw [if_neg (by decide)]
    show ({ w.alloc (.cells (bvs l).toArray e) with heap := (w.heap.push (.cells (bvs l).toArray e)).modify w.heap.size _ } : World) = _
    rw [hm]; rfl
  unfold sem
  have hrun : (convert t t (.slice (some ⟨w.heap.size, 0, .none⟩) l.length l.length)).run P (w.alloc (.cells (bvs l).toArray e)) = .ok (.slice (some ⟨w.heap.size, 0, .none⟩) l.length l.length) (w.alloc (.cells (bvs l).toArray e (l.length, l.length + 1))) := by
    simp [convert, run_underlying hu, run_underlying he, markStringish, hsh, hfr]
  rw [hrun]
  refine hK _ _ _ ⟨by simp, .inr ⟨w.heap.size, [], rfl, ⟨(l.length, l.length + 1), ?_, fun i hi => by simp at hi ⊢; omega⟩, by simp, Nat.le_refl _⟩⟩ (chg_alloc w _) (Nat.le_refl _)
  show (w.heap.push _)[w.heap.size]? = _
  simp

/-! ### lists of own byte slices -/
abbrev Part := Option Addr × Nat × List UInt8
def pv (x : Part) : Value := .slice x.1 x.2.2.length x.2.1
structure Parts (w : World) (B e2 e1 : Nat) (a : Option Addr) (n c : Nat) (ps : List Part) : Prop where
  own : Own w e2 1 a n c (ps.map pv)
  each : ∀ x ∈ ps, Own w e1 1 x.1 x.2.2.length x.2.1 (bvs x.2.2) ∧ ∀ k, At x.1 k → B ≤ k ∧ ¬ At a k
  apart : ps.Pairwise fun x y => ∀ k, At x.1 k → ¬ At y.1 k
  base : ∀ k, At a k → B ≤ k
theorem Parts.len {w : World} {B e2 e1 n c : Nat} {a : Option Addr} {ps : List Part} (h : Parts w B e2 e1 a n c ps) : ps.length = n := by have := h.own.len; simpa using this
theorem Parts.nil {w : World} {B e2 e1 : Nat} : Parts w B e2 e1 .none 0 0 [] := ⟨Own.nil, by simp, .nil, by rintro k ⟨p, hp, _⟩; cases hp⟩
theorem Parts.chg {w w' : World} {B e2 e1 n c : Nat} {a : Option Addr} {ps : List Part} {D : Nat → Prop} (h : Parts w B e2 e1 a n c ps) (k : Chg D w w') (h1 : ∀ x, At a x → ¬ D x) (h2 : ∀ x ∈ ps, ∀ k, At x.1 k → ¬ D k) : Parts w' B e2 e1 a n c ps :=
  ⟨h.own.chg k h1, fun x hx => ⟨(h.each x hx).1.chg k (h2 x hx), (h.each x hx).2⟩, h.apart, h.base⟩
theorem Parts.chg0 {w w' : World} {B e2 e1 n c : Nat} {a : Option Addr} {ps : List Part} (h : Parts w B e2 e1 a n c ps) (k : Chg None w w') : Parts w' B e2 e1 a n c ps := h.chg k (fun _ _ h => h) (fun _ _ _ _ h => h)
theorem Parts.recs {w : World} {B e2 e1 n c : Nat} {a : Option Addr} {ps : List Part} (h : Parts w B e2 e1 a n c ps) : Recs w (fun k => B ≤ k) a (ps.map (·.2.2)) := by
  intro j r hj
  obtain ⟨x, hx, rfl⟩ := Option.map_eq_some_iff.1 (by rw [List.getElem?_map] at hj; exact hj)
  have hv : (ps.map pv)[j]? = some (pv x) := by rw [List.getElem?_map, hx]; rfl
  obtain ⟨p, h1, h2, h3⟩ := h.own.lies j _ hv
  obtain ⟨ho, hk⟩ := h.each x (List.mem_of_getElem? hx)
  exact ⟨p, x.1, x.2.1, h1, h.base _ h2, h3, ho.le, ho.lies.mono fun k hk' => (hk k hk').1⟩
/-- One list more. -/
theorem parts_push {t e2 e1 : Nat} (T : SlT P t e2 1 24) {w : World} {B n c : Nat} {a : Option Addr} {ps : List Part} (h : Parts w B e2 e1 a n c ps) {q : Option Addr} {cq : Nat} {r : List UInt8} (hx : Own w e1 1 q r.length cq (bvs r))
    (hq : ∀ k, At q k → B ≤ k ∧ ¬ At a k ∧ ∀ x ∈ ps, ¬ At x.1 k) (hB : B ≤ w.heap.size) (hn : (n + 1) * 24 ≤ 140737488355328) {K : Option Addr → Nat → Nat → World → Prop}
    (hK : ∀ a' c' w', Parts w' B e2 e1 a' (n + 1) c' (ps ++ [(q, cq, r)]) → Chg (At a) w w' → K a' (n + 1) c' w') :
    alC #[.slice q r.length cq] e2 w fun p w2 => sem P (Builtin.append_ #[t, t] t #[.slice a n c, .slice (some p) 1 1]) w2 fun v w3 => opnL (some v) fun x xn xc => K x xn xc w3 := by
  unfold alC
  have ka : Chg None w (w.alloc (.cells #[.slice q r.length cq] e2)) := chg_alloc w _
  have hs : Src P 1 t (.slice (some ⟨w.heap.size, 0, .none⟩) 1 1) 1 [pv (q, cq, r)] (w.alloc (.cells #[.slice q r.length cq] e2)) :=
    src_two (vs := [pv (q, cq, r)]) T.ht rfl (by intro u hu; simp at hu; subst hu; rfl)
  refine append_own T (w := w.alloc (.cells #[.slice q r.length cq] e2)) (h.own.chg0 ka) hs (by simp only [maxLen]; omega) hn fun a' c' w' o k f => ?_
  refine hK a' c' w' ?_ (Chg.trans ka k (fun _ _ h => h.elim) (fun _ _ h => h))
  have hsz := ka.size
  have hnew : ∀ k, At a' k → At a k ∨ w.heap.size ≤ k := by
    rcases f with rfl | ⟨b, rfl, hb⟩
    · exact fun k hk => .inl hk
    · rintro k ⟨p, hp, rfl⟩; cases hp; exact .inr (Nat.le_trans hsz hb)
  refine ⟨by rw [List.map_append]; exact o, fun x hx' => ?_, List.pairwise_append.2 ⟨h.apart, by simp, fun x hx' y hy k hk hk' => ?_⟩, fun k hk => ?_⟩
  · rcases List.mem_append.1 hx' with hx' | hx'
    · obtain ⟨g1, g2⟩ := h.each x hx'
      refine ⟨(g1.chg0 ka).chg k fun k hk => (g2 k hk).2, fun k hk => ⟨(g2 k hk).1, fun hk' => ?_⟩⟩
      rcases hnew k hk' with h1 | h1
      · exact (g2 k hk).2 h1
      · have := g1.lt hk; omega
    · simp only [List.mem_singleton] at hx'; subst hx'
      refine ⟨(hx.chg0 ka).chg k fun k hk => (hq k hk).2.1, fun k hk => ⟨(hq k hk).1, fun hk' => ?_⟩⟩
      rcases hnew k hk' with h1 | h1
      · exact (hq k hk).2.1 h1
      · have := hx.lt hk; omega
  · simp only [List.mem_singleton] at hy; subst hy
    exact (hq k hk').2.2 x hx' hk
  · rcases hnew k hk with h1 | h1
    · exact h.base k h1
    · omega
end Go.Sh
/-! ## ShL6 -/
namespace Go.Sh
open Go.ChangeShapes
variable {P : Program}

section
variable {X Y : Prop}
theorem c_t {b : Bool} (h : b = true) (hx : X) : cond b X Y := by subst h; exact hx
theorem c_f {b : Bool} (h : b = false) (hy : Y) : cond b X Y := by subst h; exact hy
theorem c_lt {a b : Int} (h : a < b) (hx : X) : cond (decide (a < b)) X Y := by rw [decide_eq_true h]; exact hx
theorem c_nlt {a b : Int} (h : b ≤ a) (hy : Y) : cond (decide (a < b)) X Y := by rw [decide_eq_false (by omega)]; exact hy
theorem c_gt {a b : Int} (h : b < a) (hx : X) : cond (decide (a > b)) X Y := by rw [decide_eq_true h]; exact hx
theorem c_ngt {a b : Int} (h : a ≤ b) (hy : Y) : cond (decide (a > b)) X Y := by rw [decide_eq_false (by omega)]; exact hy
theorem c_le {a b : Int} (h : a ≤ b) (hx : X) : cond (decide (a ≤ b)) X Y := by rw [decide_eq_true h]; exact hx
theorem c_nle {a b : Int} (h : b < a) (hy : Y) : cond (decide (a ≤ b)) X Y := by rw [decide_eq_false (by omega)]; exact hy
theorem c_ge {a b : Int} (h : b ≤ a) (hx : X) : cond (decide (a ≥ b)) X Y := by rw [decide_eq_true h]; exact hx
theorem c_nge {a b : Int} (h : a < b) (hy : Y) : cond (decide (a ≥ b)) X Y := by rw [decide_eq_false (by omega)]; exact hy
theorem c_eq {a b : Int} (h : a = b) (hx : X) : cond (a == b) X Y := by subst h; rw [beq_self_eq_true]; exact hx
theorem c_neq {a b : Int} (h : a ≠ b) (hy : Y) : cond (a == b) X Y := by rw [beq_eq_false_iff_ne.2 h]; exact hy
theorem c_ne {a b : Int} (h : a ≠ b) (hx : X) : cond (a != b) X Y := by rw [bne_iff_ne.2 h]; exact hx
theorem c_nne {a b : Int} (h : a = b) (hy : Y) : cond (a != b) X Y := by subst h; rw [bne_self_eq_false]; exact hy
theorem c_str_ne {a b : List UInt8} (h : a = b) (hy : Y) : cond (!((⟨a.toArray⟩ : ByteArray).toList == (⟨b.toArray⟩ : ByteArray).toList)) X Y := by subst h; rw [beq_self_eq_true]; exact hy
theorem c_not_true {b : Bool} (h : b = true) (hy : Y) : cond (!b) X Y := by subst h; exact hy
theorem c_not_false {b : Bool} (h : b = false) (hx : X) : cond (!b) X Y := by subst h; exact hx
end

theorem drw_s {w : World} {K : World → Prop} : drw w K = K w.drew := rfl
theorem opnN_more {k x : Value} {A : Prop} {B : Value → Value → Prop} : opnN (.tuple #[.bool true, k, x]) A B = B k x := rfl
theorem opnN_end {A : Prop} {B : Value → Value → Prop} : opnN (.tuple #[.bool false]) A B = A := rfl
theorem opnL_s {a : Option Addr} {n c : Nat} {K : Option Addr → Nat → Nat → Prop} : opnL (some (.slice a n c)) K = K a n c := rfl
theorem opnI_s {k : IntKind} {n : Int} {K : Int → Prop} (h : K n) : opnI k (some (.int k n)) K := ⟨rfl, h⟩
theorem opnB_s {b : Bool} {K : Bool → Prop} : opnB (some (.bool b)) K = K b := rfl
theorem opnS_s {b : ByteArray} {K : ByteArray → Prop} : opnS (some (.string b)) K = K b := rfl
theorem opnP_s {a : Option Addr} {K : Option Addr → Prop} : opnP (some (.pointer a)) K = K a := rfl
theorem opnT_s {cs : Array Value} {K : Array Value → Prop} : opnT (some (.tuple cs)) K = K cs := rfl
theorem opnG_s {cs : Array Value} {K : Array Value → Prop} : opnG (some (.agg cs)) K = K cs := rfl

theorem set_mid {α : Type} (a b : List α) (x v : α) : (a ++ x :: b).set a.length v = a ++ v :: b := by
  rw [List.set_append_right _ _ (Nat.le_refl _), Nat.sub_self, List.set_cons_zero]

theorem set_mid' {α : Type} {a b : List α} {x v : α} {i : Nat} (h : a.length = i) : (a ++ x :: b).set i v = a ++ v :: b := by subst h; exact set_mid a b x v

theorem wrap_len {α : Type} {done : List α} {x : α} (h : done.length < 9223372036854775807) : IntKind.wrap .i64 (((done.length : Nat) : Int) + 1) = (((done ++ [x]).length : Nat) : Int) := by
  rw [wrap_nat h, List.length_append]; rfl

section
variable {w w' : World} {S : Nat → Prop} {a : Option Addr}
theorem Lies.some {l : List Value} (h : Lies w S a l) {j : Nat} (hj : j < l.length) : ∃ p, a = some p := by
  obtain ⟨p, h1, _⟩ := h j l[j] (List.getElem?_eq_getElem hj)
  exact ⟨p, h1⟩
theorem rd_byte {l : List UInt8} (h : Lies w S a (bvs l)) {i : Int} {x : UInt8} (hx : l[i.toNat]? = .some x) {K : Int → Prop} (hK : K (x.toNat : Int)) : opnA a fun ad => opnI .u8 (w.cell? (ad.add (Int.toNat i * 1))) K := by
  obtain ⟨hj, rfl⟩ := List.getElem?_eq_some_iff.1 hx
  exact read_byte h hj hK
theorem rd_rec {rs : List (List UInt8)} (h : Recs w S a rs) {i : Int} {r : List UInt8} (hx : rs[i.toNat]? = .some r) {K : Option Addr → Nat → Nat → Prop} (hK : ∀ q c, r.length ≤ c → Lies w S q (bvs r) → K q r.length c) : opnA a fun ad => opnL (w.cell? (ad.add (Int.toNat i * 1))) K := read_rec h hx hK
theorem st_own {e n c : Nat} {l : List Value} (h : Own w e 1 a n c l) {i : Int} (hi : i.toNat < n) {v : Value} (hv : v.oneCell' = true) {K : World → Prop} (hK : ∀ w', Own w' e 1 a n c (l.set i.toNat v) → Chg (At a) w w' → K w') : opnA a fun ad => stC (ad.add (Int.toNat i * 1)) v w K := store_own h hi hv hK
theorem Own.some {e n c : Nat} {l : List Value} (h : Own w e 1 a n c l) (hn : 0 < n) : ∃ b, a = .some ⟨b, 0, .none⟩ := by
  rcases h.row with ⟨_, h2, _⟩ | ⟨b, _, h1, _⟩
  · omega
  · exact ⟨b, h1⟩
theorem Own.at_lt {e sz n c : Nat} {l : List Value} (h : Own w e sz a n c l) : ∀ k, At a k → k < w.heap.size := fun _ hk => h.lt hk
/-- a cell of one's own, read -/
theorem Own.cell {e n c : Nat} {l : List Value} (h : Own w e 1 a n c l) {j : Nat} {v : Value} (hv : l[j]? = .some v) : ∃ p, a = .some p ∧ w.cell? (p.add j) = .some v := by
  obtain ⟨p, h1, _, h3⟩ := h.lies j v hv
  exact ⟨p, h1, h3⟩
theorem slA_zero (a : Option Addr) (m sz : Nat) : slA a 0 m sz = a := by
  unfold slA
  split
  · rfl
  · cases a <;> simp [Addr.add]
end


/-- s[lo:] and s[:k], of bytes -/
theorem Lies.dropB {w : World} {S : Nat → Prop} {a : Option Addr} {l : List UInt8} (h : Lies w S a (bvs l)) {lo m : Nat} (hm : l.length ≤ m) : Lies w S (Sh.slA a lo m 1) (bvs (l.drop lo)) := by
  have h1 := h.slA lo m
  split at h1
  · rename_i e
    have : l.drop lo = [] := List.drop_eq_nil_of_le (by omega)
    rw [this]; exact Lies.nil
  · rw [bvs, List.map_drop]; exact h1
theorem Lies.takeB {w : World} {S : Nat → Prop} {a : Option Addr} {l : List UInt8} (h : Lies w S a (bvs l)) (k : Nat) : Lies w S a (bvs (l.take k)) := by
  rw [bvs, List.map_take]; exact h.take k
/-- append(nil, ..) -/
theorem append_none {t tx ty e sz by_ : Nat} (T : SlT P t e sz by_) {w : World} {x : Value} {m : Nat} {news : List Value} (hs : Src P sz tx x m news w) (h63 : m ≤ maxLen) (hb : m * by_ ≤ 140737488355328) {K : Value → World → Prop}
    (hK : ∀ a' c' w', Own w' e sz a' m c' news → Chg None w w' → (∀ k, At a' k → w.heap.size ≤ k) → K (.slice a' m c') w') :
    sem P (Builtin.append_ #[t, tx] ty #[.slice none 0 0, x]) w K := by
  refine append_own' T (Own.nil (e := e) (sz := sz)) hs (by omega) (by rw [Nat.zero_add]; exact hb) fun a' c' w' o k f => ?_
  rw [Nat.zero_add] at o ⊢
  refine hK a' c' w' o (k.mono fun x _ hx => by obtain ⟨_, hx, _⟩ := hx; cases hx) ?_
  rcases f with rfl | ⟨b, rfl, hb, _⟩
  · rintro k ⟨p, hp, _⟩; cases hp
  · rintro k ⟨p, hp, rfl⟩; cases hp; exact hb

/-! ### a list of byte slices, whose elements lie in blocks of E -/
structure Lst (w : World) (t : Nat) (E : Nat → Prop) (a : Option Addr) (n c : Nat) (rs : List (List UInt8)) : Prop where
  own : ∃ vals, Own w t 1 a n c vals ∧ vals.length = rs.length ∧ ∀ (j : Nat) (r : List UInt8), rs[j]? = some r → ∃ q cq, vals[j]? = some (.slice q r.length cq) ∧ r.length ≤ cq ∧ Lies w E q (bvs r)
  apart : ∀ k, E k → ¬ At a k ∧ k < w.heap.size
section
variable {w w' : World} {t : Nat} {E : Nat → Prop} {a : Option Addr} {n c : Nat} {rs : List (List UInt8)}
theorem Lst.len (h : Lst w t E a n c rs) : rs.length = n := by
  obtain ⟨vals, h1, h2, _⟩ := h.own
  have := h1.len
  omega
theorem Lst.nil (hE : ∀ k, E k → k < w.heap.size) : Lst w t E .none 0 0 [] := ⟨⟨[], Own.nil, rfl, fun j r h => by simp at h⟩, fun k hk => ⟨(by rintro ⟨p, hp, _⟩; cases hp), hE k hk⟩⟩
theorem Lst.at_lt (h : Lst w t E a n c rs) : ∀ k, At a k → k < w.heap.size := fun k hk => by
  obtain ⟨vals, h1, _⟩ := h.own
  exact h1.lt hk
theorem Lst.chg {D : Nat → Prop} (h : Lst w t E a n c rs) (k : Chg D w w') (h1 : ∀ x, At a x → ¬ D x) (h2 : ∀ x, E x → ¬ D x) : Lst w' t E a n c rs := by
  obtain ⟨vals, g1, g2, g3⟩ := h.own
  refine ⟨⟨vals, g1.chg k h1, g2, fun j r hj => ?_⟩, fun x hx => ⟨(h.apart x hx).1, Nat.lt_of_lt_of_le (h.apart x hx).2 k.size⟩⟩
  obtain ⟨q, cq, k1, k2, k3⟩ := g3 j r hj
  exact ⟨q, cq, k1, k2, k3.chg k fun x _ hx => h2 x hx⟩
theorem Lst.chg0 (h : Lst w t E a n c rs) (k : Chg None w w') : Lst w' t E a n c rs := h.chg k (fun _ _ h => h) (fun _ _ h => h)
theorem Lst.recs (h : Lst w t E a n c rs) : Recs w (fun k => E k ∨ At a k) a rs := by
  intro j r hj
  obtain ⟨vals, g1, _, g3⟩ := h.own
  obtain ⟨q, cq, k1, k2, k3⟩ := g3 j r hj
  obtain ⟨p, p1, p2, p3⟩ := g1.lies j _ k1
  exact ⟨p, q, cq, p1, .inr p2, p3, k2, k3.mono fun k hk => .inl hk⟩
theorem Lst.more {E' : Nat → Prop} (h : Lst w t E a n c rs) (hE : ∀ k, E k → E' k) (hE' : ∀ k, E' k → ¬ At a k ∧ k < w.heap.size) : Lst w t E' a n c rs := by
  obtain ⟨vals, g1, g2, g3⟩ := h.own
  refine ⟨⟨vals, g1, g2, fun j r hj => ?_⟩, hE'⟩
  obtain ⟨q, cq, k1, k2, k3⟩ := g3 j r hj
  exact ⟨q, cq, k1, k2, k3.mono hE⟩
/-- One more. -/
theorem lst_push {tl : Nat} (T : SlT P tl t 1 24) (h : Lst w t E a n c rs) {q : Option Addr} {r : List UInt8} {cq : Nat} (hq : Lies w E q (bvs r)) (hr : r.length ≤ cq) (hn : (n + 1) * 24 ≤ 140737488355328) {K : Option Addr → Nat → Nat → World → Prop}
    (hK : ∀ a' c' w', Lst w' t E a' (n + 1) c' (rs ++ [r]) → Chg (At a) w w' → (a' = a ∨ ∃ b, a' = some ⟨b, 0, .none⟩ ∧ w.heap.size ≤ b) → K a' (n + 1) c' w') :
    alC #[.slice q r.length cq] t w fun p w2 => sem P (Builtin.append_ #[tl, tl] tl #[.slice a n c, .slice (some p) 1 1]) w2 fun v w3 => opnL (some v) fun x xn xc => K x xn xc w3 := by
  obtain ⟨vals, g1, g2, g3⟩ := h.own
  unfold alC
  have ka : Chg None w (w.alloc (.cells #[.slice q r.length cq] t)) := chg_alloc w _
  have hs : Src P 1 tl (.slice (some ⟨w.heap.size, 0, .none⟩) 1 1) 1 [.slice q r.length cq] (w.alloc (.cells #[.slice q r.length cq] t)) :=
    src_two (vs := [.slice q r.length cq]) T.ht rfl (by intro u hu; simp at hu; subst hu; rfl)
  refine append_own T (w := w.alloc (.cells #[.slice q r.length cq] t)) (g1.chg0 ka) hs (by simp only [maxLen]; omega) hn fun a' c' w' o k3 f => ?_
  have hsz := ka.size
  have kk : Chg (At a) w w' := Chg.trans ka k3 (fun _ _ h => h.elim) (fun _ _ h => h)
  have hnew : a' = a ∨ ∃ b, a' = some ⟨b, 0, .none⟩ ∧ w.heap.size ≤ b := by
    rcases f with rfl | ⟨b, rfl, hb⟩
    · exact .inl rfl
    · exact .inr ⟨b, rfl, Nat.le_trans hsz hb⟩
  refine hK a' c' w' ⟨⟨_, o, by simp [g2], fun j r' hj => ?_⟩, fun x hx => ⟨fun hx' => ?_, Nat.lt_of_lt_of_le (h.apart x hx).2 kk.size⟩⟩ kk hnew
  · rcases Nat.lt_or_ge j rs.length with hjl | hjl
    · rw [List.getElem?_append_left hjl] at hj
      obtain ⟨q', cq', k1, k2, k3⟩ := g3 j r' hj
      exact ⟨q', cq', by rw [List.getElem?_append_left (by omega)]; exact k1, k2, k3.chg kk fun x _ hx => (h.apart x hx).1⟩
    · rw [List.getElem?_append_right hjl] at hj
      have : j - rs.length = 0 := by
        have := (List.getElem?_eq_some_iff.1 hj).1
        simp at this; omega
      rw [this] at hj
      cases hj
      exact ⟨q, cq, by rw [List.getElem?_append_right (by omega), show j - vals.length = 0 by omega]; rfl, hr, hq.chg kk fun x _ hx => (h.apart x hx).1⟩
  · rcases hnew with rfl | ⟨b, rfl, hb⟩
    · exact (h.apart x hx).1 hx'
    · obtain ⟨p, hp, rfl⟩ := hx'; cases hp
      have := (h.apart _ hx).2
      simp only at this; omega
end


theorem u8w (n : Nat) : IntKind.wrap .u8 (n : Int) = ((UInt8.ofNat n).toNat : Int) := by
  have := u8_eq n
  simp only [bv, Value.int.injEq, true_and] at this
  exact this.symm
theorem rd_own_slice {w : World} {e n c : Nat} {a : Option Addr} {vals : List Value} (h : Own w e 1 a n c vals) {i : Int} {q : Option Addr} {m cq : Nat} (hv : vals[i.toNat]? = some (.slice q m cq)) {K : Option Addr → Nat → Nat → Prop} (hK : K q m cq) : opnA a fun ad => opnL (w.cell? (ad.add (Int.toNat i * 1))) K := by
  obtain ⟨p, rfl, hc⟩ := h.cell hv
  simp only [opnA, Nat.mul_one, hc, opnL]
  exact hK
theorem Lies.bound {w : World} {S : Nat → Prop} {a : Option Addr} {l : List Value} (h : Lies w S a l) : Lies w (fun k => S k ∧ k < w.heap.size) a l := fun j v hj => by
  obtain ⟨p, g1, g2, g3⟩ := h j v hj
  exact ⟨p, g1, ⟨g2, by have := World.block_lt_of_cell? _ _ g3; rwa [block_add] at this⟩, g3⟩
theorem nodup_map_on {α β : Type} {f : α → β} {l : List α} (hf : ∀ x ∈ l, ∀ y ∈ l, f x = f y → x = y) (h : l.Nodup) : (l.map f).Nodup := by
  rw [List.Nodup, List.pairwise_map]
  exact List.Pairwise.imp_of_mem (fun {x y} hx hy hne e => hne (hf x hx y hy e)) h
theorem Recs.bound {w : World} {S : Nat → Prop} {a : Option Addr} {rs : List (List UInt8)} (h : Recs w S a rs) : Recs w (fun k => S k ∧ k < w.heap.size) a rs := fun j r hj => by
  obtain ⟨p, q, c, h1, h2, h3, h4, h5⟩ := h j r hj
  refine ⟨p, q, c, h1, ⟨h2, ?_⟩, h3, h4, fun i v hi => ?_⟩
  · have := World.block_lt_of_cell? _ _ h3; rwa [block_add] at this
  · obtain ⟨p', g1, g2, g3⟩ := h5 i v hi
    exact ⟨p', g1, ⟨g2, by have := World.block_lt_of_cell? _ _ g3; rwa [block_add] at this⟩, g3⟩

/-! ### things that stand apart -/
structure HP where
  holds : World → Prop
  foot : Nat → Prop
structure HP.Ok (P : HP) : Prop where
  keep : ∀ {D : Nat → Prop} {w w' : World}, P.holds w → Chg D w w' → (∀ k, P.foot k → ¬ D k) → P.holds w'
  lt : ∀ {w : World}, P.holds w → ∀ k, P.foot k → k < w.heap.size
structure Sep (w : World) (l : List HP) : Prop where
  ok : ∀ p ∈ l, p.Ok
  holds : ∀ p ∈ l, p.holds w
  apart : l.Pairwise fun p q => ∀ k, p.foot k → ¬ q.foot k
def hOwn (e sz : Nat) (a : Option Addr) (n c : Nat) (l : List Value) : HP := ⟨fun w => Own w e sz a n c l, At a⟩
theorem hOwn.ok {e sz n c : Nat} {a : Option Addr} {l : List Value} : (hOwn e sz a n c l).Ok := ⟨fun h k hd => Own.chg h k hd, fun h _ hk => Own.lt h hk⟩
def hRecs (F : Nat → Prop) (a : Option Addr) (rs : List (List UInt8)) : HP := ⟨fun w => Recs w F a rs ∧ ∀ k, F k → k < w.heap.size, F⟩
theorem hRecs.ok {F : Nat → Prop} {a : Option Addr} {rs : List (List UInt8)} : (hRecs F a rs).Ok := ⟨fun h k hd => ⟨h.1.chg k fun x _ hx => hd x hx, fun x hx => Nat.lt_of_lt_of_le (h.2 x hx) k.size⟩, fun h => h.2⟩
section
variable {w w' : World}
theorem Sep.nil : Sep w [] := ⟨by simp, by simp, .nil⟩
theorem Sep.get {l r : List HP} {p : HP} (h : Sep w (l ++ p :: r)) : p.holds w := h.holds p (by simp)
theorem Sep.mem {l : List HP} {p : HP} (h : Sep w l) (hp : p ∈ l) : p.holds w := h.holds p hp
/-- What is done to one of them and to new memory. -/
theorem Sep.step {l r : List HP} {p : HP} (h : Sep w (l ++ p :: r)) (k : Chg p.foot w w') {p' : HP} (ok : p'.Ok) (hp : p'.holds w') (hf : ∀ x, p'.foot x → p.foot x ∨ w.heap.size ≤ x) : Sep w' (l ++ p' :: r) := by
  have h1 := h.ok
  have h2 := h.holds
  have h3 := h.apart
  rw [List.pairwise_append, List.pairwise_cons] at h3
  obtain ⟨a1, ⟨a2, a3⟩, a4⟩ := h3
  have hl : ∀ q ∈ l, ∀ x, q.foot x → ¬ p.foot x := fun q hq => a4 q hq p (by simp)
  have hr : ∀ q ∈ r, ∀ x, q.foot x → ¬ p.foot x := fun q hq x hx hx' => a2 q hq x hx' hx
  have lt : ∀ q ∈ l ++ p :: r, ∀ x, q.foot x → x < w.heap.size := fun q hq => (h1 q hq).lt (h2 q hq)
  refine ⟨fun q hq => ?_, fun q hq => ?_, ?_⟩
  · simp only [List.mem_append, List.mem_cons] at hq
    rcases hq with hq | rfl | hq
    · exact h1 q (by simp [hq])
    · exact ok
    · exact h1 q (by simp [hq])
  · simp only [List.mem_append, List.mem_cons] at hq
    rcases hq with hq | rfl | hq
    · exact (h1 q (by simp [hq])).keep (h2 q (by simp [hq])) k (hl q hq)
    · exact hp
    · exact (h1 q (by simp [hq])).keep (h2 q (by simp [hq])) k (hr q hq)
  · rw [List.pairwise_append, List.pairwise_cons]
    refine ⟨a1, ⟨fun q hq x hx hx' => ?_, a3⟩, fun q hq q' hq' => ?_⟩
    · rcases hf x hx with h | h
      · exact hr q hq x hx' h
      · have := lt q (by simp [hq]) x hx'; omega
    · rcases List.mem_cons.1 hq' with rfl | hq'
      · intro x hx hx'
        rcases hf x hx' with h | h
        · exact hl q hq x hx h
        · have := lt q (by simp [hq]) x hx; omega
      · exact a4 q hq q' (by simp [hq'])
/-- One more, of new memory. -/
theorem Sep.push {l : List HP} (h : Sep w l) (k : Chg None w w') {p' : HP} (ok : p'.Ok) (hp : p'.holds w') (hf : ∀ x, p'.foot x → w.heap.size ≤ x) : Sep w' (l ++ [p']) := by
  refine ⟨fun q hq => ?_, fun q hq => ?_, List.pairwise_append.2 ⟨h.apart, by simp, fun q hq q' hq' x hx hx' => ?_⟩⟩
  · rcases List.mem_append.1 hq with hq | hq
    · exact h.ok q hq
    · simp at hq; subst hq; exact ok
  · rcases List.mem_append.1 hq with hq | hq
    · exact (h.ok q hq).keep (h.holds q hq) k (fun _ _ h => h)
    · simp at hq; subst hq; exact hp
  · simp at hq'; subst hq'
    have := (h.ok q hq).lt (h.holds q hq) x hx
    have := hf x hx'
    omega
theorem Sep.chg {l : List HP} {D : Nat → Prop} (h : Sep w l) (k : Chg D w w') (hd : ∀ p ∈ l, ∀ x, p.foot x → ¬ D x) : Sep w' l := ⟨h.ok, fun q hq => (h.ok q hq).keep (h.holds q hq) k (hd q hq), h.apart⟩
theorem Sep.chg0 {l : List HP} (h : Sep w l) (k : Chg None w w') : Sep w' l := h.chg k fun _ _ _ _ h => h
theorem Sep.perm {l l' : List HP} (h : Sep w l) (hp : l.Perm l') : Sep w l' :=
  ⟨fun q hq => h.ok q (hp.mem_iff.2 hq), fun q hq => h.holds q (hp.mem_iff.2 hq), (hp.pairwise_iff fun {_ _} h k hq hp => h k hp hq).1 h.apart⟩
theorem Sep.sub {l l' : List HP} (h : Sep w l) (hs : l'.Sublist l) : Sep w l' :=
  ⟨fun q hq => h.ok q (hs.subset hq), fun q hq => h.holds q (hs.subset hq), h.apart.sublist hs⟩
theorem Parts.sep {B e2 e1 n c : Nat} {a : Option Addr} {ps : List Part} (h : Parts w B e2 e1 a n c ps) : Sep w (hOwn e2 1 a n c (ps.map pv) :: ps.map fun x => hOwn e1 1 x.1 x.2.2.length x.2.1 (bvs x.2.2)) := by
  refine ⟨fun q hq => ?_, fun q hq => ?_, ?_⟩
  · rcases List.mem_cons.1 hq with rfl | hq
    · exact hOwn.ok
    · obtain ⟨x, _, rfl⟩ := List.mem_map.1 hq; exact hOwn.ok
  · rcases List.mem_cons.1 hq with rfl | hq
    · exact h.own
    · obtain ⟨x, hx, rfl⟩ := List.mem_map.1 hq; exact (h.each x hx).1
  · rw [List.pairwise_cons, List.pairwise_map]
    refine ⟨fun q hq k hk hk' => ?_, h.apart⟩
    obtain ⟨x, hx, rfl⟩ := List.mem_map.1 hq
    exact ((h.each x hx).2 k hk').2 hk
end
end Go.Sh
/-! ## ShL8 -/
namespace Go.Sh
open Go.ChangeShapes
variable {P : Program}

/-! ### structs of plain cells, compared -/
inductive EqF (P : Program) (xs ys : Array Value) : List (Nat × Nat) → Bool → Prop
  | nil : EqF P xs ys [] true
  | int {t o : Nat} {k k' : IntKind} {a b : Int} {r : List (Nat × Nat)} {q : Bool} : P.underlying t = some (.int k') → xs[o]? = some (.int k a) → ys[o]? = some (.int k b) → EqF P xs ys r q → EqF P xs ys ((t, o) :: r) ((a == b) && q)
  | bool {t o : Nat} {a b : Bool} {r : List (Nat × Nat)} {q : Bool} : P.underlying t = some .bool → xs[o]? = some (.bool a) → ys[o]? = some (.bool b) → EqF P xs ys r q → EqF P xs ys ((t, o) :: r) ((a == b) && q)
  | str {t o : Nat} {a b : ByteArray} {r : List (Nat × Nat)} {q : Bool} : P.underlying t = some .string → xs[o]? = some (.string a) → ys[o]? = some (.string b) → EqF P xs ys r q → EqF P xs ys ((t, o) :: r) ((a.toList == b.toList) && q)
theorem eqF_run (w : World) (d : Nat) {xs ys : Array Value} : ∀ {fs : List Field} {tb : List (Nat × Nat)} {q : Bool}, fs.map (fun f => (f.name != "_", f.type, f.offset)) = tb.map (fun x => (true, x.1, x.2)) → EqF P xs ys tb q → (Op.eqFields (d + 1) xs ys fs).run P w = .ok q w
  | [], _, _, h, .nil => by simp [Op.eqFields]
  | f :: fs, (t, o) :: tb, _, h, e => by
    simp only [List.map_cons, List.cons.injEq, Prod.mk.injEq, bne_iff_ne] at h
    obtain ⟨⟨hn, rfl, rfl⟩, h⟩ := h
    have pk : ∀ {k}, P.underlying f.type = some (.int k) → P.plainKey f.type = true := fun hu => by unfold Program.plainKey; rw [hu]
    have pb : P.underlying f.type = some .bool → P.plainKey f.type = true := fun hu => by unfold Program.plainKey; rw [hu]
    have ps : P.underlying f.type = some .string → P.plainKey f.type = true := fun hu => by unfold Program.plainKey; rw [hu]
    cases e with
    | @int _ _ k k' a b _ q hu hx hy e =>
      have ih := eqF_run w d h e
      simp only [Op.eqFields, hn, ne_eq, not_false_eq_true, if_true, Sem.run_bind, run_part_plain w (pk hu) hx, run_part_plain w (pk hu) hy, run_equalIn_int w d _ _ _ _ _ hu, Result.andThen_ok]
      cases h1 : (a == b) <;> simp [ih]
    | @bool _ _ a b _ q hu hx hy e =>
      have ih := eqF_run w d h e
      simp only [Op.eqFields, hn, ne_eq, not_false_eq_true, if_true, Sem.run_bind, run_part_plain w (pb hu) hx, run_part_plain w (pb hu) hy, run_equalIn_bool' w d _ _ _ hu, Result.andThen_ok]
      cases h1 : (a == b) <;> simp [ih]
    | @str _ _ a b _ q hu hx hy e =>
      have ih := eqF_run w d h e
      simp only [Op.eqFields, hn, ne_eq, not_false_eq_true, if_true, Sem.run_bind, run_part_plain w (ps hu) hx, run_part_plain w (ps hu) hy, run_equalIn_string w d _ _ _ hu, Result.andThen_ok]
      cases h1 : (a.toList == b.toList) <;> simp [ih]
  | [], _ :: _, _, h, _ => by simp at h
  | _ :: _, [], _, h, _ => by simp at h
/-- A type whose values are compared field by field. -/
structure EqT (P : Program) (t : Nat) (tb : List (Nat × Nat)) : Prop where
  guard : P.eqGuardType P.depth t = false
  under : P.underlying t = some (.struct (P.fieldsOf t))
  held : P.stoodInHeld t = false
  tab : (P.fieldsOf t).toList.map (fun f => (f.name != "_", f.type, f.offset)) = tb.map (fun x => (true, x.1, x.2))
theorem struct_eql {t : Nat} {tb : List (Nat × Nat)} (T : EqT P t tb) {x y : Operand} {xs ys : Array Value} {q : Bool} (e : EqF P xs ys tb q) {w : World} {K : Value → Prop} (hK : K (.bool q)) : semR P (do eqGuard .eql t x y (.agg xs) (.agg ys); binOp .eql t (.agg xs) (.agg ys)) w K := by
  unfold semR
  have := eqF_run w 9998 T.tab e
  simp only [Sem.run_bind, run_eqGuard_agg w .eql t x y xs ys T.guard, Result.andThen_ok, run_eql_struct, run_equalIn_struct w 9999 t xs ys T.under T.held, this]
  exact ⟨trivial, hK⟩
theorem struct_neq {t : Nat} {tb : List (Nat × Nat)} (T : EqT P t tb) {x y : Operand} {xs ys : Array Value} {q : Bool} (e : EqF P xs ys tb q) {w : World} {K : Value → Prop} (hK : K (.bool (!q))) : semR P (do eqGuard .neq t x y (.agg xs) (.agg ys); binOp .neq t (.agg xs) (.agg ys)) w K := by
  unfold semR
  have := eqF_run w 9998 T.tab e
  simp only [Sem.run_bind, run_eqGuard_agg w .neq t x y xs ys T.guard, Result.andThen_ok, run_neq_struct, run_equalIn_struct w 9999 t xs ys T.under T.held, this]
  exact ⟨trivial, hK⟩

/-! ### make with a capacity, elements of any size -/
theorem make_empty {t e sz by_ : Nat} (T : SlT P t e sz by_) {w : World} {c : Nat} (hb : by_ * c ≤ 281474976710656) (h63 : c ≤ 9223372036854775807) {K : Value → World → Prop}
    (hK : ∀ b w', Own w' e sz (some ⟨b, 0, .none⟩) 0 c [] → Chg None w w' → w.heap.size ≤ b → K (.slice (some ⟨b, 0, .none⟩) 0 c) w') : sem P (Instr.makeSlice t (.int .i64 0) (.int .i64 (c : Int))) w K := by
  obtain ⟨i, z, hi, hz, rfl, rfl, hzs⟩ := T.get
  have hb' : (i.bytes : Int) * (c : Int) ≤ 281474976710656 := by
    have h : ((i.bytes * c : Nat) : Int) ≤ 281474976710656 := by omega
    rwa [Int.natCast_mul] at h
  unfold sem
  rw [run_make (P := P) w t e i z T.ht hi hz .i64 .i64 0 c (by omega) (by omega) hb' (by omega)]
  simp only [Int.toNat_natCast]
  refine hK _ _ ⟨by simp, .inr ⟨w.heap.size, (madeCells z.cells (c * i.size)).toList, rfl, ?_, by simp [size_madeCells], Nat.zero_le _⟩⟩ (chg_alloc w _) (Nat.le_refl _)
  simpa using blk_alloc (w := w) (t := e) (cs := madeCells z.cells (c * i.size))

/-! ### lists of structs -/
theorem flat_get {α : Type} (enc : α → List Value) (sz : Nat) (hs : ∀ x, (enc x).length = sz) : ∀ (l : List α) (i j : Nat) (x : α), l[i]? = some x → j < sz → (l.flatMap enc)[i * sz + j]? = (enc x)[j]?
  | [], i, _, _, h, _ => by simp at h
  | y :: l, 0, j, x, h, hj => by
    simp only [List.getElem?_cons_zero, Option.some.injEq] at h; subst h
    rw [List.flatMap_cons, Nat.zero_mul, Nat.zero_add, List.getElem?_append_left (by rw [hs]; exact hj)]
  | y :: l, i + 1, j, x, h, hj => by
    simp only [List.getElem?_cons_succ] at h
    rw [List.flatMap_cons, List.getElem?_append_right (by rw [hs, Nat.add_mul]; omega), hs, show (i + 1) * sz + j - sz = i * sz + j by rw [Nat.add_mul]; omega]
    exact flat_get enc sz hs l i j x h hj
theorem flat_len {α : Type} (enc : α → List Value) (sz : Nat) (hs : ∀ x, (enc x).length = sz) (l : List α) : (l.flatMap enc).length = l.length * sz := by
  induction l with
  | nil => simp
  | cons x l ih => rw [List.flatMap_cons, List.length_append, ih, hs, List.length_cons, Nat.add_mul]; omega
/-- field j of element i -/
theorem rd_fld {α : Type} {enc : α → List Value} {sz : Nat} (hs : ∀ x, (enc x).length = sz) {w : World} {S : Nat → Prop} {p : Addr} {l : List α} (h : Lies w S (some p) (l.flatMap enc)) {i : Int} {x : α} (hx : l[i.toNat]? = some x) {j : Nat} {v : Value} (hv : (enc x)[j]? = some v) : w.cell? ((p.add (Int.toNat i * sz)).add j) = some v := by
  have hj : j < sz := by have := (List.getElem?_eq_some_iff.1 hv).1; rwa [hs] at this
  obtain ⟨q, hq, _, hc⟩ := h (i.toNat * sz + j) v (by rw [flat_get enc sz hs l _ j x hx hj]; exact hv)
  cases hq
  rw [add_add']; exact hc
theorem lies_flat_some {α : Type} {enc : α → List Value} {sz : Nat} (hs : ∀ x, (enc x).length = sz) (h0 : 0 < sz) {w : World} {S : Nat → Prop} {a : Option Addr} {l : List α} (h : Lies w S a (l.flatMap enc)) {i : Nat} (hi : i < l.length) : ∃ p, a = some p := by
  refine h.some (j := i * sz) ?_
  rw [flat_len enc sz hs]
  exact Nat.mul_lt_mul_of_pos_right hi h0
end Go.Sh
/-! ## ShL9 -/
namespace Go.Sh
open Go.ChangeShapes
section
variable {w : World} {b : Nat} {t : TypeId}
theorem Blk.rd {l : List Value} (h : Blk w b t l) (j : Nat) {v : Value} (hv : l[j]? = some v) : w.cell? ((⟨b, 0, none⟩ : Addr).add j) = some v := by
  rw [Addr.add_lit, Nat.zero_add, h.cell]; exact hv
/-- in a box that lies further in -/
theorem Blk.rd2 {l : List Value} (h : Blk w b t l) (i j : Nat) {v : Value} (hv : l[i + j]? = some v) : w.cell? (((⟨b, 0, none⟩ : Addr).add i).add j) = some v := by
  rw [add_add', Addr.add_lit, Nat.zero_add, h.cell]; exact hv
theorem opnI_c {k : IntKind} {o : Option Value} {n : Int} (h : o = some (.int k n)) {K : Int → Prop} (hK : K n) : opnI k o K := by subst h; exact ⟨rfl, hK⟩
theorem opnB_c {o : Option Value} {n : Bool} (h : o = some (.bool n)) {K : Bool → Prop} (hK : K n) : opnB o K := by subst h; exact hK
theorem opnS_c {o : Option Value} {n : ByteArray} (h : o = some (.string n)) {K : ByteArray → Prop} (hK : K n) : opnS o K := by subst h; exact hK
theorem opnL_c {o : Option Value} {a : Option Addr} {n c : Nat} (h : o = some (.slice a n c)) {K : Option Addr → Nat → Nat → Prop} (hK : K a n c) : opnL o K := by subst h; exact hK
theorem opnP_c {o : Option Value} {a : Option Addr} (h : o = some (.pointer a)) {K : Option Addr → Prop} (hK : K a) : opnP o K := by subst h; exact hK
theorem opnM_c {o : Option Value} {a : Option Nat} (h : o = some (.map a)) {K : Option Nat → Prop} (hK : K a) : opnM o K := by subst h; exact hK
theorem opnV_c {o : Option Value} {v : Value} (h : o = some v) {K : Value → Prop} (hK : K v) : opnV o K := by subst h; exact hK
theorem box_stL {K : World → Prop} : ∀ (vs done old : List Value) (w : World), Blk w b t (done ++ old) → vs.length = old.length → (∀ v ∈ vs, v.oneCell' = true) → (∀ w', Blk w' b t (done ++ vs) → Chg (fun k => k = b) w w' → K w') → stL ⟨b, 0, none⟩ done.length vs w K
  | [], done, old, w, h, hl, _, hK => by
    have : old = [] := List.eq_nil_of_length_eq_zero hl.symm
    subst this
    exact hK w h (Chg.refl _ _)
  | v :: vs, done, x :: old, w, h, hl, h1, hK => by
    show stC ((⟨b, 0, none⟩ : Addr).add done.length) v w fun w' => stL ⟨b, 0, none⟩ (done.length + 1) vs w' K
    rw [Addr.add_lit, Nat.zero_add]
    refine h.store (by simp) (h1 v (by simp)) fun h' k' => ?_
    rw [set_mid] at h'
    have := box_stL (K := K) vs (done ++ [v]) old _ (by simpa using h') (by simpa using hl) (fun u hu => h1 u (by simp [hu])) (fun w' hb k => hK w' (by simpa using hb) (Chg.trans k' k (fun _ _ h => h) (fun _ _ h => h)))
    simpa using this
  | _ :: _, _, [], _, _, hl, _, _ => by simp at hl
theorem box_all {K : World → Prop} {vs old : List Value} (h : Blk w b t old) (hl : vs.length = old.length) (h1 : ∀ v ∈ vs, v.oneCell' = true) (hK : ∀ w', Blk w' b t vs → Chg (fun k => k = b) w w' → K w') : stL ⟨b, 0, none⟩ 0 vs w K := box_stL vs [] old w h hl h1 hK
theorem box_set {l : List Value} (h : Blk w b t l) {j : Nat} (hj : j < l.length) {v : Value} (hv : v.oneCell' = true) {K : World → Prop} (hK : ∀ w', Blk w' b t (l.set j v) → Chg (fun k => k = b) w w' → K w') : stC ((⟨b, 0, none⟩ : Addr).add j) v w K := by
  rw [Addr.add_lit, Nat.zero_add]
  exact h.store hj hv fun h' k' => hK _ h' k'
theorem alC_box {cs : Array Value} {K : Addr → World → Prop} (hK : ∀ b w', Blk w' b t cs.toList → Chg None w w' → w.heap.size ≤ b → K ⟨b, 0, none⟩ w') : alC cs t w K := hK _ _ blk_alloc (chg_alloc w _) (Nat.le_refl _)
theorem box2 {old : List Value} {v0 v1 : Value} {K : World → Prop} (h : Blk w b t old) (hl : old.length = 2) (h1 : ([v0, v1] : List Value).all Value.oneCell' = true) (hK : ∀ w', Blk w' b t [v0, v1] → Chg (fun k => k = b) w w' → K w') : stC ((⟨b, 0, none⟩ : Addr).add 0) v0 w fun w1 => stC ((⟨b, 0, none⟩ : Addr).add 1) v1 w1 fun w2 => K w2 := box_all h (by rw [hl]; rfl) (List.all_eq_true.1 h1) hK
theorem box3 {old : List Value} {v0 v1 v2 : Value} {K : World → Prop} (h : Blk w b t old) (hl : old.length = 3) (h1 : ([v0, v1, v2] : List Value).all Value.oneCell' = true) (hK : ∀ w', Blk w' b t [v0, v1, v2] → Chg (fun k => k = b) w w' → K w') : stC ((⟨b, 0, none⟩ : Addr).add 0) v0 w fun w1 => stC ((⟨b, 0, none⟩ : Addr).add 1) v1 w1 fun w2 => stC ((⟨b, 0, none⟩ : Addr).add 2) v2 w2 fun w3 => K w3 := box_all h (by rw [hl]; rfl) (List.all_eq_true.1 h1) hK
theorem box4 {old : List Value} {v0 v1 v2 v3 : Value} {K : World → Prop} (h : Blk w b t old) (hl : old.length = 4) (h1 : ([v0, v1, v2, v3] : List Value).all Value.oneCell' = true) (hK : ∀ w', Blk w' b t [v0, v1, v2, v3] → Chg (fun k => k = b) w w' → K w') : stC ((⟨b, 0, none⟩ : Addr).add 0) v0 w fun w1 => stC ((⟨b, 0, none⟩ : Addr).add 1) v1 w1 fun w2 => stC ((⟨b, 0, none⟩ : Addr).add 2) v2 w2 fun w3 => stC ((⟨b, 0, none⟩ : Addr).add 3) v3 w3 fun w4 => K w4 := box_all h (by rw [hl]; rfl) (List.all_eq_true.1 h1) hK
theorem box5 {old : List Value} {v0 v1 v2 v3 v4 : Value} {K : World → Prop} (h : Blk w b t old) (hl : old.length = 5) (h1 : ([v0, v1, v2, v3, v4] : List Value).all Value.oneCell' = true) (hK : ∀ w', Blk w' b t [v0, v1, v2, v3, v4] → Chg (fun k => k = b) w w' → K w') : stC ((⟨b, 0, none⟩ : Addr).add 0) v0 w fun w1 => stC ((⟨b, 0, none⟩ : Addr).add 1) v1 w1 fun w2 => stC ((⟨b, 0, none⟩ : Addr).add 2) v2 w2 fun w3 => stC ((⟨b, 0, none⟩ : Addr).add 3) v3 w3 fun w4 => stC ((⟨b, 0, none⟩ : Addr).add 4) v4 w4 fun w5 => K w5 := box_all h (by rw [hl]; rfl) (List.all_eq_true.1 h1) hK
theorem box6 {old : List Value} {v0 v1 v2 v3 v4 v5 : Value} {K : World → Prop} (h : Blk w b t old) (hl : old.length = 6) (h1 : ([v0, v1, v2, v3, v4, v5] : List Value).all Value.oneCell' = true) (hK : ∀ w', Blk w' b t [v0, v1, v2, v3, v4, v5] → Chg (fun k => k = b) w w' → K w') : stC ((⟨b, 0, none⟩ : Addr).add 0) v0 w fun w1 => stC ((⟨b, 0, none⟩ : Addr).add 1) v1 w1 fun w2 => stC ((⟨b, 0, none⟩ : Addr).add 2) v2 w2 fun w3 => stC ((⟨b, 0, none⟩ : Addr).add 3) v3 w3 fun w4 => stC ((⟨b, 0, none⟩ : Addr).add 4) v4 w4 fun w5 => stC ((⟨b, 0, none⟩ : Addr).add 5) v5 w5 fun w6 => K w6 := box_all h (by rw [hl]; rfl) (List.all_eq_true.1 h1) hK
theorem box7 {old : List Value} {v0 v1 v2 v3 v4 v5 v6 : Value} {K : World → Prop} (h : Blk w b t old) (hl : old.length = 7) (h1 : ([v0, v1, v2, v3, v4, v5, v6] : List Value).all Value.oneCell' = true) (hK : ∀ w', Blk w' b t [v0, v1, v2, v3, v4, v5, v6] → Chg (fun k => k = b) w w' → K w') : stC ((⟨b, 0, none⟩ : Addr).add 0) v0 w fun w1 => stC ((⟨b, 0, none⟩ : Addr).add 1) v1 w1 fun w2 => stC ((⟨b, 0, none⟩ : Addr).add 2) v2 w2 fun w3 => stC ((⟨b, 0, none⟩ : Addr).add 3) v3 w3 fun w4 => stC ((⟨b, 0, none⟩ : Addr).add 4) v4 w4 fun w5 => stC ((⟨b, 0, none⟩ : Addr).add 5) v5 w5 fun w6 => stC ((⟨b, 0, none⟩ : Addr).add 6) v6 w6 fun w7 => K w7 := box_all h (by rw [hl]; rfl) (List.all_eq_true.1 h1) hK
theorem box8 {old : List Value} {v0 v1 v2 v3 v4 v5 v6 v7 : Value} {K : World → Prop} (h : Blk w b t old) (hl : old.length = 8) (h1 : ([v0, v1, v2, v3, v4, v5, v6, v7] : List Value).all Value.oneCell' = true) (hK : ∀ w', Blk w' b t [v0, v1, v2, v3, v4, v5, v6, v7] → Chg (fun k => k = b) w w' → K w') : stC ((⟨b, 0, none⟩ : Addr).add 0) v0 w fun w1 => stC ((⟨b, 0, none⟩ : Addr).add 1) v1 w1 fun w2 => stC ((⟨b, 0, none⟩ : Addr).add 2) v2 w2 fun w3 => stC ((⟨b, 0, none⟩ : Addr).add 3) v3 w3 fun w4 => stC ((⟨b, 0, none⟩ : Addr).add 4) v4 w4 fun w5 => stC ((⟨b, 0, none⟩ : Addr).add 5) v5 w5 fun w6 => stC ((⟨b, 0, none⟩ : Addr).add 6) v6 w6 fun w7 => stC ((⟨b, 0, none⟩ : Addr).add 7) v7 w7 fun w8 => K w8 := box_all h (by rw [hl]; rfl) (List.all_eq_true.1 h1) hK
theorem box9 {old : List Value} {v0 v1 v2 v3 v4 v5 v6 v7 v8 : Value} {K : World → Prop} (h : Blk w b t old) (hl : old.length = 9) (h1 : ([v0, v1, v2, v3, v4, v5, v6, v7, v8] : List Value).all Value.oneCell' = true) (hK : ∀ w', Blk w' b t [v0, v1, v2, v3, v4, v5, v6, v7, v8] → Chg (fun k => k = b) w w' → K w') : stC ((⟨b, 0, none⟩ : Addr).add 0) v0 w fun w1 => stC ((⟨b, 0, none⟩ : Addr).add 1) v1 w1 fun w2 => stC ((⟨b, 0, none⟩ : Addr).add 2) v2 w2 fun w3 => stC ((⟨b, 0, none⟩ : Addr).add 3) v3 w3 fun w4 => stC ((⟨b, 0, none⟩ : Addr).add 4) v4 w4 fun w5 => stC ((⟨b, 0, none⟩ : Addr).add 5) v5 w5 fun w6 => stC ((⟨b, 0, none⟩ : Addr).add 6) v6 w6 fun w7 => stC ((⟨b, 0, none⟩ : Addr).add 7) v7 w7 fun w8 => stC ((⟨b, 0, none⟩ : Addr).add 8) v8 w8 fun w9 => K w9 := box_all h (by rw [hl]; rfl) (List.all_eq_true.1 h1) hK
theorem box10 {old : List Value} {v0 v1 v2 v3 v4 v5 v6 v7 v8 v9 : Value} {K : World → Prop} (h : Blk w b t old) (hl : old.length = 10) (h1 : ([v0, v1, v2, v3, v4, v5, v6, v7, v8, v9] : List Value).all Value.oneCell' = true) (hK : ∀ w', Blk w' b t [v0, v1, v2, v3, v4, v5, v6, v7, v8, v9] → Chg (fun k => k = b) w w' → K w') : stC ((⟨b, 0, none⟩ : Addr).add 0) v0 w fun w1 => stC ((⟨b, 0, none⟩ : Addr).add 1) v1 w1 fun w2 => stC ((⟨b, 0, none⟩ : Addr).add 2) v2 w2 fun w3 => stC ((⟨b, 0, none⟩ : Addr).add 3) v3 w3 fun w4 => stC ((⟨b, 0, none⟩ : Addr).add 4) v4 w4 fun w5 => stC ((⟨b, 0, none⟩ : Addr).add 5) v5 w5 fun w6 => stC ((⟨b, 0, none⟩ : Addr).add 6) v6 w6 fun w7 => stC ((⟨b, 0, none⟩ : Addr).add 7) v7 w7 fun w8 => stC ((⟨b, 0, none⟩ : Addr).add 8) v8 w8 fun w9 => stC ((⟨b, 0, none⟩ : Addr).add 9) v9 w9 fun w10 => K w10 := box_all h (by rw [hl]; rfl) (List.all_eq_true.1 h1) hK
theorem box11 {old : List Value} {v0 v1 v2 v3 v4 v5 v6 v7 v8 v9 v10 : Value} {K : World → Prop} (h : Blk w b t old) (hl : old.length = 11) (h1 : ([v0, v1, v2, v3, v4, v5, v6, v7, v8, v9, v10] : List Value).all Value.oneCell' = true) (hK : ∀ w', Blk w' b t [v0, v1, v2, v3, v4, v5, v6, v7, v8, v9, v10] → Chg (fun k => k = b) w w' → K w') : stC ((⟨b, 0, none⟩ : Addr).add 0) v0 w fun w1 => stC ((⟨b, 0, none⟩ : Addr).add 1) v1 w1 fun w2 => stC ((⟨b, 0, none⟩ : Addr).add 2) v2 w2 fun w3 => stC ((⟨b, 0, none⟩ : Addr).add 3) v3 w3 fun w4 => stC ((⟨b, 0, none⟩ : Addr).add 4) v4 w4 fun w5 => stC ((⟨b, 0, none⟩ : Addr).add 5) v5 w5 fun w6 => stC ((⟨b, 0, none⟩ : Addr).add 6) v6 w6 fun w7 => stC ((⟨b, 0, none⟩ : Addr).add 7) v7 w7 fun w8 => stC ((⟨b, 0, none⟩ : Addr).add 8) v8 w8 fun w9 => stC ((⟨b, 0, none⟩ : Addr).add 9) v9 w9 fun w10 => stC ((⟨b, 0, none⟩ : Addr).add 10) v10 w10 fun w11 => K w11 := box_all h (by rw [hl]; rfl) (List.all_eq_true.1 h1) hK
theorem box12 {old : List Value} {v0 v1 v2 v3 v4 v5 v6 v7 v8 v9 v10 v11 : Value} {K : World → Prop} (h : Blk w b t old) (hl : old.length = 12) (h1 : ([v0, v1, v2, v3, v4, v5, v6, v7, v8, v9, v10, v11] : List Value).all Value.oneCell' = true) (hK : ∀ w', Blk w' b t [v0, v1, v2, v3, v4, v5, v6, v7, v8, v9, v10, v11] → Chg (fun k => k = b) w w' → K w') : stC ((⟨b, 0, none⟩ : Addr).add 0) v0 w fun w1 => stC ((⟨b, 0, none⟩ : Addr).add 1) v1 w1 fun w2 => stC ((⟨b, 0, none⟩ : Addr).add 2) v2 w2 fun w3 => stC ((⟨b, 0, none⟩ : Addr).add 3) v3 w3 fun w4 => stC ((⟨b, 0, none⟩ : Addr).add 4) v4 w4 fun w5 => stC ((⟨b, 0, none⟩ : Addr).add 5) v5 w5 fun w6 => stC ((⟨b, 0, none⟩ : Addr).add 6) v6 w6 fun w7 => stC ((⟨b, 0, none⟩ : Addr).add 7) v7 w7 fun w8 => stC ((⟨b, 0, none⟩ : Addr).add 8) v8 w8 fun w9 => stC ((⟨b, 0, none⟩ : Addr).add 9) v9 w9 fun w10 => stC ((⟨b, 0, none⟩ : Addr).add 10) v10 w10 fun w11 => stC ((⟨b, 0, none⟩ : Addr).add 11) v11 w11 fun w12 => K w12 := box_all h (by rw [hl]; rfl) (List.all_eq_true.1 h1) hK
/-- a box made and filled -/
theorem mkbox2 {v0 v1 z0 z1 : Value} {K : Addr → World → Prop} (h1 : ([v0, v1] : List Value).all Value.oneCell' = true) (hK : ∀ b w', Blk w' b t [v0, v1] → Chg None w w' → w.heap.size ≤ b → K ⟨b, 0, none⟩ w') : alC #[z0, z1] t w fun p w0 => Array.size (#[v0, v1] : Array Value) = 2 ∧ stC (p.add 0) v0 w0 fun w1 => stC (p.add 1) v1 w1 fun w2 => K p w2 := by
  refine alC_box fun b w' hb k hlt => ⟨rfl, box2 hb rfl h1 fun w2 hb2 k2 => ?_⟩
  exact hK b w2 hb2 (Chg.fresh k k2 fun x hx => by rw [hx]; exact hlt) hlt
/-- a box made and filled -/
theorem mkbox3 {v0 v1 v2 z0 z1 z2 : Value} {K : Addr → World → Prop} (h1 : ([v0, v1, v2] : List Value).all Value.oneCell' = true) (hK : ∀ b w', Blk w' b t [v0, v1, v2] → Chg None w w' → w.heap.size ≤ b → K ⟨b, 0, none⟩ w') : alC #[z0, z1, z2] t w fun p w0 => Array.size (#[v0, v1, v2] : Array Value) = 3 ∧ stC (p.add 0) v0 w0 fun w1 => stC (p.add 1) v1 w1 fun w2 => stC (p.add 2) v2 w2 fun w3 => K p w3 := by
  refine alC_box fun b w' hb k hlt => ⟨rfl, box3 hb rfl h1 fun w2 hb2 k2 => ?_⟩
  exact hK b w2 hb2 (Chg.fresh k k2 fun x hx => by rw [hx]; exact hlt) hlt
/-- a box made and filled -/
theorem mkbox4 {v0 v1 v2 v3 z0 z1 z2 z3 : Value} {K : Addr → World → Prop} (h1 : ([v0, v1, v2, v3] : List Value).all Value.oneCell' = true) (hK : ∀ b w', Blk w' b t [v0, v1, v2, v3] → Chg None w w' → w.heap.size ≤ b → K ⟨b, 0, none⟩ w') : alC #[z0, z1, z2, z3] t w fun p w0 => Array.size (#[v0, v1, v2, v3] : Array Value) = 4 ∧ stC (p.add 0) v0 w0 fun w1 => stC (p.add 1) v1 w1 fun w2 => stC (p.add 2) v2 w2 fun w3 => stC (p.add 3) v3 w3 fun w4 => K p w4 := by
  refine alC_box fun b w' hb k hlt => ⟨rfl, box4 hb rfl h1 fun w2 hb2 k2 => ?_⟩
  exact hK b w2 hb2 (Chg.fresh k k2 fun x hx => by rw [hx]; exact hlt) hlt
/-- a box made and filled -/
theorem mkbox5 {v0 v1 v2 v3 v4 z0 z1 z2 z3 z4 : Value} {K : Addr → World → Prop} (h1 : ([v0, v1, v2, v3, v4] : List Value).all Value.oneCell' = true) (hK : ∀ b w', Blk w' b t [v0, v1, v2, v3, v4] → Chg None w w' → w.heap.size ≤ b → K ⟨b, 0, none⟩ w') : alC #[z0, z1, z2, z3, z4] t w fun p w0 => Array.size (#[v0, v1, v2, v3, v4] : Array Value) = 5 ∧ stC (p.add 0) v0 w0 fun w1 => stC (p.add 1) v1 w1 fun w2 => stC (p.add 2) v2 w2 fun w3 => stC (p.add 3) v3 w3 fun w4 => stC (p.add 4) v4 w4 fun w5 => K p w5 := by
  refine alC_box fun b w' hb k hlt => ⟨rfl, box5 hb rfl h1 fun w2 hb2 k2 => ?_⟩
  exact hK b w2 hb2 (Chg.fresh k k2 fun x hx => by rw [hx]; exact hlt) hlt
/-- a box made and filled -/
theorem mkbox6 {v0 v1 v2 v3 v4 v5 z0 z1 z2 z3 z4 z5 : Value} {K : Addr → World → Prop} (h1 : ([v0, v1, v2, v3, v4, v5] : List Value).all Value.oneCell' = true) (hK : ∀ b w', Blk w' b t [v0, v1, v2, v3, v4, v5] → Chg None w w' → w.heap.size ≤ b → K ⟨b, 0, none⟩ w') : alC #[z0, z1, z2, z3, z4, z5] t w fun p w0 => Array.size (#[v0, v1, v2, v3, v4, v5] : Array Value) = 6 ∧ stC (p.add 0) v0 w0 fun w1 => stC (p.add 1) v1 w1 fun w2 => stC (p.add 2) v2 w2 fun w3 => stC (p.add 3) v3 w3 fun w4 => stC (p.add 4) v4 w4 fun w5 => stC (p.add 5) v5 w5 fun w6 => K p w6 := by
  refine alC_box fun b w' hb k hlt => ⟨rfl, box6 hb rfl h1 fun w2 hb2 k2 => ?_⟩
  exact hK b w2 hb2 (Chg.fresh k k2 fun x hx => by rw [hx]; exact hlt) hlt
/-- a box made and filled -/
theorem mkbox7 {v0 v1 v2 v3 v4 v5 v6 z0 z1 z2 z3 z4 z5 z6 : Value} {K : Addr → World → Prop} (h1 : ([v0, v1, v2, v3, v4, v5, v6] : List Value).all Value.oneCell' = true) (hK : ∀ b w', Blk w' b t [v0, v1, v2, v3, v4, v5, v6] → Chg None w w' → w.heap.size ≤ b → K ⟨b, 0, none⟩ w') : alC #[z0, z1, z2, z3, z4, z5, z6] t w fun p w0 => Array.size (#[v0, v1, v2, v3, v4, v5, v6] : Array Value) = 7 ∧ stC (p.add 0) v0 w0 fun w1 => stC (p.add 1) v1 w1 fun w2 => stC (p.add 2) v2 w2 fun w3 => stC (p.add 3) v3 w3 fun w4 => stC (p.add 4) v4 w4 fun w5 => stC (p.add 5) v5 w5 fun w6 => stC (p.add 6) v6 w6 fun w7 => K p w7 := by
  refine alC_box fun b w' hb k hlt => ⟨rfl, box7 hb rfl h1 fun w2 hb2 k2 => ?_⟩
  exact hK b w2 hb2 (Chg.fresh k k2 fun x hx => by rw [hx]; exact hlt) hlt
/-- a box made and filled -/
theorem mkbox8 {v0 v1 v2 v3 v4 v5 v6 v7 z0 z1 z2 z3 z4 z5 z6 z7 : Value} {K : Addr → World → Prop} (h1 : ([v0, v1, v2, v3, v4, v5, v6, v7] : List Value).all Value.oneCell' = true) (hK : ∀ b w', Blk w' b t [v0, v1, v2, v3, v4, v5, v6, v7] → Chg None w w' → w.heap.size ≤ b → K ⟨b, 0, none⟩ w') : alC #[z0, z1, z2, z3, z4, z5, z6, z7] t w fun p w0 => Array.size (#[v0, v1, v2, v3, v4, v5, v6, v7] : Array Value) = 8 ∧ stC (p.add 0) v0 w0 fun w1 => stC (p.add 1) v1 w1 fun w2 => stC (p.add 2) v2 w2 fun w3 => stC (p.add 3) v3 w3 fun w4 => stC (p.add 4) v4 w4 fun w5 => stC (p.add 5) v5 w5 fun w6 => stC (p.add 6) v6 w6 fun w7 => stC (p.add 7) v7 w7 fun w8 => K p w8 := by
  refine alC_box fun b w' hb k hlt => ⟨rfl, box8 hb rfl h1 fun w2 hb2 k2 => ?_⟩
  exact hK b w2 hb2 (Chg.fresh k k2 fun x hx => by rw [hx]; exact hlt) hlt
/-- a box made and filled -/
theorem mkbox9 {v0 v1 v2 v3 v4 v5 v6 v7 v8 z0 z1 z2 z3 z4 z5 z6 z7 z8 : Value} {K : Addr → World → Prop} (h1 : ([v0, v1, v2, v3, v4, v5, v6, v7, v8] : List Value).all Value.oneCell' = true) (hK : ∀ b w', Blk w' b t [v0, v1, v2, v3, v4, v5, v6, v7, v8] → Chg None w w' → w.heap.size ≤ b → K ⟨b, 0, none⟩ w') : alC #[z0, z1, z2, z3, z4, z5, z6, z7, z8] t w fun p w0 => Array.size (#[v0, v1, v2, v3, v4, v5, v6, v7, v8] : Array Value) = 9 ∧ stC (p.add 0) v0 w0 fun w1 => stC (p.add 1) v1 w1 fun w2 => stC (p.add 2) v2 w2 fun w3 => stC (p.add 3) v3 w3 fun w4 => stC (p.add 4) v4 w4 fun w5 => stC (p.add 5) v5 w5 fun w6 => stC (p.add 6) v6 w6 fun w7 => stC (p.add 7) v7 w7 fun w8 => stC (p.add 8) v8 w8 fun w9 => K p w9 := by
  refine alC_box fun b w' hb k hlt => ⟨rfl, box9 hb rfl h1 fun w2 hb2 k2 => ?_⟩
  exact hK b w2 hb2 (Chg.fresh k k2 fun x hx => by rw [hx]; exact hlt) hlt
/-- a box made and filled -/
theorem mkbox10 {v0 v1 v2 v3 v4 v5 v6 v7 v8 v9 z0 z1 z2 z3 z4 z5 z6 z7 z8 z9 : Value} {K : Addr → World → Prop} (h1 : ([v0, v1, v2, v3, v4, v5, v6, v7, v8, v9] : List Value).all Value.oneCell' = true) (hK : ∀ b w', Blk w' b t [v0, v1, v2, v3, v4, v5, v6, v7, v8, v9] → Chg None w w' → w.heap.size ≤ b → K ⟨b, 0, none⟩ w') : alC #[z0, z1, z2, z3, z4, z5, z6, z7, z8, z9] t w fun p w0 => Array.size (#[v0, v1, v2, v3, v4, v5, v6, v7, v8, v9] : Array Value) = 10 ∧ stC (p.add 0) v0 w0 fun w1 => stC (p.add 1) v1 w1 fun w2 => stC (p.add 2) v2 w2 fun w3 => stC (p.add 3) v3 w3 fun w4 => stC (p.add 4) v4 w4 fun w5 => stC (p.add 5) v5 w5 fun w6 => stC (p.add 6) v6 w6 fun w7 => stC (p.add 7) v7 w7 fun w8 => stC (p.add 8) v8 w8 fun w9 => stC (p.add 9) v9 w9 fun w10 => K p w10 := by
  refine alC_box fun b w' hb k hlt => ⟨rfl, box10 hb rfl h1 fun w2 hb2 k2 => ?_⟩
  exact hK b w2 hb2 (Chg.fresh k k2 fun x hx => by rw [hx]; exact hlt) hlt
/-- a box made and filled -/
theorem mkbox11 {v0 v1 v2 v3 v4 v5 v6 v7 v8 v9 v10 z0 z1 z2 z3 z4 z5 z6 z7 z8 z9 z10 : Value} {K : Addr → World → Prop} (h1 : ([v0, v1, v2, v3, v4, v5, v6, v7, v8, v9, v10] : List Value).all Value.oneCell' = true) (hK : ∀ b w', Blk w' b t [v0, v1, v2, v3, v4, v5, v6, v7, v8, v9, v10] → Chg None w w' → w.heap.size ≤ b → K ⟨b, 0, none⟩ w') : alC #[z0, z1, z2, z3, z4, z5, z6, z7, z8, z9, z10] t w fun p w0 => Array.size (#[v0, v1, v2, v3, v4, v5, v6, v7, v8, v9, v10] : Array Value) = 11 ∧ stC (p.add 0) v0 w0 fun w1 => stC (p.add 1) v1 w1 fun w2 => stC (p.add 2) v2 w2 fun w3 => stC (p.add 3) v3 w3 fun w4 => stC (p.add 4) v4 w4 fun w5 => stC (p.add 5) v5 w5 fun w6 => stC (p.add 6) v6 w6 fun w7 => stC (p.add 7) v7 w7 fun w8 => stC (p.add 8) v8 w8 fun w9 => stC (p.add 9) v9 w9 fun w10 => stC (p.add 10) v10 w10 fun w11 => K p w11 := by
  refine alC_box fun b w' hb k hlt => ⟨rfl, box11 hb rfl h1 fun w2 hb2 k2 => ?_⟩
  exact hK b w2 hb2 (Chg.fresh k k2 fun x hx => by rw [hx]; exact hlt) hlt
/-- a box made and filled -/
theorem mkbox12 {v0 v1 v2 v3 v4 v5 v6 v7 v8 v9 v10 v11 z0 z1 z2 z3 z4 z5 z6 z7 z8 z9 z10 z11 : Value} {K : Addr → World → Prop} (h1 : ([v0, v1, v2, v3, v4, v5, v6, v7, v8, v9, v10, v11] : List Value).all Value.oneCell' = true) (hK : ∀ b w', Blk w' b t [v0, v1, v2, v3, v4, v5, v6, v7, v8, v9, v10, v11] → Chg None w w' → w.heap.size ≤ b → K ⟨b, 0, none⟩ w') : alC #[z0, z1, z2, z3, z4, z5, z6, z7, z8, z9, z10, z11] t w fun p w0 => Array.size (#[v0, v1, v2, v3, v4, v5, v6, v7, v8, v9, v10, v11] : Array Value) = 12 ∧ stC (p.add 0) v0 w0 fun w1 => stC (p.add 1) v1 w1 fun w2 => stC (p.add 2) v2 w2 fun w3 => stC (p.add 3) v3 w3 fun w4 => stC (p.add 4) v4 w4 fun w5 => stC (p.add 5) v5 w5 fun w6 => stC (p.add 6) v6 w6 fun w7 => stC (p.add 7) v7 w7 fun w8 => stC (p.add 8) v8 w8 fun w9 => stC (p.add 9) v9 w9 fun w10 => stC (p.add 10) v10 w10 fun w11 => stC (p.add 11) v11 w11 fun w12 => K p w12 := by
  refine alC_box fun b w' hb k hlt => ⟨rfl, box12 hb rfl h1 fun w2 hb2 k2 => ?_⟩
  exact hK b w2 hb2 (Chg.fresh k k2 fun x hx => by rw [hx]; exact hlt) hlt
end
end Go.Sh
