/- ShR1, ShL5, ShL7, ShL11, ShL12, ShL13, ShL19, ShU3, StdOf, ShL22 -/
import Derived.Test.YtbckabomelngmaaDoorPkB
import Derived.ChangeSame
import Derived.OpenShut
import Derived.WideKeyArgs
import Derived.Below
import Derived.RowKit
import Derived.SizedLaws
import Derived.HandedShaped
import Derived.LaidMore
import Derived.Lay
import Derived.Lib.LaidTab
import Derived.Shelf.Vars
import Derived.ChangeArms
import Derived.Lib.LaidU8
import Derived.Test.YtbckabomelngmaaDoorPkC
import Derived.Test.YtbckabomelngmaaDoorRows
/-! ## ShR1 -/
set_option maxRecDepth 100000
namespace Go.Proofs.YtbckabomelngmaaDoor
open Go.Sh
/-! ### ledger/ledgerref07.line -/
noncomputable def B_r07_line : Code := match Tryd.f40.body with | some c => c | _ => .skip
noncomputable def X_r07_line : Cx := { P := PP, fn := 40, N := 19, tab := tab, results := [.tmp 2], iter := fun _ => (.none, .none), dyn := fun _ => false, live := fun _ => none }
theorem K_r07_line : OkF X_r07_line B_r07_line Tryd.f40 := ⟨⟨tab_ok, mix_ok⟩, Tryd.func40, by kernel_rfl, by kernel_rfl, by kernel_rfl, by kernel_rfl⟩
theorem C_r07_line_eq (Q : Value → World → Prop) (a0_0 : ByteArray) (a0_1 : Int) (a0_2 : Option Addr) (a0_2n : Nat) (a0_2c : Nat) (w : World) (h :
  alC #[.string a0_0, .int .u32 a0_1, .slice a0_2 a0_2n a0_2c] 77 w fun p1 w2 =>
  opnI .u32 (w2.cell? (p1.add 1)) fun x3 =>
  C_r07_four #[.int .u32 x3] w2 fun v4 w5 =>
  opnL (some v4) fun x6 x6n x6c =>
  opnL (w5.cell? (p1.add 2)) fun x7 x7n x7c =>
  sem PP (Builtin.append_ #[22, 22] 22 #[.slice x6 x6n x6c, .slice x7 x7n x7c]) w5 fun v8 w9 =>
  opnL (some v8) fun x10 x10n x10c =>
  drw w9 fun w11 =>
  opnS (w11.cell? (p1.add 0)) fun x12 =>
  (⟨#[226, 128, 148, 32]⟩ : ByteArray).size + x12.size ≤ 9223372036854775807 ∧
  ((⟨#[226, 128, 148, 32]⟩ : ByteArray) ++ x12).size + (⟨#[32]⟩ : ByteArray).size ≤ 9223372036854775807 ∧
  C_r06_EncodeBase64 #[.slice x10 x10n x10c] w11 fun v13 w14 =>
  opnS (some v13) fun x15 =>
  (opnS (w14.cell? (p1.add 0)) fun x16 =>
  ((.string x16) : Value) = .string x12) ∧
  (((⟨#[226, 128, 148, 32]⟩ : ByteArray) ++ x12) ++ (⟨#[32]⟩ : ByteArray)).size + x15.size ≤ 9223372036854775807 ∧
  ((((⟨#[226, 128, 148, 32]⟩ : ByteArray) ++ x12) ++ (⟨#[32]⟩ : ByteArray)) ++ x15).size + (⟨#[10]⟩ : ByteArray).size ≤ 9223372036854775807 ∧
  Q (.string (((((⟨#[226, 128, 148, 32]⟩ : ByteArray) ++ x12) ++ (⟨#[32]⟩ : ByteArray)) ++ x15) ++ (⟨#[10]⟩ : ByteArray))) w14) :
C_r07_line #[.agg #[.string a0_0, .int .u32 a0_1, .slice a0_2 a0_2n a0_2c]] w Q := C_fold K_r07_line (by kernel_rfl) h
/-! ### ledger/text.Cut -/
noncomputable def B_text_Cut : Code := match Tryd.f41.body with | some c => c | _ => .skip
noncomputable def X_text_Cut : Cx := { P := PP, fn := 41, N := 21, tab := tab, results := [.tmp 2, .tmp 3, .tmp 4], iter := fun _ => (.none, .none), dyn := fun _ => false, live := fun _ => none }
theorem K_text_Cut : OkF X_text_Cut B_text_Cut Tryd.f41 := ⟨⟨tab_ok, mix_ok⟩, Tryd.func41, by kernel_rfl, by kernel_rfl, by kernel_rfl, by kernel_rfl⟩
theorem C_text_Cut_eq (Q : Value → World → Prop) (a0 : ByteArray) (w : World) (h :
  cond (decide (((a0.size : Nat) : Int) > 1048576))
  (Q (.tuple #[.string (⟨#[]⟩ : ByteArray), .string (⟨#[]⟩ : ByteArray), .bool false]) w)
  (C_strings_LastIndex #[.string a0, .string (⟨#[10, 10]⟩ : ByteArray)] w fun v1 w2 =>
  opnI .i64 (some v1) fun x3 =>
  cond (decide (x3 < 0))
  (Q (.tuple #[.string (⟨#[]⟩ : ByteArray), .string (⟨#[]⟩ : ByteArray), .bool false]) w2)
  (drw w2 fun w4 =>
  (0 : Int) ≤ (IntKind.wrap .i64 (x3 + 1)) ∧
  (IntKind.wrap .i64 (x3 + 1)) ≤ ((a0.size : Nat) : Int) ∧
  (0 : Int) ≤ (IntKind.wrap .i64 (x3 + 2)) ∧
  (IntKind.wrap .i64 (x3 + 2)) ≤ ((a0.size : Nat) : Int) ∧
  Q (.tuple #[.string (a0.extract 0 (Int.toNat (IntKind.wrap .i64 (x3 + 1)))), .string (a0.extract (Int.toNat (IntKind.wrap .i64 (x3 + 2))) a0.size), .bool true]) w4))) :
C_text_Cut #[.string a0] w Q := C_fold K_text_Cut (by kernel_rfl) h
/-! ### ledger/note.line -/
noncomputable def B_note_line : Code := match Tryd.f43.body with | some c => c | _ => .skip
noncomputable def X_note_line : Cx := { P := PP, fn := 43, N := 74, tab := tab, results := [.cell 2 39, .tmp 3], iter := fun _ => (.none, .none), dyn := fun _ => false, live := fun r => cond (Nat.beq r 6) (some [2]) (cond (Nat.beq r 9) (some [2]) (none)) }
theorem K_note_line : OkF X_note_line B_note_line Tryd.f43 := ⟨⟨tab_ok, mix_ok⟩, Tryd.func43, by kernel_rfl, by kernel_rfl, by kernel_rfl, by kernel_rfl⟩
noncomputable def N_note_line.j6 (Q : Value → World → Prop) (s2 : Addr) (w : World) : Prop := Nd X_note_line Q [(2, 2, .pointer (some s2))] [.code (B_note_line.r.r.r.r.l.r.l.l), .code (B_note_line.r.r.r.r.l.r.l.r), .code (B_note_line.r.r.r.r.r)] w
noncomputable def N_note_line.j9 (Q : Value → World → Prop) (s2 : Addr) (w : World) : Prop := Nd X_note_line Q [(2, 2, .pointer (some s2))] [.code (B_note_line.r.r.r.r.r.r.l.r.l.l), .code (B_note_line.r.r.r.r.r.r.l.r.l.r), .code (B_note_line.r.r.r.r.r.r.r)] w
theorem N_note_line.j6_eq (Q : Value → World → Prop) (s2 : Addr) (w : World) (h :
  Array.size (#[.string (⟨#[]⟩ : ByteArray), .int .u32 0, .slice none 0 0] : Array Value) = 3 ∧
  stC (s2.add 0) (.string (⟨#[]⟩ : ByteArray)) w fun w1 =>
  stC (s2.add 1) (.int .u32 0) w1 fun w2 =>
  stC (s2.add 2) (.slice none 0 0) w2 fun w3 =>
  opnS (w3.cell? (s2.add 0)) fun x4 =>
  opnI .u32 (w3.cell? (s2.add 1)) fun x5 =>
  opnL (w3.cell? (s2.add 2)) fun x6 x6n x6c =>
  Q (.tuple #[.agg #[.string x4, .int .u32 x5, .slice x6 x6n x6c], .bool false]) w3) :
N_note_line.j6 Q s2 w := Nd_fold K_note_line (by kernel_rfl) h
theorem N_note_line.j9_eq (Q : Value → World → Prop) (s2 : Addr) (w : World) (h :
  Array.size (#[.string (⟨#[]⟩ : ByteArray), .int .u32 0, .slice none 0 0] : Array Value) = 3 ∧
  stC (s2.add 0) (.string (⟨#[]⟩ : ByteArray)) w fun w1 =>
  stC (s2.add 1) (.int .u32 0) w1 fun w2 =>
  stC (s2.add 2) (.slice none 0 0) w2 fun w3 =>
  opnS (w3.cell? (s2.add 0)) fun x4 =>
  opnI .u32 (w3.cell? (s2.add 1)) fun x5 =>
  opnL (w3.cell? (s2.add 2)) fun x6 x6n x6c =>
  Q (.tuple #[.agg #[.string x4, .int .u32 x5, .slice x6 x6n x6c], .bool false]) w3) :
N_note_line.j9 Q s2 w := Nd_fold K_note_line (by kernel_rfl) h
theorem C_note_line_eq (Q : Value → World → Prop) (a0 : ByteArray) (w : World) (h :
  alC #[.string (⟨#[]⟩ : ByteArray), .int .u32 0, .slice none 0 0] 39 w fun p1 w2 =>
  C_strings_CutPrefix #[.string a0, .string (⟨#[226, 128, 148, 32]⟩ : ByteArray)] w2 fun v3 w4 =>
  opnT (some v3) fun x5 =>
  x5.size = 2 ∧
  opnS (x5[0]?) fun x6 =>
  opnB (x5[1]?) fun x7 =>
  cond (!x7)
  (Array.size (#[.string (⟨#[]⟩ : ByteArray), .int .u32 0, .slice none 0 0] : Array Value) = 3 ∧
  stC (p1.add 0) (.string (⟨#[]⟩ : ByteArray)) w4 fun w8 =>
  stC (p1.add 1) (.int .u32 0) w8 fun w9 =>
  stC (p1.add 2) (.slice none 0 0) w9 fun w10 =>
  opnS (w10.cell? (p1.add 0)) fun x11 =>
  opnI .u32 (w10.cell? (p1.add 1)) fun x12 =>
  opnL (w10.cell? (p1.add 2)) fun x13 x13n x13c =>
  Q (.tuple #[.agg #[.string x11, .int .u32 x12, .slice x13 x13n x13c], .bool false]) w10)
  (C_strings_Cut #[.string x6, .string (⟨#[32]⟩ : ByteArray)] w4 fun v14 w15 =>
  opnT (some v14) fun x16 =>
  x16.size = 3 ∧
  opnS (x16[0]?) fun x17 =>
  opnS (x16[1]?) fun x18 =>
  opnB (x16[2]?) fun x19 =>
  cond (!x19)
  (N_note_line.j6 Q p1 w15)
  (C_note_CheckName #[.string x17] w15 fun v20 w21 =>
  opnI .i64 (some v20) fun x22 =>
  cond (x22 != 0)
  (N_note_line.j6 Q p1 w21)
  (C_text_DecodeBase64 #[.string x18] w21 fun v23 w24 =>
  opnT (some v23) fun x25 =>
  x25.size = 2 ∧
  opnL (x25[0]?) fun x26 x26n x26c =>
  opnI .i64 (x25[1]?) fun x27 =>
  cond (x27 != 0)
  (N_note_line.j9 Q p1 w24)
  (cond (decide (((x26n : Nat) : Int) < 5))
  (N_note_line.j9 Q p1 w24)
  (drw w24 fun w28 =>
  (0 : Int) ≤ 0 ∧
  0 < ((x26n : Nat) : Int) ∧
  opnA x26 fun ad29 =>
  (0 : Int) ≤ 1 ∧
  1 < ((x26n : Nat) : Int) ∧
  opnA x26 fun ad30 =>
  (0 : Int) ≤ 2 ∧
  2 < ((x26n : Nat) : Int) ∧
  opnA x26 fun ad31 =>
  (0 : Int) ≤ 3 ∧
  3 < ((x26n : Nat) : Int) ∧
  opnA x26 fun ad32 =>
  opnI .u8 (w28.cell? (ad29.add (Int.toNat 0 * 1))) fun x33 =>
  opnI .u8 (w28.cell? (ad30.add (Int.toNat 1 * 1))) fun x34 =>
  opnI .u8 (w28.cell? (ad31.add (Int.toNat 2 * 1))) fun x35 =>
  opnI .u8 (w28.cell? (ad32.add (Int.toNat 3 * 1))) fun x36 =>
  (0 : Int) ≤ 4 ∧
  4 ≤ ((x26n : Nat) : Int) ∧
  sem PP (Builtin.append_ #[22, 22] 22 #[.slice none 0 0, .slice (slA x26 (Int.toNat 4) x26c 1) (x26n - (Int.toNat 4)) (x26c - (Int.toNat 4))]) w28 fun v37 w38 =>
  opnL (some v37) fun x39 x39n x39c =>
  Array.size (#[.string x17, .int .u32 (bits .or .u32 (bits .or .u32 (bits .or .u32 (shlI .u32 (IntKind.wrap .u32 x33) 24) (shlI .u32 (IntKind.wrap .u32 x34) 16)) (shlI .u32 (IntKind.wrap .u32 x35) 8)) (IntKind.wrap .u32 x36)), .slice x39 x39n x39c] : Array Value) = 3 ∧
  stC (p1.add 0) (.string x17) w38 fun w40 =>
  stC (p1.add 1) (.int .u32 (bits .or .u32 (bits .or .u32 (bits .or .u32 (shlI .u32 (IntKind.wrap .u32 x33) 24) (shlI .u32 (IntKind.wrap .u32 x34) 16)) (shlI .u32 (IntKind.wrap .u32 x35) 8)) (IntKind.wrap .u32 x36))) w40 fun w41 =>
  stC (p1.add 2) (.slice x39 x39n x39c) w41 fun w42 =>
  opnS (w42.cell? (p1.add 0)) fun x43 =>
  opnI .u32 (w42.cell? (p1.add 1)) fun x44 =>
  opnL (w42.cell? (p1.add 2)) fun x45 x45n x45c =>
  Q (.tuple #[.agg #[.string x43, .int .u32 x44, .slice x45 x45n x45c], .bool true]) w42)))))) :
C_note_line #[.string a0] w Q := C_fold K_note_line (by kernel_rfl) h
/-! ### ledger/ledgerref07.loose -/
noncomputable def B_r07_loose : Code := match Tryd.f44.body with | some c => c | _ => .skip
noncomputable def X_r07_loose : Cx := { P := PP, fn := 44, N := 91, tab := tab, results := [.cell 2 77], iter := fun _ => (.none, .none), dyn := fun _ => false, live := fun r => cond (Nat.beq r 3) (some [0, 2, 3, 4]) (cond (Nat.beq r 5) (some [0, 2, 3, 4]) (cond (Nat.beq r 6) (some [0, 2, 3, 4, 5]) (cond (Nat.beq r 8) (some [0, 2, 3, 4, 5]) (cond (Nat.beq r 9) (some [2, 3]) (cond (Nat.beq r 10) (some [0, 2, 3, 4, 5]) (cond (Nat.beq r 11) (some [0, 2, 3, 5]) (cond (Nat.beq r 12) (some [2, 3, 6, 7]) (cond (Nat.beq r 13) (some [2, 3]) (cond (Nat.beq r 14) (some [2, 3, 6]) (cond (Nat.beq r 15) (some [2, 3, 6]) (cond (Nat.beq r 16) (some [2, 3]) (none)))))))))))) }
theorem K_r07_loose : OkF X_r07_loose B_r07_loose Tryd.f44 := ⟨⟨tab_ok, mix_ok⟩, Tryd.func44, by kernel_rfl, by kernel_rfl, by kernel_rfl, by kernel_rfl⟩
noncomputable def N_r07_loose.j3 (Q : Value → World → Prop) (s0 : ByteArray) (s2 : Addr) (s3 : Addr) (s4 : Int) (w : World) : Prop := Nd X_r07_loose Q [(0, 0, .string s0), (2, 2, .pointer (some s2)), (3, 3, .pointer (some s3)), (4, 4, .int .i64 s4)] [.code (B_r07_loose.r.r.r.l.l.l.l.l), .code (B_r07_loose.r.r.r.l.l.l.l.r), .code (B_r07_loose.r.r.r.l.l.l.r), .inLoop (B_r07_loose.r.r.r.l.l.l), .inBlock 0, .code (B_r07_loose.r.r.r.r)] w
noncomputable def N_r07_loose.j5 (Q : Value → World → Prop) (s0 : ByteArray) (s2 : Addr) (s3 : Addr) (s4 : Int) (w : World) : Prop := Nd X_r07_loose Q [(0, 0, .string s0), (2, 2, .pointer (some s2)), (3, 3, .pointer (some s3)), (4, 4, .int .i64 s4)] [.code (B_r07_loose.r.r.r.r.l), .code (B_r07_loose.r.r.r.r.r)] w
noncomputable def N_r07_loose.j6 (Q : Value → World → Prop) (s0 : ByteArray) (s2 : Addr) (s3 : Addr) (s4 : Int) (s5 : Int) (w : World) : Prop := Nd X_r07_loose Q [(0, 0, .string s0), (2, 2, .pointer (some s2)), (3, 3, .pointer (some s3)), (4, 4, .int .i64 s4), (5, 5, .int .i64 s5)] [.code (B_r07_loose.r.r.r.r.r.l.l.l.l.l), .code (B_r07_loose.r.r.r.r.r.l.l.l.l.r), .code (B_r07_loose.r.r.r.r.r.l.l.l.r), .inLoop (B_r07_loose.r.r.r.r.r.l.l.l), .inBlock 2, .code (B_r07_loose.r.r.r.r.r.r)] w
noncomputable def N_r07_loose.j8 (Q : Value → World → Prop) (s0 : ByteArray) (s2 : Addr) (s3 : Addr) (s4 : Int) (s5 : Int) (w : World) : Prop := Nd X_r07_loose Q [(0, 0, .string s0), (2, 2, .pointer (some s2)), (3, 3, .pointer (some s3)), (4, 4, .int .i64 s4), (5, 5, .int .i64 s5)] [.code (B_r07_loose.r.r.r.r.r.r.l.l), .code (B_r07_loose.r.r.r.r.r.r.l.r), .code (B_r07_loose.r.r.r.r.r.r.r)] w
noncomputable def N_r07_loose.j9 (Q : Value → World → Prop) (s2 : Addr) (s3 : Addr) (w : World) : Prop := Nd X_r07_loose Q [(2, 2, .pointer (some s2)), (3, 3, .pointer (some s3))] [.code (B_r07_loose.r.r.r.r.r.r.l.r.l.l), .code (B_r07_loose.r.r.r.r.r.r.l.r.l.r), .code (B_r07_loose.r.r.r.r.r.r.r)] w
noncomputable def N_r07_loose.j10 (Q : Value → World → Prop) (s0 : ByteArray) (s2 : Addr) (s3 : Addr) (s4 : Int) (s5 : Int) (w : World) : Prop := Nd X_r07_loose Q [(0, 0, .string s0), (2, 2, .pointer (some s2)), (3, 3, .pointer (some s3)), (4, 4, .int .i64 s4), (5, 5, .int .i64 s5)] [.code (B_r07_loose.r.r.r.r.r.r.r.l), .code (B_r07_loose.r.r.r.r.r.r.r.r)] w
noncomputable def N_r07_loose.j11 (Q : Value → World → Prop) (s0 : ByteArray) (s2 : Addr) (s3 : Addr) (s5 : Int) (w : World) : Prop := Nd X_r07_loose Q [(0, 0, .string s0), (2, 2, .pointer (some s2)), (3, 3, .pointer (some s3)), (5, 5, .int .i64 s5)] [.code (B_r07_loose.r.r.r.r.r.r.r.r.l), .code (B_r07_loose.r.r.r.r.r.r.r.r.r)] w
noncomputable def N_r07_loose.j12 (Q : Value → World → Prop) (s2 : Addr) (s3 : Addr) (s6 : Option Addr) (s6n : Nat) (s6c : Nat) (s7 : Int) (w : World) : Prop := Nd X_r07_loose Q [(2, 2, .pointer (some s2)), (3, 3, .pointer (some s3)), (6, 6, .slice s6 s6n s6c), (7, 7, .int .i64 s7)] [.code (B_r07_loose.r.r.r.r.r.r.r.r.r.l.l), .code (B_r07_loose.r.r.r.r.r.r.r.r.r.l.r), .code (B_r07_loose.r.r.r.r.r.r.r.r.r.r)] w
noncomputable def N_r07_loose.j13 (Q : Value → World → Prop) (s2 : Addr) (s3 : Addr) (w : World) : Prop := Nd X_r07_loose Q [(2, 2, .pointer (some s2)), (3, 3, .pointer (some s3))] [.code (B_r07_loose.r.r.r.r.r.r.r.r.r.l.r.l.l), .code (B_r07_loose.r.r.r.r.r.r.r.r.r.l.r.l.r), .code (B_r07_loose.r.r.r.r.r.r.r.r.r.r)] w
noncomputable def N_r07_loose.j14 (Q : Value → World → Prop) (s2 : Addr) (s3 : Addr) (s6 : Option Addr) (s6n : Nat) (s6c : Nat) (w : World) : Prop := Nd X_r07_loose Q [(2, 2, .pointer (some s2)), (3, 3, .pointer (some s3)), (6, 6, .slice s6 s6n s6c)] [.code (B_r07_loose.r.r.r.r.r.r.r.r.r.r.l), .code (B_r07_loose.r.r.r.r.r.r.r.r.r.r.r)] w
noncomputable def N_r07_loose.j15 (Q : Value → World → Prop) (s2 : Addr) (s3 : Addr) (s6 : Option Addr) (s6n : Nat) (s6c : Nat) (w : World) : Prop := Nd X_r07_loose Q [(2, 2, .pointer (some s2)), (3, 3, .pointer (some s3)), (6, 6, .slice s6 s6n s6c)] [.code (B_r07_loose.r.r.r.r.r.r.r.r.r.r.r.l), .code (B_r07_loose.r.r.r.r.r.r.r.r.r.r.r.r)] w
noncomputable def N_r07_loose.j16 (Q : Value → World → Prop) (s2 : Addr) (s3 : Addr) (w : World) : Prop := Nd X_r07_loose Q [(2, 2, .pointer (some s2)), (3, 3, .pointer (some s3))] [.code (B_r07_loose.r.r.r.r.r.r.r.r.r.r.r.r.l), .code (B_r07_loose.r.r.r.r.r.r.r.r.r.r.r.r.r)] w
theorem N_r07_loose.j3_eq (Q : Value → World → Prop) (s0 : ByteArray) (s2 : Addr) (s3 : Addr) (s4 : Int) (w : World) (h :
  cond (decide (s4 < ((s0.size : Nat) : Int)))
  ((0 : Int) ≤ s4 ∧
  s4 < ((s0.size : Nat) : Int) ∧
  cond ((bt s0 (Int.toNat s4)) != 32)
  (N_r07_loose.j3 Q s0 s2 s3 (IntKind.wrap .i64 (s4 + 1)) w)
  (N_r07_loose.j5 Q s0 s2 s3 s4 w))
  (N_r07_loose.j5 Q s0 s2 s3 s4 w)) :
N_r07_loose.j3 Q s0 s2 s3 s4 w := Nd_fold K_r07_loose (by kernel_rfl) h
theorem N_r07_loose.j5_eq (Q : Value → World → Prop) (s0 : ByteArray) (s2 : Addr) (s3 : Addr) (s4 : Int) (w : World) (h :
  N_r07_loose.j6 Q s0 s2 s3 s4 (IntKind.wrap .i64 (s4 + 1)) w) :
N_r07_loose.j5 Q s0 s2 s3 s4 w := Nd_fold K_r07_loose (by kernel_rfl) h
theorem N_r07_loose.j6_eq (Q : Value → World → Prop) (s0 : ByteArray) (s2 : Addr) (s3 : Addr) (s4 : Int) (s5 : Int) (w : World) (h :
  cond (decide (s5 < ((s0.size : Nat) : Int)))
  ((0 : Int) ≤ s5 ∧
  s5 < ((s0.size : Nat) : Int) ∧
  cond ((bt s0 (Int.toNat s5)) != 32)
  (N_r07_loose.j6 Q s0 s2 s3 s4 (IntKind.wrap .i64 (s5 + 1)) w)
  (N_r07_loose.j8 Q s0 s2 s3 s4 s5 w))
  (N_r07_loose.j8 Q s0 s2 s3 s4 s5 w)) :
N_r07_loose.j6 Q s0 s2 s3 s4 s5 w := Nd_fold K_r07_loose (by kernel_rfl) h
theorem N_r07_loose.j8_eq (Q : Value → World → Prop) (s0 : ByteArray) (s2 : Addr) (s3 : Addr) (s4 : Int) (s5 : Int) (w : World) (h :
  cond (decide (s5 ≥ ((s0.size : Nat) : Int)))
  (N_r07_loose.j9 Q s2 s3 w)
  (N_r07_loose.j10 Q s0 s2 s3 s4 s5 w)) :
N_r07_loose.j8 Q s0 s2 s3 s4 s5 w := Nd_fold K_r07_loose (by kernel_rfl) h
theorem N_r07_loose.j9_eq (Q : Value → World → Prop) (s2 : Addr) (s3 : Addr) (w : World) (h :
  opnS (w.cell? (s3.add 0)) fun x1 =>
  opnI .u32 (w.cell? (s3.add 1)) fun x2 =>
  opnL (w.cell? (s3.add 2)) fun x3 x3n x3c =>
  Array.size (#[.string x1, .int .u32 x2, .slice x3 x3n x3c] : Array Value) = 3 ∧
  stC (s2.add 0) (.string x1) w fun w4 =>
  stC (s2.add 1) (.int .u32 x2) w4 fun w5 =>
  stC (s2.add 2) (.slice x3 x3n x3c) w5 fun w6 =>
  opnS (w6.cell? (s2.add 0)) fun x7 =>
  opnI .u32 (w6.cell? (s2.add 1)) fun x8 =>
  opnL (w6.cell? (s2.add 2)) fun x9 x9n x9c =>
  Q (.agg #[.string x7, .int .u32 x8, .slice x9 x9n x9c]) w6) :
N_r07_loose.j9 Q s2 s3 w := Nd_fold K_r07_loose (by kernel_rfl) h
theorem N_r07_loose.j10_eq (Q : Value → World → Prop) (s0 : ByteArray) (s2 : Addr) (s3 : Addr) (s4 : Int) (s5 : Int) (w : World) (h :
  (0 : Int) ≤ s5 ∧
  s5 ≤ ((s0.size : Nat) : Int) ∧
  (0 : Int) ≤ (IntKind.wrap .i64 (s4 + 1)) ∧
  (IntKind.wrap .i64 (s4 + 1)) ≤ s5 ∧
  stC (s3.add 0) (.string (s0.extract (Int.toNat (IntKind.wrap .i64 (s4 + 1))) (Int.toNat s5))) w fun w1 =>
  N_r07_loose.j11 Q s0 s2 s3 s5 w1) :
N_r07_loose.j10 Q s0 s2 s3 s4 s5 w := Nd_fold K_r07_loose (by kernel_rfl) h
theorem N_r07_loose.j11_eq (Q : Value → World → Prop) (s0 : ByteArray) (s2 : Addr) (s3 : Addr) (s5 : Int) (w : World) (h :
  (0 : Int) ≤ (IntKind.wrap .i64 (s5 + 1)) ∧
  (IntKind.wrap .i64 (s5 + 1)) ≤ ((s0.size : Nat) : Int) ∧
  C_r06_DecodeBase64 #[.string (s0.extract (Int.toNat (IntKind.wrap .i64 (s5 + 1))) s0.size)] w fun v1 w2 =>
  opnT (some v1) fun x3 =>
  x3.size = 2 ∧
  opnL (x3[0]?) fun x4 x4n x4c =>
  opnI .i64 (x3[1]?) fun x5 =>
  N_r07_loose.j12 Q s2 s3 x4 x4n x4c x5 w2) :
N_r07_loose.j11 Q s0 s2 s3 s5 w := Nd_fold K_r07_loose (by kernel_rfl) h
theorem N_r07_loose.j12_eq (Q : Value → World → Prop) (s2 : Addr) (s3 : Addr) (s6 : Option Addr) (s6n : Nat) (s6c : Nat) (s7 : Int) (w : World) (h :
  cond (s7 != 0)
  (N_r07_loose.j13 Q s2 s3 w)
  (cond (decide (((s6n : Nat) : Int) < 4))
  (N_r07_loose.j13 Q s2 s3 w)
  (N_r07_loose.j14 Q s2 s3 s6 s6n s6c w))) :
N_r07_loose.j12 Q s2 s3 s6 s6n s6c s7 w := Nd_fold K_r07_loose (by kernel_rfl) h
theorem N_r07_loose.j13_eq (Q : Value → World → Prop) (s2 : Addr) (s3 : Addr) (w : World) (h :
  opnS (w.cell? (s3.add 0)) fun x1 =>
  opnI .u32 (w.cell? (s3.add 1)) fun x2 =>
  opnL (w.cell? (s3.add 2)) fun x3 x3n x3c =>
  Array.size (#[.string x1, .int .u32 x2, .slice x3 x3n x3c] : Array Value) = 3 ∧
  stC (s2.add 0) (.string x1) w fun w4 =>
  stC (s2.add 1) (.int .u32 x2) w4 fun w5 =>
  stC (s2.add 2) (.slice x3 x3n x3c) w5 fun w6 =>
  opnS (w6.cell? (s2.add 0)) fun x7 =>
  opnI .u32 (w6.cell? (s2.add 1)) fun x8 =>
  opnL (w6.cell? (s2.add 2)) fun x9 x9n x9c =>
  Q (.agg #[.string x7, .int .u32 x8, .slice x9 x9n x9c]) w6) :
N_r07_loose.j13 Q s2 s3 w := Nd_fold K_r07_loose (by kernel_rfl) h
theorem N_r07_loose.j14_eq (Q : Value → World → Prop) (s2 : Addr) (s3 : Addr) (s6 : Option Addr) (s6n : Nat) (s6c : Nat) (w : World) (h :
  drw w fun w1 =>
  (0 : Int) ≤ 0 ∧
  0 < ((s6n : Nat) : Int) ∧
  opnA s6 fun ad2 =>
  (0 : Int) ≤ 1 ∧
  1 < ((s6n : Nat) : Int) ∧
  opnA s6 fun ad3 =>
  (0 : Int) ≤ 2 ∧
  2 < ((s6n : Nat) : Int) ∧
  opnA s6 fun ad4 =>
  (0 : Int) ≤ 3 ∧
  3 < ((s6n : Nat) : Int) ∧
  opnA s6 fun ad5 =>
  opnI .u8 (w1.cell? (ad2.add (Int.toNat 0 * 1))) fun x6 =>
  opnI .u8 (w1.cell? (ad3.add (Int.toNat 1 * 1))) fun x7 =>
  opnI .u8 (w1.cell? (ad4.add (Int.toNat 2 * 1))) fun x8 =>
  opnI .u8 (w1.cell? (ad5.add (Int.toNat 3 * 1))) fun x9 =>
  stC (s3.add 1) (.int .u32 (IntKind.wrap .u32 ((IntKind.wrap .u32 ((IntKind.wrap .u32 ((shlI .u32 (IntKind.wrap .u32 x6) 24) + (shlI .u32 (IntKind.wrap .u32 x7) 16))) + (shlI .u32 (IntKind.wrap .u32 x8) 8))) + (IntKind.wrap .u32 x9)))) w1 fun w10 =>
  N_r07_loose.j15 Q s2 s3 s6 s6n s6c w10) :
N_r07_loose.j14 Q s2 s3 s6 s6n s6c w := Nd_fold K_r07_loose (by kernel_rfl) h
theorem N_r07_loose.j15_eq (Q : Value → World → Prop) (s2 : Addr) (s3 : Addr) (s6 : Option Addr) (s6n : Nat) (s6c : Nat) (w : World) (h :
  drw w fun w1 =>
  (0 : Int) ≤ 4 ∧
  4 ≤ ((s6n : Nat) : Int) ∧
  opnL (w1.cell? (s3.add 2)) fun x2 x2n x2c =>
  sem PP (Builtin.append_ #[22, 22] 22 #[.slice x2 x2n x2c, .slice (slA s6 (Int.toNat 4) s6c 1) (s6n - (Int.toNat 4)) (s6c - (Int.toNat 4))]) w1 fun v3 w4 =>
  opnL (some v3) fun x5 x5n x5c =>
  stC (s3.add 2) (.slice x5 x5n x5c) w4 fun w6 =>
  N_r07_loose.j16 Q s2 s3 w6) :
N_r07_loose.j15 Q s2 s3 s6 s6n s6c w := Nd_fold K_r07_loose (by kernel_rfl) h
theorem N_r07_loose.j16_eq (Q : Value → World → Prop) (s2 : Addr) (s3 : Addr) (w : World) (h :
  opnS (w.cell? (s3.add 0)) fun x1 =>
  opnI .u32 (w.cell? (s3.add 1)) fun x2 =>
  opnL (w.cell? (s3.add 2)) fun x3 x3n x3c =>
  Array.size (#[.string x1, .int .u32 x2, .slice x3 x3n x3c] : Array Value) = 3 ∧
  stC (s2.add 0) (.string x1) w fun w4 =>
  stC (s2.add 1) (.int .u32 x2) w4 fun w5 =>
  stC (s2.add 2) (.slice x3 x3n x3c) w5 fun w6 =>
  opnS (w6.cell? (s2.add 0)) fun x7 =>
  opnI .u32 (w6.cell? (s2.add 1)) fun x8 =>
  opnL (w6.cell? (s2.add 2)) fun x9 x9n x9c =>
  Q (.agg #[.string x7, .int .u32 x8, .slice x9 x9n x9c]) w6) :
N_r07_loose.j16 Q s2 s3 w := Nd_fold K_r07_loose (by kernel_rfl) h
theorem C_r07_loose_eq (Q : Value → World → Prop) (a0 : ByteArray) (w : World) (h :
  alC #[.string (⟨#[]⟩ : ByteArray), .int .u32 0, .slice none 0 0] 77 w fun p1 w2 =>
  alC #[.string (⟨#[]⟩ : ByteArray), .int .u32 0, .slice none 0 0] 77 w2 fun p3 w4 =>
  N_r07_loose.j3 Q a0 p1 p3 0 w4) :
C_r07_loose #[.string a0] w Q := C_fold K_r07_loose (by kernel_rfl) h
/-! ### ledger/ledgerref07.four -/
noncomputable def B_r07_four : Code := match Tryd.f56.body with | some c => c | _ => .skip
noncomputable def X_r07_four : Cx := { P := PP, fn := 56, N := 15, tab := tab, results := [.tmp 2], iter := fun _ => (.none, .none), dyn := fun _ => false, live := fun _ => none }
theorem K_r07_four : OkF X_r07_four B_r07_four Tryd.f56 := ⟨⟨tab_ok, mix_ok⟩, Tryd.func56, by kernel_rfl, by kernel_rfl, by kernel_rfl, by kernel_rfl⟩
theorem C_r07_four_eq (Q : Value → World → Prop) (a0 : Int) (w : World) (h :
  alC #[.int .u8 (IntKind.wrap .u8 (shrI .u32 a0 24)), .int .u8 (IntKind.wrap .u8 (shrI .u32 a0 16)), .int .u8 (IntKind.wrap .u8 (shrI .u32 a0 8)), .int .u8 (IntKind.wrap .u8 a0)] 5 w fun p1 w2 =>
  Q (.slice (some p1) 4 4) w2) :
C_r07_four #[.int .u32 a0] w Q := C_fold K_r07_four (by kernel_rfl) h
end Go.Proofs.YtbckabomelngmaaDoor
/-! ## ShL5 -/
namespace Go.Sh
open Go.ChangeShapes Go.WideShapes Go.RowKit
section
variable {H : Type} {enc : TypeId × Value → H} {P : Program}

theorem trodAll_stays (hl : laidOutB P = true) {W W' : World} {sp' : Nat → Bool} (hc : Chg None W W') : ∀ {ts : List TypeId} {vs : List Value} {ds : List (DataW H)} {ps : List MemPlace}, (∀ t ∈ ts, P.readableRec t = true ∧ t < P.types.size) →
    DataW.TrodAll enc P W 0 (fun _ => true) true ts vs ds ps → (∀ p ∈ ps, p.block < W.heap.size) → (∀ p ∈ ps, sp' p.block = true) → DataW.TrodAll enc P W' 0 sp' true ts vs ds ps
  | [], vs, ds, ps, _, h, _, _ => by
    obtain ⟨rfl, rfl, rfl⟩ := trodAll_nil h
    exact trodAll_mk0
  | t :: ts, vs, ds, ps, ht, h, hlt, hs => by
    obtain ⟨v, vs', d, ds', p, q, rfl, rfl, rfl, h1, h2⟩ := trodAll_cons h
    have hb : Below W.heap.size W W' := Fr.below hc.fr (Nat.le_refl _)
    refine trodAll_cons_mk (WideElems.Trod_stays hl (ht t List.mem_cons_self).1 (ht t List.mem_cons_self).2 h1 (fun x hx => hb.same (hlt x (List.mem_append_left _ hx))) (fun x hx => hs x (List.mem_append_left _ hx))) ?_
    exact trodAll_stays hl hc (fun t ht' => ht t (List.mem_cons_of_mem _ ht')) h2 (fun x hx => hlt x (List.mem_append_right _ hx)) (fun x hx => hs x (List.mem_append_right _ hx))

theorem post_same_old {f : Func} {s : ChangeSpec} {apart fresh handsOn again : Bool} {W W' : World} {args : Array Value} {v : Value} {ds gs : List (DataW H)} {before pa pv : List MemPlace}
    (hW : DataW.Whole enc P f.params.toList s.vars apart W args.toList ds gs before)
    (hres : ∀ (b : Nat) (sp : Nat → Bool) (hd : Bool), DataW.TrodAll enc P W' b sp hd f.resultTypes.toList (v.resultList f.resultTypes.size) (s.fn H (ds ++ gs)).results [])
    (hargs : ∀ sp : Nat → Bool, (∀ p ∈ before, sp p.block = true) → DataW.TrodAll enc P W' 0 sp true f.params.toList args.toList (s.fn H (ds ++ gs)).args pa)
    (hvars : ∀ sp : Nat → Bool, (∀ p ∈ before, sp p.block = true) → DataW.TrodVars enc P W' sp s.vars (s.fn H (ds ++ gs)).vars pv)
    (hps : before = pa ++ pv) (hk : W.keptBut W' (· ∈ before)) (hfz : ∀ a : Addr, a.block < W.heap.size → W'.frozen? a = W.frozen? a)
    (hok : ∀ (j : Nat) (t : TypeId) (r : Value), f.resultTypes[j]? = some t → (v.resultList f.resultTypes.size)[j]? = some r → Value.okWide P W' .any 0 t r) :
    s.post enc P f apart fresh handsOn again W args v W' := by
  have hold : ∀ p ∈ before, (fun b => decide (b < W.heap.size)) p.block = true := fun p hp => by simpa using hW.lt p hp
  have hlt := hW.lt
  refine ⟨ds, gs, before, [], pa, pv, hW, hres _ _ _, hargs _ hold, hvars _ hold, World.keptBut_mono (fun p hp => ⟨hp, ?_⟩) hk, fun _ => ?_⟩
  · rw [hps, List.mem_append] at hp
    exact Or.inr hp
  · obtain ⟨_, _, _, _, _, hz, hn⟩ := hW
    refine ⟨hok, _, _, ([] ++ pa) ++ pv, ⟨[] ++ pa, pv, trodAll_append (hargs _ (fun _ _ => rfl)) (hres _ _ _), hvars _ (fun _ _ => rfl), rfl, ?_, ?_⟩, ?_⟩
    · intro b off hp
      have hp' : MemPlace.cell b off ∈ before := by rw [hps]; simpa using hp
      rw [hfz _ (hlt _ hp')]
      exact hz b off hp'
    · intro ha
      have := hn ha
      rw [hps] at this
      simpa using this
    · intro p hp _
      rw [hps]
      simpa using hp

/-- A law answered true and left all that was there as it was. -/
theorem post_law {f : Func} {s : ChangeSpec} {apart fresh handsOn again : Bool} {W W' : World} {args : Array Value} {ds gs : List (DataW H)} {before : List MemPlace} {tb : TypeId}
    (hl : laidOutB P = true) (hread : (f.params.toList.all fun t => P.readableRec t && decide (t < P.types.size)) = true) (hr : f.resultTypes = #[tb]) (hb : P.underlying tb = some .bool) (hv : s.vars = [])
    (hfn : s.fn H (ds ++ gs) = { results := [.lit (.bool true)], args := ds }) (hW : DataW.Whole enc P f.params.toList s.vars apart W args.toList ds gs before) (hc : Chg None W W') :
    s.post enc P f apart fresh handsOn again W args (.bool true) W' := by
  have hlt := hW.lt
  have hW0 := hW
  obtain ⟨p, q, hA, hV, hpq, _, _⟩ := hW
  rw [hv] at hV
  obtain ⟨rfl, rfl⟩ := trodVars_none hV
  have hbel : Below W.heap.size W W' := Fr.below hc.fr (Nat.le_refl _)
  refine post_same_old (pa := p) (pv := []) hW0 (fun b sp hd => ?_) (fun sp hs => ?_) (fun sp hs => ?_) (by rw [hpq]) (hbel.frame _) (fun a ha => hbel.frozen ha) (ok_one hr rfl (okWide_bool_mk hb _))
  · rw [hfn, hr]
    exact trodAll_cons_mk (shut_bool hb _) trodAll_mk0
  · rw [hfn]
    exact trodAll_stays hl hc (fun t ht => by simpa using List.all_eq_true.1 hread t ht) hA (fun x hx => hlt x (by rw [hpq]; exact List.mem_append_left _ hx)) (fun x hx => hs x (by rw [hpq]; exact List.mem_append_left _ hx))
  · rw [hfn, hv]; rfl

/-! ### arguments, opened -/
/-- cells of a []byte -/
theorem bytes_of {W : World} {x : Addr} {len : Nat} {zs : List Int} (hl : len ≤ zs.length) (hcell : ∀ i, i < zs.length → W.cell? (x.add i) = some (.int .u8 (zs.getD i 0))) (hwf : ∀ n ∈ zs, (Lit.int .u8 n).wf = true) :
    ∃ l : List UInt8, l.length = len ∧ Lies W (fun _ => True) (some x) (bvs l) := by
  refine ⟨(zs.take len).map fun n => UInt8.ofNat n.toNat, by simp; omega, fun j v hj => ⟨x, rfl, trivial, ?_⟩⟩
  have hjl : j < len := by
    have := (List.getElem?_eq_some_iff.1 hj).1
    simp at this; omega
  have hjz : j < zs.length := by omega
  have hv : v = bv (UInt8.ofNat (zs[j]).toNat) := by
    simp only [bvs, List.map_map, List.getElem?_map, List.getElem?_take, hjl, if_true, List.getElem?_eq_getElem hjz, Option.map_some, Function.comp_apply] at hj
    exact (Option.some.inj hj).symm
  have hw := hwf zs[j] (List.getElem_mem hjz)
  have hb : 0 ≤ zs[j] ∧ zs[j] ≤ 255 := by simpa [Lit.wf, IntKind.min, IntKind.max, IntKind.signed, IntKind.bits] using hw
  rw [hcell j hjz, hv]
  have e : zs.getD j 0 = zs[j] := by simp [List.getD, List.getElem?_eq_getElem hjz]
  rw [e]
  simp only [bv]
  congr 2
  have h2 : (UInt8.ofNat (zs[j]).toNat).toNat = (zs[j]).toNat := by
    rw [UInt8.toNat_ofNat']; omega
  rw [h2]; omega
/-- A []byte that came in. -/
theorem open_bytes {t e : TypeId} {W : World} {r : Reach} {b0 : Nat} {v : Value} {d : DataW H} {p : List MemPlace} (ht : P.underlying t = some (.slice e)) (he : P.underlying e = some (.int .u8)) (hc : P.cellsOf e = 1) (hval : Value.okWide P W r b0 t v) (h : DataW.Trod enc P W 0 (fun _ => true) true t v d p) :
    ∃ a c l, v = .slice a (List.length l) c ∧ Lies W (fun _ => True) a (bvs l) ∧ l.length ≤ c ∧ c ≤ maxLen := by
  obtain ⟨a, len, cap, rfl⟩ := okWide_slice ht hval
  obtain ⟨fuel, hf⟩ := h
  rcases open_ints ht he hc hf with ⟨hcs, _⟩ | ⟨x, l, c, zs, hcs, _, hl, hm, hz, _, hcell, hwz⟩
  · simp [Value.cells] at hcs
    obtain ⟨rfl, rfl, rfl⟩ := hcs
    exact ⟨none, 0, [], rfl, Lies.nil, Nat.le_refl _, Nat.zero_le _⟩
  · simp [Value.cells] at hcs
    obtain ⟨rfl, rfl, rfl⟩ := hcs
    simp only [if_true] at hz
    obtain ⟨bs, h1, h2⟩ := bytes_of (len := len) (by omega) hcell hwz
    exact ⟨_, cap, bs, by rw [h1], h2, by omega, hm⟩
/-- A [][]byte that came in. -/
theorem open_recs {t e b : TypeId} {W : World} {r : Reach} {b0 : Nat} {v : Value} {d : DataW H} {p : List MemPlace} (ht : P.underlying t = some (.slice e)) (he : P.underlying e = some (.slice b)) (hb : P.underlying b = some (.int .u8)) (hce : P.cellsOf e = 1) (hcb : P.cellsOf b = 1) (hval : Value.okWide P W r b0 t v) (h : DataW.Trod enc P W 0 (fun _ => true) true t v d p) :
    ∃ a c rs, v = .slice a (List.length rs) c ∧ Recs W (fun _ => True) a rs ∧ rs.length ≤ c ∧ c ≤ maxLen := by
  obtain ⟨a, len, cap, rfl⟩ := okWide_slice ht hval
  obtain ⟨fuel, hf⟩ := h
  rcases Go.Deep.open_slice1 ht hce hf with ⟨hcs, _⟩ | ⟨x, l, c, m, n, V, D, Pl, hcs, _, hl, hm, hmm, _, hx⟩
  · simp [Value.cells] at hcs
    obtain ⟨rfl, rfl, rfl⟩ := hcs
    exact ⟨none, 0, [], rfl, fun j r hj => by simp at hj, Nat.le_refl _, Nat.zero_le _⟩
  · simp [Value.cells] at hcs
    obtain ⟨rfl, rfl, rfl⟩ := hcs
    simp only [if_true] at hmm
    subst hmm
    have each : ∀ i, i < len → ∃ r : List UInt8, ∃ q cq, W.cell? (x.add i) = some (.slice q r.length cq) ∧ r.length ≤ cq ∧ Lies W (fun _ => True) q (bvs r) := by
      intro i hi
      obtain ⟨h1, h2⟩ := hx i (by omega)
      rcases open_ints he hb hcb h2 with ⟨hcs, _⟩ | ⟨y, l', c', zs, hcs, _, hl', hm', hz, _, hcell, hwz⟩
      · simp only [List.cons.injEq, and_true] at hcs
        exact ⟨[], none, 0, by rw [h1, hcs]; rfl, Nat.le_refl _, Lies.nil⟩
      · simp only [List.cons.injEq, and_true] at hcs
        simp only [if_true] at hz
        obtain ⟨bs, g1, g2⟩ := bytes_of (len := l') (by omega) hcell hwz
        exact ⟨bs, _, c', by rw [h1, hcs, g1], by omega, g2⟩
    obtain ⟨R, hR⟩ := Go.Deep.choose_lt (n := len) (p := fun i (r : List UInt8) => ∃ q cq, W.cell? (x.add i) = some (.slice q r.length cq) ∧ r.length ≤ cq ∧ Lies W (fun _ => True) q (bvs r)) each
    refine ⟨some x, _, (List.range len).map R, by simp, fun j r hj => ?_, by simp; omega, hm⟩
    have hjl : j < len := by
      have := (List.getElem?_eq_some_iff.1 hj).1
      simpa using this
    have hr : r = R j := by simpa [hjl] using hj.symm
    obtain ⟨q, cq, h1, h2, h3⟩ := hR j hjl
    rw [hr]
    exact ⟨x, q, cq, rfl, trivial, h1, h2, h3⟩
end
end Go.Sh
/-! ## ShL7 -/
namespace Go.Sh
open Go.ChangeShapes Go.WideShapes Go.RowKit
section
variable {H : Type} {enc : TypeId × Value → H} {P : Program}

/-- What is read weighs no more than the reach. -/
def Wt (P : Program) (t : TypeId) (d : DataW H) : Prop := ∀ n ∈ d.weights P t, n ≤ 140737488351232
theorem Wt.all : ∀ {ts : List TypeId} {ds : List (DataW H)}, (DataW.weightsEach P ts ds).all (· ≤ reachBytes) = true → ∀ {j : Nat} {t : TypeId} {d : DataW H}, ts[j]? = some t → ds[j]? = some d → Wt P t d := fun h _ _ _ ht hd n hn => by
  have := List.all_eq_true.1 h n (DataW.weights_mem_each ht hd n hn)
  exact of_decide_eq_true this
theorem Wt.elem {e : TypeId} : ∀ {l : List (DataW H)} {d : DataW H}, d ∈ l → ∀ n ∈ d.weights P e, n ∈ DataW.weightsAll P e l
  | x :: l, d, h, n, hn => by
    simp only [DataW.weightsAll, List.mem_append]
    rcases List.mem_cons.1 h with rfl | h
    · exact .inl hn
    · exact .inr (Wt.elem h n hn)
  | [], _, h, _, _ => by cases h
theorem Wt.slice {t e : TypeId} {xs ys : List (DataW H)} (ht : P.underlying t = some (.slice e)) (h : Wt P t (.slice xs ys)) : (xs.length + ys.length) * P.bytesOf e ≤ 140737488351232 ∧ (∀ d ∈ xs, Wt P e d) ∧ ∀ d ∈ ys, Wt P e d := by
  refine ⟨h _ (by simp [DataW.weights, ht]), fun d hd n hn => h n ?_, fun d hd n hn => h n ?_⟩
  · simp only [DataW.weights, ht, List.mem_cons, List.mem_append]; exact .inr (.inl (Wt.elem hd n hn))
  · simp only [DataW.weights, ht, List.mem_cons, List.mem_append]; exact .inr (.inr (Wt.elem hd n hn))
theorem Wt.str {t : TypeId} {bs : List UInt8} (h : Wt P t (.lit (.string bs) : DataW H)) : bs.length ≤ 140737488351232 := h _ (by simp [DataW.weights])

theorem open_bytes_w {t e : TypeId} {W : World} {r : Reach} {b0 : Nat} {v : Value} {d : DataW H} {p : List MemPlace} (ht : P.underlying t = some (.slice e)) (he : P.underlying e = some (.int .u8)) (hc : P.cellsOf e = 1) (hb : P.bytesOf e = 1) (hval : Value.okWide P W r b0 t v) (h : DataW.Trod enc P W 0 (fun _ => true) true t v d p) (hw : Wt P t d) :
    ∃ a c l, v = .slice a (List.length l) c ∧ Lies W (fun _ => True) a (bvs l) ∧ l.length ≤ c ∧ c ≤ 140737488351232 := by
  obtain ⟨a, len, cap, rfl⟩ := okWide_slice ht hval
  obtain ⟨fuel, hf⟩ := h
  rcases open_ints ht he hc hf with ⟨hcs, _⟩ | ⟨x, l, c, zs, hcs, _, hl, hm, hz, hx, hcell, hwz⟩
  · simp [Value.cells] at hcs
    obtain ⟨rfl, rfl, rfl⟩ := hcs
    exact ⟨none, 0, [], rfl, Lies.nil, Nat.le_refl _, Nat.zero_le _⟩
  · simp [Value.cells] at hcs
    obtain ⟨rfl, rfl, rfl⟩ := hcs
    simp only [if_true] at hz
    obtain ⟨bs, h1, h2⟩ := bytes_of (len := len) (by omega) hcell hwz
    have hd : d = .slice (lits .u8 (zs.take len)) (lits .u8 (zs.drop len)) := congrArg Prod.fst hx
    have := (Wt.slice ht (hd ▸ hw)).1
    simp only [lits, List.length_map, List.length_take, List.length_drop, hb] at this
    exact ⟨_, cap, bs, by rw [h1], h2, by omega, by omega⟩
theorem open_recs_w {t e b : TypeId} {W : World} {r : Reach} {b0 : Nat} {v : Value} {d : DataW H} {p : List MemPlace} (ht : P.underlying t = some (.slice e)) (he : P.underlying e = some (.slice b)) (hb : P.underlying b = some (.int .u8)) (hce : P.cellsOf e = 1) (hcb : P.cellsOf b = 1) (hbe : P.bytesOf e = 24) (hbb : P.bytesOf b = 1) (hval : Value.okWide P W r b0 t v) (h : DataW.Trod enc P W 0 (fun _ => true) true t v d p) (hw : Wt P t d) :
    ∃ a c rs, v = .slice a (List.length rs) c ∧ Recs W (fun _ => True) a rs ∧ rs.length ≤ c ∧ c * 24 ≤ 140737488351232 ∧ ∀ r ∈ rs, r.length ≤ 140737488351232 := by
  obtain ⟨a, len, cap, rfl⟩ := okWide_slice ht hval
  obtain ⟨fuel, hf⟩ := h
  rcases Go.Deep.open_slice1 ht hce hf with ⟨hcs, _⟩ | ⟨x, l, c, m, n, V, D, Pl, hcs, _, hl, hm, hmm, hxx, hx⟩
  · simp [Value.cells] at hcs
    obtain ⟨rfl, rfl, rfl⟩ := hcs
    exact ⟨none, 0, [], rfl, fun j r hj => by simp at hj, Nat.le_refl _, Nat.zero_le _, by simp⟩
  · simp [Value.cells] at hcs
    obtain ⟨rfl, rfl, rfl⟩ := hcs
    simp only [if_true] at hmm
    subst hmm
    have hd : d = .slice ((List.range len).map D) ((List.range (m - len)).map fun j => D (len + j)) := congrArg Prod.fst hxx
    have hww := Wt.slice ht (hd ▸ hw)
    have each : ∀ i, i < len → ∃ r : List UInt8, ∃ q cq, W.cell? (x.add i) = some (.slice q r.length cq) ∧ r.length ≤ cq ∧ Lies W (fun _ => True) q (bvs r) ∧ r.length ≤ 140737488351232 := by
      intro i hi
      obtain ⟨h1, h2⟩ := hx i (by omega)
      have hwi : Wt P e (D i) := hww.2.1 _ (List.mem_map_of_mem (List.mem_range.2 hi))
      rcases open_ints he hb hcb h2 with ⟨hcs, _⟩ | ⟨y, l', c', zs, hcs, _, hl', hm', hz, hxi, hcell, hwz⟩
      · simp only [List.cons.injEq, and_true] at hcs
        exact ⟨[], none, 0, by rw [h1, hcs]; rfl, Nat.le_refl _, Lies.nil, by simp⟩
      · simp only [List.cons.injEq, and_true] at hcs
        simp only [if_true] at hz
        obtain ⟨bs, g1, g2⟩ := bytes_of (len := l') (by omega) hcell hwz
        have hdi : D i = .slice (lits .u8 (zs.take l')) (lits .u8 (zs.drop l')) := congrArg Prod.fst hxi
        have := (Wt.slice he (hdi ▸ hwi)).1
        simp only [lits, List.length_map, List.length_take, List.length_drop, hbb] at this
        exact ⟨bs, _, c', by rw [h1, hcs, g1], by omega, g2, by omega⟩
    obtain ⟨R, hR⟩ := Go.Deep.choose_lt (n := len) (p := fun i (r : List UInt8) => ∃ q cq, W.cell? (x.add i) = some (.slice q r.length cq) ∧ r.length ≤ cq ∧ Lies W (fun _ => True) q (bvs r) ∧ r.length ≤ 140737488351232) each
    refine ⟨some x, m, (List.range len).map R, by simp, fun j r hj => ?_, by simp; omega, ?_, fun r hr => ?_⟩
    · have hjl : j < len := by
        have := (List.getElem?_eq_some_iff.1 hj).1
        simpa using this
      have hr : r = R j := by simpa [hjl] using hj.symm
      obtain ⟨q, cq, h1, h2, h3, _⟩ := hR j hjl
      rw [hr]
      exact ⟨x, q, cq, rfl, trivial, h1, h2, h3⟩
    · have := hww.1
      simp only [List.length_map, List.length_range, hbe] at this
      rwa [show len + (m - len) = m by omega] at this
    · obtain ⟨i, hi, rfl⟩ := List.mem_map.1 hr
      obtain ⟨_, _, _, _, _, h4⟩ := hR i (List.mem_range.1 hi)
      exact h4
end
end Go.Sh
/-! ## ShL11 -/
namespace Go.Sh
open Go.ChangeShapes Go.WideShapes Go.RowKit
section
variable {H : Type} {enc : TypeId × Value → H} {P : Program} {W : World}
/-- a struct's fields, one by one -/
theorem open_fields {t : TypeId} {fs : Array Field} {r : Reach} {b0 : Nat} {v : Value} {d : DataW H} {p : List MemPlace} (hs : P.underlying t = some (.struct fs)) (hval : Value.okWide P W r b0 t v) (h : DataW.Trod enc P W 0 (fun _ => true) true t v d p) (hw : Wt P t d) :
    ∃ cs : Array Value, v = .agg cs ∧ cs.size = P.cellsOf t ∧ ∀ (i : Nat) (f : Field), fs[i]? = some f → ∃ y n, Wt P f.type y.1 ∧ DataW.trod enc P W 0 (fun _ => true) true n f.type ((cs.toList.drop f.offset).take (P.cellsOf f.type)) = some y := by
  obtain ⟨cs, rfl, hsz⟩ := okWide_struct hs hval
  obtain ⟨fuel, hf⟩ := h
  obtain ⟨xs, n, _, hx, hl, hlen, hfl⟩ := DataW.trod_struct hs hf
  refine ⟨cs, rfl, hsz, fun i f hfi => ?_⟩
  have hi : i < xs.length := by rw [hlen]; exact (Array.getElem?_eq_some_iff.1 hfi).1
  have h1 := hfl i f hfi
  rw [List.getElem?_eq_getElem hi] at h1
  refine ⟨xs[i], n, ?_, h1⟩
  have hd : d = .agg (xs.map (·.1)) := congrArg Prod.fst hx
  subst hd
  intro m hm
  refine hw m ?_
  simp only [DataW.weights, hs]
  exact DataW.weights_mem_each (j := i) (t := f.type) (d := xs[i].1) (by simp [hfi]) (by simp [hi]) m hm
theorem one_of {l : List Value} {o : Nat} {v : Value} (h : (l.drop o).take 1 = [v]) : l[o]? = some v := by
  have := congrArg (·[0]?) h
  simpa using this
/-- a field that is a number -/
theorem fld_int {t : TypeId} {k : IntKind} {n : Nat} {l : List Value} {o : Nat} {y : DataW H × List MemPlace} (ht : P.underlying t = some (.int k)) (hc : P.cellsOf t = 1) (h : DataW.trod enc P W 0 (fun _ => true) true n t ((l.drop o).take (P.cellsOf t)) = some y) :
    ∃ z, l[o]? = some (.int k z) ∧ (Lit.int k z).wf = true := by
  rw [hc] at h
  obtain ⟨z, h1, _, h3⟩ := DataW.trod_int ht h
  exact ⟨z, one_of h1, h3⟩
/-- a field that is a slice of numbers -/
theorem fld_ints {t e : TypeId} {k : IntKind} {n : Nat} {l : List Value} {o : Nat} {y : DataW H × List MemPlace} (ht : P.underlying t = some (.slice e)) (he : P.underlying e = some (.int k)) (hct : P.cellsOf t = 1) (hc : P.cellsOf e = 1) (h : DataW.trod enc P W 0 (fun _ => true) true n t ((l.drop o).take (P.cellsOf t)) = some y) (hw : Wt P t y.1) :
    ∃ a c zs, l[o]? = some (.slice a (List.length zs) c) ∧ Lies W (fun _ => True) a (zs.map fun z => .int k z) ∧ zs.length ≤ c ∧ c ≤ maxLen ∧ c * P.bytesOf e ≤ 140737488351232 ∧ ∀ z ∈ zs, (Lit.int k z).wf = true := by
  rw [hct] at h
  rcases open_ints ht he hc h with ⟨hcs, _⟩ | ⟨x, len, c, zs, hcs, _, hl, hm, hz, hx, hcell, hwz⟩
  · exact ⟨none, 0, [], one_of hcs, Lies.nil, Nat.le_refl _, Nat.zero_le _, by omega, by simp⟩
  · simp only [if_true] at hz
    have hlen : (zs.take len).length = len := by rw [List.length_take]; omega
    have hd : y.1 = .slice (lits k (zs.take len)) (lits k (zs.drop len)) := congrArg Prod.fst hx
    have hww := (Wt.slice ht (hd ▸ hw)).1
    simp only [lits, List.length_map, List.length_take, List.length_drop] at hww
    refine ⟨some x, c, zs.take len, ?_, ?_, by omega, hm, ?_, fun z hz => hwz z (List.mem_of_mem_take hz)⟩
    · rw [hlen]; exact one_of hcs
    · intro j v hj
      rw [List.getElem?_map, Option.map_eq_some_iff] at hj
      obtain ⟨z, hz', rfl⟩ := hj
      rw [List.getElem?_take] at hz'
      split at hz'
      · have hjl := (List.getElem?_eq_some_iff.1 hz').1
        refine ⟨x, rfl, trivial, ?_⟩
        rw [hcell j hjl]
        rw [List.getD_eq_getElem?_getD, hz']; rfl
      · cases hz'
    · rw [show c = min len zs.length + (zs.length - len) by omega]; exact hww
theorem list7 {α : Type} {l : List α} {v0 v1 v2 v3 v4 v5 v6 : α} (h : l.length = 7) (e0 : l[0]? = some v0) (e1 : l[1]? = some v1) (e2 : l[2]? = some v2) (e3 : l[3]? = some v3) (e4 : l[4]? = some v4) (e5 : l[5]? = some v5) (e6 : l[6]? = some v6) : l = [v0, v1, v2, v3, v4, v5, v6] :=
  List.ext_getElem? fun i => match i with
    | 0 => e0
    | 1 => e1
    | 2 => e2
    | 3 => e3
    | 4 => e4
    | 5 => e5
    | 6 => e6
    | i + 7 => by rw [List.getElem?_eq_none (by omega)]; rfl
theorem wf_i64 {z : Int} (h : (Lit.int .i64 z).wf = true) : -9223372036854775808 ≤ z ∧ z ≤ 9223372036854775807 := by
  simp only [Lit.wf, Bool.and_eq_true, decide_eq_true_eq] at h
  have h1 : IntKind.min .i64 = -9223372036854775808 := by decide
  have h2 : IntKind.max .i64 = 9223372036854775807 := by decide
  omega
end
end Go.Sh
/-! ## ShL12 -/
namespace Go.Sh
section
variable {H : Type} {enc : TypeId × Value → H}
/-- as the kit's returnsInHanded_of_change_and, with the world's shape for the contract -/
theorem returns_and_shaped {a : Assume} {C : Checked} {os : Os} {f : FuncId} {fn : Func} {s : ChangeSpec} {conds : List PathCond} {apart fresh handsOn again : Bool} {X : World → Array Value → Prop}
    (hX : ∀ (w w' : World) (args : Array Value), w.heap = w'.heap → X w args → X w' args)
    (own : ownKnob C.prog.godebug = none) (started : os.Started) (noInit : C.prog.inits.idxOf? f = none) (hfn : C.prog.funcs[f]? = some fn)
    (witness : ∃ (w : World) (tape : Tape) (i : Input), w.os = os ∧ (w.forCall tape i).Shaped C.prog ∧ i.vars = [] ∧ Input.okWide C.prog (w.forCall tape i) .any w.heap.size f i ∧
      ((s.pre enc C.prog fn conds apart (w.forCall tape i).memory i.args ∧ X (w.forCall tape i).memory i.args) ∧ sizedMet enc C.prog fn (OpenSpec.ofChange s) apart (w.forCall tape i).memory i.args) ∧ a.holds C.prog (lone (Frame.enter C.prog f i.args .normal) [] (w.forCall tape i)))
    (contract : ∀ (W : World) (base : Nat) (args : Array Value) (ds gs : List (DataW H)) (before : List MemPlace),
      (∀ (j : Nat) t v, fn.params[j]? = some t → args[j]? = some v → Value.okWide C.prog W .any base t v) →
      DataW.Whole enc C.prog fn.params.toList s.vars apart W args.toList ds gs before →
      conds.all (PathCond.test C.prog ⟨fn.params.toList, ds, s.plain.varTypes C.prog, gs⟩) = true →
      (DataW.weightsEach C.prog (fn.params.toList ++ s.plain.varTypes C.prog) (ds ++ gs)).all (· ≤ reachBytes) = true → X W args → W.ShapedOpen C.prog →
      Calls C.prog f args W fun e W' => ∃ v, e = .returned v ∧ s.post enc C.prog fn apart fresh handsOn again W args v W') :
    ReturnsInHanded a C os f .any (fun w args => (s.pre enc C.prog fn conds apart w args ∧ X w args) ∧ sizedMet enc C.prog fn (OpenSpec.ofChange s) apart w args) (s.post enc C.prog fn apart fresh handsOn again) := by
  refine returnsInHanded_of_calls own started noInit witness ?_
  intro w tape i _ hsh _ hok hpre hholds
  obtain ⟨_, _, _, fn', hfn', _, _, _, _, hval⟩ := hok
  have e : fn' = fn := Option.some.inj (hfn'.symm.trans hfn)
  subst e
  obtain ⟨⟨⟨ds, gs, before, hw, hc⟩, hx⟩, hz⟩ := hpre
  have hw' := DataW.Whole.of_heap (w' := w.forCall tape i) (by rfl) hw
  refine (contract (w.forCall tape i) w.heap.size i.args ds gs before hval hw' hc (hz.weights hw) (hX _ _ _ (by rfl) hx) hsh).mono fun e W' ⟨v, he, hp⟩ => ?_
  subst he
  exact ChangeSpec.post_blind hp
end
end Go.Sh
/-! ## ShL13 -/
namespace Go.Sh
section
variable {P : Program} {w : World}
/-- a listed variable: its cells, and how they read -/
theorem laid_get : ∀ {laid : List (String × DataW Unit)} {ps : List MemPlace}, DataW.LaidVars P w laid ps → ∀ (i : Nat) {n : String} {d : DataW Unit}, laid[i]? = some (n, d) →
    ∃ g t cs fuel p, P.globalNamed n = some g ∧ (P.globals[g]?).map (·.type) = some t ∧ w.var? P n = some cs ∧ DataW.trod (fun _ => ()) P w 0 (fun _ => true) false fuel t cs.toList = some (d, p)
  | [], _, _, i, n, d, h => by simp at h
  | (n0, d0) :: r, ps, h, 0, n, d, e => by
    obtain ⟨g, t, cs, fuel, p, q, h1, h2, h3, h4, _, _⟩ := h
    cases e
    exact ⟨g, t, cs, fuel, p, h1, h2, h3, h4⟩
  | (n0, d0) :: r, ps, h, i + 1, n, d, e => by
    obtain ⟨g, t, cs, fuel, p, q, _, _, _, _, h5, _⟩ := h
    exact laid_get h5 i (by simpa using e)
/-- at a row's list -/
theorem laid_at {laid : List (String × DataW Unit)} (h : laidMetH P laid w) (hp : (laid.all fun x => x.2.handleName?.isNone) = true) (i : Nat) {n : String} {d : DataW Unit} (e : laid[i]? = some (n, d)) {g : Nat} {t : TypeId} (hg : P.globalNamed n = some g) (ht : (P.globals[g]?).map (·.type) = some t) :
    ∃ cs fuel p, w.var? P n = some cs ∧ DataW.trod (fun _ => ()) P w 0 (fun _ => true) false fuel t cs.toList = some (d, p) := by
  rw [MakeChecks.laidMetH_plain _ _ _ hp] at h
  obtain ⟨ps, hV, _, _⟩ := h
  obtain ⟨g', t', cs, fuel, p, h1, h2, h3, h4⟩ := laid_get hV i e
  obtain rfl := Option.some.inj (hg.symm.trans h1)
  obtain rfl := Option.some.inj (ht.symm.trans h2)
  exact ⟨cs, fuel, p, h3, h4⟩
theorem var_cell {n : String} {g : Nat} {cs : Array Value} (hg : P.globalNamed n = some g) (hv : w.var? P n = some cs) (j : Nat) : w.cell? ⟨g, j, none⟩ = cs[j]? := World.var?_cell hg hv j
/-- a table of numbers -/
theorem laid_tab {laid : List (String × DataW Unit)} (h : laidMetH P laid w) (hp : (laid.all fun x => x.2.handleName?.isNone) = true) (i : Nat) {n : String} {k : IntKind} {zs : List Int} (e : laid[i]? = some (n, Lib.tabData k zs)) {g : Nat} {t el : TypeId} {m : Nat} (hg : P.globalNamed n = some g) (ht : (P.globals[g]?).map (·.type) = some t)
    (hu : P.underlying t = some (.array m el)) (he : P.underlying el = some (.int k)) (hce : P.cellsOf el = 1) (hct : P.cellsOf t = m) : Lib.TabIs P w n k zs := by
  obtain ⟨cs, fuel, p, hv, hd⟩ := laid_at h hp i e hg ht
  have := Lib.cells_of_tab hu he hce hct hd
  unfold Lib.TabIs
  rw [hv, ← this]
theorem tab_cell {n : String} {k : IntKind} {zs : List Int} {g : Nat} (hg : P.globalNamed n = some g) (h : Lib.TabIs P w n k zs) {j : Nat} {z : Int} (hz : zs[j]? = some z) : w.cell? ⟨g, j, none⟩ = some (.int k z) := by
  rw [var_cell hg h j]
  simp [hz]
/-- a listed interface value -/
theorem laid_iface {laid : List (String × DataW Unit)} (h : laidMetH P laid w) (hp : (laid.all fun x => x.2.handleName?.isNone) = true) (i : Nat) {n nm : String} {d : DataW Unit} (e : laid[i]? = some (n, .iface nm d)) {g : Nat} {t : TypeId} {ms : Array (String × TypeId)} (hg : P.globalNamed n = some g) (ht : (P.globals[g]?).map (·.type) = some t)
    (hu : P.underlying t = some (.interface ms)) : ∃ u v, w.cell? ⟨g, 0, none⟩ = some (.iface u v) := by
  obtain ⟨cs, fuel, p, hv, hd⟩ := laid_at h hp i e hg ht
  cases fuel with
  | zero => simp [DataW.trod] at hd
  | succ fuel =>
    unfold DataW.trod at hd
    rw [hu] at hd
    cases hcs : cs.toList with
    | nil => rw [hcs] at hd; simp at hd
    | cons v0 r =>
      cases r with
      | cons v1 r => rw [hcs] at hd; cases v0 <;> simp at hd
      | nil =>
        rw [hcs] at hd
        have hc0 : cs[0]? = some v0 := by rw [← Array.getElem?_toList, hcs]; rfl
        rw [var_cell hg hv 0, hc0]
        cases v0 with
        | iface u v => exact ⟨u, v, rfl⟩
        | _ => simp at hd
end
section
variable {H : Type} {enc : TypeId × Value → H} {P : Program} {W : World}
/-- a field that is a bool -/
theorem fld_bool {t : TypeId} {n : Nat} {l : List Value} {o : Nat} {y : DataW H × List MemPlace} (ht : P.underlying t = some .bool) (hc : P.cellsOf t = 1) (h : DataW.trod enc P W 0 (fun _ => true) true n t ((l.drop o).take (P.cellsOf t)) = some y) : ∃ b, l[o]? = some (.bool b) := by
  rw [hc] at h
  obtain ⟨b, h1, _⟩ := DataW.trod_bool ht h
  exact ⟨b, one_of h1⟩
theorem list5 {α : Type} {l : List α} {v0 v1 v2 v3 v4 : α} (h : l.length = 5) (e0 : l[0]? = some v0) (e1 : l[1]? = some v1) (e2 : l[2]? = some v2) (e3 : l[3]? = some v3) (e4 : l[4]? = some v4) : l = [v0, v1, v2, v3, v4] :=
  List.ext_getElem? fun i => match i with
    | 0 => e0
    | 1 => e1
    | 2 => e2
    | 3 => e3
    | 4 => e4
    | i + 5 => by rw [List.getElem?_eq_none (by omega)]; rfl
end
end Go.Sh
/-! ## ShL19 -/
namespace Go.Sh
open Go.ChangeShapes Go.WideShapes Go.RowKit
section
variable {H : Type} {enc : TypeId × Value → H} {P : Program} {W : World}
/-- a field that is a slice of bytes -/
theorem fld_bytes {t e : TypeId} {n : Nat} {l : List Value} {o : Nat} {y : DataW H × List MemPlace} (ht : P.underlying t = some (.slice e)) (he : P.underlying e = some (.int .u8)) (hct : P.cellsOf t = 1) (hc : P.cellsOf e = 1) (hb : P.bytesOf e = 1) (h : DataW.trod enc P W 0 (fun _ => true) true n t ((l.drop o).take (P.cellsOf t)) = some y) (hw : Wt P t y.1) :
    ∃ a c bs, l[o]? = some (.slice a (List.length bs) c) ∧ Lies W (fun _ => True) a (bvs bs) ∧ bs.length ≤ c ∧ c ≤ 140737488351232 := by
  rw [hct] at h
  rcases open_ints ht he hc h with ⟨hcs, _⟩ | ⟨x, len, c, zs, hcs, _, hl, hm, hz, hx, hcell, hwz⟩
  · exact ⟨none, 0, [], one_of hcs, Lies.nil, Nat.le_refl _, Nat.zero_le _⟩
  · simp only [if_true] at hz
    obtain ⟨bs, h1, h2⟩ := bytes_of (len := len) (by omega) hcell hwz
    have hd : y.1 = .slice (lits .u8 (zs.take len)) (lits .u8 (zs.drop len)) := congrArg Prod.fst hx
    have := (Wt.slice ht (hd ▸ hw)).1
    simp only [lits, List.length_map, List.length_take, List.length_drop, hb] at this
    exact ⟨_, c, bs, by rw [h1]; exact one_of hcs, h2, by omega, by omega⟩
theorem arr_bytes {t e : TypeId} {n fuel : Nat} {cs : List Value} {y : DataW H × List MemPlace} (ht : P.underlying t = some (.array n e)) (he : P.underlying e = some (.int .u8)) (hce : P.cellsOf e = 1) (hct : P.cellsOf t = n) (h : DataW.trod enc P W 0 (fun _ => true) true fuel t cs = some y) : ∃ bs : List UInt8, bs.length = n ∧ cs = bvs bs := by
  obtain ⟨xs, m, _, _, hl, hxn, hel⟩ := DataW.trod_array ht h
  rw [hct] at hl
  have each : ∀ i, i < n → ∃ b : UInt8, cs[i]? = some (bv b) := by
    intro i hi
    have h1 := hel i hi
    rw [hce, Nat.mul_one, List.getElem?_eq_getElem (by omega)] at h1
    obtain ⟨z, h2, _, h3⟩ := DataW.trod_int he h1
    have hb : 0 ≤ z ∧ z ≤ 255 := by simpa [Lit.wf, IntKind.min, IntKind.max, IntKind.signed, IntKind.bits] using h3
    refine ⟨UInt8.ofNat z.toNat, ?_⟩
    rw [one_of h2, bv]
    have h4 : (UInt8.ofNat z.toNat).toNat = z.toNat := by rw [UInt8.toNat_ofNat']; omega
    rw [h4]
    congr 2; omega
  obtain ⟨R, hR⟩ := Go.Deep.choose_lt (n := n) (p := fun i (b : UInt8) => cs[i]? = some (bv b)) each
  refine ⟨(List.range n).map R, by simp, List.ext_getElem? fun i => ?_⟩
  by_cases hi : i < n
  · rw [hR i hi]; simp [bvs, hi]
  · rw [List.getElem?_eq_none (by omega), List.getElem?_eq_none (by simp; omega)]
/-- a field that is an array of bytes -/
theorem fld_arr {t e : TypeId} {n fuel : Nat} {l : List Value} {o : Nat} {y : DataW H × List MemPlace} (ht : P.underlying t = some (.array n e)) (he : P.underlying e = some (.int .u8)) (hce : P.cellsOf e = 1) (hct : P.cellsOf t = n) (h : DataW.trod enc P W 0 (fun _ => true) true fuel t ((l.drop o).take (P.cellsOf t)) = some y) : ∃ bs : List UInt8, bs.length = n ∧ (l.drop o).take n = bvs bs := by
  obtain ⟨bs, h1, h2⟩ := arr_bytes ht he hce hct h
  exact ⟨bs, h1, by rw [← hct]; exact h2⟩
/-- a field that is a slice of arrays of bytes -/
theorem fld_rows {t a e : TypeId} {n fuel : Nat} {l : List Value} {o : Nat} {y : DataW H × List MemPlace} (ht : P.underlying t = some (.slice a)) (ha : P.underlying a = some (.array n e)) (he : P.underlying e = some (.int .u8)) (hct : P.cellsOf t = 1) (hce : P.cellsOf e = 1) (hca : P.cellsOf a = n) (h : DataW.trod enc P W 0 (fun _ => true) true fuel t ((l.drop o).take (P.cellsOf t)) = some y) (hw : Wt P t y.1) :
    ∃ q c, ∃ rs : List {r : List UInt8 // r.length = n}, l[o]? = some (.slice q rs.length c) ∧ Lies W (fun _ => True) q (rs.flatMap fun r => bvs r.1) ∧ rs.length ≤ c ∧ c * P.bytesOf a ≤ 140737488351232 := by
  rw [hct] at h
  rcases DataW.trod_slice ht h with ⟨hcs, _⟩ | ⟨x, len, cap, elems, rest, m, _, hcs, hx, _, hl, _, hlen, hel, hsp, _⟩
  · exact ⟨none, 0, [], one_of hcs, Lies.nil, Nat.le_refl _, by omega⟩
  · have hrest := (hsp rfl).1
    have hd : y.1 = .slice (elems.map (·.1)) (rest.map (·.1)) := congrArg Prod.fst hx
    have hww := (Wt.slice ht (hd ▸ hw)).1
    simp only [List.length_map] at hww
    have each : ∀ i, i < len → ∃ bs : {r : List UInt8 // r.length = n}, ∀ j v, (bvs bs.1)[j]? = some v → W.cell? (x.add (i * n + j)) = some v := by
      intro i hi
      have h1 := hel i hi
      rw [List.getElem?_eq_getElem (by omega), hca] at h1
      obtain ⟨cs, hcc, htr⟩ := Option.bind_eq_some_iff.1 h1
      obtain ⟨bs, hbl, rfl⟩ := arr_bytes ha he hce hca htr
      refine ⟨⟨bs, hbl⟩, fun j v hj => ?_⟩
      have hjn : j < n := by
        have := (List.getElem?_eq_some_iff.1 hj).1
        rw [bvs, List.length_map] at this
        have h3 : bs.length = n := hbl
        exact Nat.lt_of_lt_of_eq this h3
      have := (World.cells?_some hcc).2.2 j hjn
      rw [add_add'] at this
      rw [this]; exact hj
    haveI : Inhabited {r : List UInt8 // r.length = n} := ⟨⟨List.replicate n 0, by simp⟩⟩
    obtain ⟨R, hR⟩ := Go.Deep.choose_lt (n := len) (p := fun i (bs : {r : List UInt8 // r.length = n}) => ∀ j v, (bvs bs.1)[j]? = some v → W.cell? (x.add (i * n + j)) = some v) each
    refine ⟨some x, cap, (List.range len).map R, by rw [List.length_map, List.length_range]; exact one_of hcs, ?_, by simpa using hl, ?_⟩
    · intro j v hj
      refine ⟨x, rfl, trivial, ?_⟩
      have hflat : (((List.range len).map R).flatMap fun r => bvs r.1).length = len * n := by
        rw [flat_len (fun r : {r : List UInt8 // r.length = n} => bvs r.1) n (fun r => by rw [bvs, List.length_map, r.2])]; simp
      have hjl : j < len * n := by rw [← hflat]; exact (List.getElem?_eq_some_iff.1 hj).1
      have hn0 : 0 < n := by
        rcases Nat.eq_zero_or_pos n with g | g
        · subst g; rw [Nat.mul_zero] at hjl; omega
        · exact g
      have hq : j / n < len := by rw [Nat.div_lt_iff_lt_mul hn0]; exact hjl
      have hm := Nat.mod_lt j hn0
      have hdm : j / n * n + j % n = j := by rw [Nat.mul_comm]; exact Nat.div_add_mod j n
      have hg : ((List.range len).map R)[j / n]? = some (R (j / n)) := by simp [hq]
      have := flat_get (fun r : {r : List UInt8 // r.length = n} => bvs r.1) n (fun r => by rw [bvs, List.length_map, r.2]) _ (j / n) (j % n) _ hg hm
      rw [hdm, hj] at this
      have h2 := hR (j / n) hq (j % n) v this.symm
      rw [hdm] at h2
      exact h2
    · rw [show cap = elems.length + rest.length by omega]; exact hww
/-- a struct within: its fields -/
theorem sub_fields {t : TypeId} {fs : Array Field} {fuel : Nat} {cs : List Value} {y : DataW H × List MemPlace} (hs : P.underlying t = some (.struct fs)) (h : DataW.trod enc P W 0 (fun _ => true) true fuel t cs = some y) (i : Nat) (f : Field) (hf : fs[i]? = some f) : ∃ z n, DataW.trod enc P W 0 (fun _ => true) true n f.type ((cs.drop f.offset).take (P.cellsOf f.type)) = some z := by
  obtain ⟨xs, n, _, hx, hl, hlen, hfl⟩ := DataW.trod_struct hs h
  have hi : i < xs.length := by rw [hlen]; exact (Array.getElem?_eq_some_iff.1 hf).1
  have h1 := hfl i f hf
  rw [List.getElem?_eq_getElem hi] at h1
  exact ⟨xs[i], n, h1⟩
theorem sub_at {l : List Value} {o m j : Nat} {v : Value} (h : ((l.drop o).take m)[j]? = some v) : l[o + j]? = some v := by
  rw [List.getElem?_take] at h
  split at h
  · rw [List.getElem?_drop] at h; exact h
  · cases h
theorem list9 {α : Type} {l : List α} {v0 v1 v2 v3 v4 v5 v6 v7 v8 : α} (h : l.length = 9) (e0 : l[0]? = some v0) (e1 : l[1]? = some v1) (e2 : l[2]? = some v2) (e3 : l[3]? = some v3) (e4 : l[4]? = some v4) (e5 : l[5]? = some v5) (e6 : l[6]? = some v6) (e7 : l[7]? = some v7) (e8 : l[8]? = some v8) : l = [v0, v1, v2, v3, v4, v5, v6, v7, v8] :=
  List.ext_getElem? fun i => match i with
    | 0 => e0
    | 1 => e1
    | 2 => e2
    | 3 => e3
    | 4 => e4
    | 5 => e5
    | 6 => e6
    | 7 => e7
    | 8 => e8
    | i + 9 => by rw [List.getElem?_eq_none (by omega)]; rfl
end
section
variable {P : Program} {w : World}
/-- a listed array of tables -/
theorem laid_arr_tab {laid : List (String × DataW Unit)} (h : laidMetH P laid w) (hp : (laid.all fun x => x.2.handleName?.isNone) = true) (i : Nat) {n : String} {ds : List (DataW Unit)} (e : laid[i]? = some (n, .agg ds)) {g : Nat} {t a : TypeId} {q : Nat} (hg : P.globalNamed n = some g) (ht : (P.globals[g]?).map (·.type) = some t)
    (hs : P.underlying t = some (.array q a)) (r : Nat) (hr : r < q) {k : IntKind} {zs : List Int} {el : TypeId} {m : Nat} (hd : ds[r]? = some (Lib.tabData k zs)) (hu : P.underlying a = some (.array m el)) (he : P.underlying el = some (.int k)) (hce : P.cellsOf el = 1) (hct : P.cellsOf a = m) (hz : zs.length = m) :
    ∀ j z, zs[j]? = some z → w.cell? ⟨g, r * m + j, none⟩ = some (.int k z) := by
  obtain ⟨cs, fuel, p, hv, htr⟩ := laid_at h hp i e hg ht
  obtain ⟨xs, n', _, hx, hl, hlen, hfl⟩ := DataW.trod_array hs htr
  intro j z hj
  have h1 := hfl r hr
  have hi : r < xs.length := by rw [hlen]; exact hr
  rw [List.getElem?_eq_getElem hi] at h1
  have hds : ds = xs.map (·.1) := by
    have := congrArg Prod.fst hx
    simpa using this
  have h2 : xs[r].1 = Lib.tabData k zs := by
    rw [hds, List.getElem?_map, List.getElem?_eq_getElem hi] at hd
    simpa using hd
  have h3 := Lib.cells_of_tab hu he hce hct (p := xs[r].2) (zs := zs) (by rw [h1, ← h2])
  rw [var_cell hg hv]
  have hjm : j < m := by rw [← hz]; exact (List.getElem?_eq_some_iff.1 hj).1
  have h4 := congrArg (·[j]?) h3
  simp only [List.getElem?_map, hj, Option.map_some, hct, List.getElem?_take, hjm, if_true, List.getElem?_drop] at h4
  simpa using h4
end
end Go.Sh
/-! ## ShU3 -/
namespace Go.Sh
section
variable {P : Program} {w : World}
theorem laid_strs {laid : List (String × DataW Unit)} (h : laidMetH P laid w) (hp : (laid.all fun x => x.2.handleName?.isNone) = true) (i : Nat) {n : String} {ls : List (List UInt8)} (e : laid[i]? = some (n, .agg (ls.map fun l => .lit (.string l)))) {g : Nat} {t el : TypeId} {m : Nat} (hg : P.globalNamed n = some g) (ht : (P.globals[g]?).map (·.type) = some t)
    (hu : P.underlying t = some (.array m el)) (he : P.underlying el = some .string) (hce : P.cellsOf el = 1) : ∀ j l, ls[j]? = some l → w.cell? ⟨g, j, none⟩ = some (.string (sb l)) := by
  obtain ⟨cs, fuel, p, hv, htr⟩ := laid_at h hp i e hg ht
  obtain ⟨xs, n', _, hx, hl, hlen, hfl⟩ := DataW.trod_array hu htr
  intro j l hj
  have hds : (ls.map fun l => (.lit (.string l) : DataW Unit)) = xs.map (·.1) := by
    have := congrArg Prod.fst hx
    simpa using this
  have hjm : j < m := by
    rw [← hlen]
    have h1 := congrArg List.length hds
    rw [List.length_map, List.length_map] at h1
    rw [← h1]; exact (List.getElem?_eq_some_iff.1 hj).1
  have h1 := hfl j hjm
  have hi : j < xs.length := by rw [hlen]; exact hjm
  rw [List.getElem?_eq_getElem hi, hce] at h1
  have h2 : xs[j].1 = .lit (.string l) := by
    have := congrArg (·[j]?) hds
    simp only [List.getElem?_map, hj, Option.map_some, List.getElem?_eq_getElem hi] at this
    exact (Option.some.inj this).symm
  obtain ⟨s, hc, hs, _⟩ := DataW.trod_string he h1
  rw [hs] at h2
  have h3 : s = sb l := by
    have h4 := DataW.lit.inj h2
    have h5 := Lit.string.inj h4
    obtain ⟨k, rfl⟩ := sb_of s
    rw [← h5, sb_list]
  have h6 : cs[j]? = some (.string s) := by
    have := congrArg (·[0]?) hc
    simpa [List.getElem?_take, List.getElem?_drop] using this
  rw [var_cell hg hv, h6, h3]
end
end Go.Sh
/-! ## StdOf -/
namespace Go.Proofs.YtbckabomelngmaaDoor
open Go.Sh Go.RowKit Go.Lib
set_option maxRecDepth 100000 in
theorem nst_of {laid : List (String × DataW Unit)} (hp : (laid.all fun x => x.2.handleName?.isNone) = true) (h1 : ("unicode/utf8.first", (Lib.firstData : DataW Unit)) ∈ laid) (h2 : ("unicode/utf8.acceptRanges", (Lib.acceptData : DataW Unit)) ∈ laid) (h3 : ("unicode.White_Space", (Lib.whiteData : DataW Unit)) ∈ laid) {W : World} (hL : laidMetH Tryd.prog laid W) : Nst W := by
  rw [MakeChecks.laidMetH_plain _ _ _ hp] at hL
  exact ⟨utf8Tabs_of_reads { YtbckabomelngmaaDoor.lays197 with } ⟨by kernel_rfl, by kernel_rfl, by kernel_rfl, by kernel_rfl, by kernel_rfl, by kernel_rfl, by kernel_rfl⟩ (Lib.laidMet.reads hL h1) (Lib.laidMet.reads hL h2),
    whiteTab_of_reads YtbckabomelngmaaDoor.lays199 ⟨by kernel_rfl, by kernel_rfl, by kernel_rfl, by kernel_rfl, by kernel_rfl, by kernel_rfl, by kernel_rfl, by kernel_rfl⟩ (Lib.laidMet.reads hL h3)⟩
theorem blanks_data : Rows.laid_ledger_ledgerref07_blanks (H := Unit) = .agg (blanks.map fun l => .lit (.string l)) := rfl
theorem blanks_of {laid : List (String × DataW Unit)} (hp : (laid.all fun x => x.2.handleName?.isNone) = true) (i : Nat) (h1 : laid[i]? = some ("ledger/ledgerref07.blanks", Rows.laid_ledger_ledgerref07_blanks)) {W : World} (hL : laidMetH Tryd.prog laid W) : Blanks W := by
  rw [blanks_data] at h1
  exact laid_strs hL hp i h1 (g := 0) (t := 74) (by kernel_rfl) (by kernel_rfl) Tryd.underlying74 Tryd.underlying9 (by kernel_rfl)
end Go.Proofs.YtbckabomelngmaaDoor
/-! ## ShL22 -/
namespace Go.Sh
open Go.ChangeShapes Go.WideShapes Go.RowKit
section
variable {H : Type} {enc : TypeId × Value → H} {P : Program} {W : World}
/-- a struct's fields, one by one, of its cells -/
theorem trod_fields {t : TypeId} {fs : Array Field} {fuel : Nat} {cs : List Value} {x : DataW H × List MemPlace} (hs : P.underlying t = some (.struct fs)) (h : DataW.trod enc P W 0 (fun _ => true) true fuel t cs = some x) (hw : Wt P t x.1) :
    cs.length = P.cellsOf t ∧ ∀ (i : Nat) (f : Field), fs[i]? = some f → ∃ y n, Wt P f.type y.1 ∧ DataW.trod enc P W 0 (fun _ => true) true n f.type ((cs.drop f.offset).take (P.cellsOf f.type)) = some y := by
  obtain ⟨xs, n, _, hx, hl, hlen, hfl⟩ := DataW.trod_struct hs h
  refine ⟨hl, fun i f hfi => ?_⟩
  have hi : i < xs.length := by rw [hlen]; exact (Array.getElem?_eq_some_iff.1 hfi).1
  have h1 := hfl i f hfi
  rw [List.getElem?_eq_getElem hi] at h1
  refine ⟨xs[i], n, ?_, h1⟩
  have hd : x.1 = .agg (xs.map (·.1)) := congrArg Prod.fst hx
  intro m hm
  refine hw m ?_
  rw [hd]
  simp only [DataW.weights, hs]
  exact DataW.weights_mem_each (j := i) (t := f.type) (d := xs[i].1) (by simp [hfi]) (by simp [hi]) m hm
/-- a string -/
theorem fld_text {t : TypeId} {n : Nat} {l : List Value} {o : Nat} {y : DataW H × List MemPlace} (ht : P.underlying t = some .string) (hc : P.cellsOf t = 1) (h : DataW.trod enc P W 0 (fun _ => true) true n t ((l.drop o).take (P.cellsOf t)) = some y) (hw : Wt P t y.1) :
    ∃ s : List UInt8, l[o]? = some (.string ⟨s.toArray⟩) ∧ s.length ≤ 140737488351232 := by
  rw [hc] at h
  obtain ⟨b, h1, h2, _⟩ := DataW.trod_string ht h
  refine ⟨b.data.toList, ?_, ?_⟩
  · rw [one_of h1]
  · have hd : y.1 = .lit (.string b.data.toList) := by rw [h2]
    exact Wt.str (hd ▸ hw)
theorem wf_u32 {z : Int} (h : (Lit.int .u32 z).wf = true) : 0 ≤ z ∧ z < 4294967296 := by
  simp only [Lit.wf, Bool.and_eq_true, decide_eq_true_eq] at h
  have h1 : IntKind.min .u32 = 0 := by decide
  have h2 : IntKind.max .u32 = 4294967295 := by decide
  omega
/-- a slice of structs that came in -/
theorem open_structs {t e : TypeId} {fs : Array Field} {r : Reach} {b0 : Nat} {v : Value} {d : DataW H} {p : List MemPlace} (ht : P.underlying t = some (.slice e)) (he : P.underlying e = some (.struct fs)) (hval : Value.okWide P W r b0 t v) (h : DataW.Trod enc P W 0 (fun _ => true) true t v d p) (hw : Wt P t d) :
    ∃ a len cap, v = .slice a len cap ∧ len ≤ cap ∧ cap * P.bytesOf e ≤ 140737488351232 ∧ ∀ i, i < len → ∃ x, a = some x ∧ ∃ cs : List Value, cs.length = P.cellsOf e ∧ (∀ (j : Nat) (v : Value), cs[j]? = some v → W.cell? ((x.add (i * P.cellsOf e)).add j) = some v) ∧
      ∀ (k : Nat) (f : Field), fs[k]? = some f → ∃ y n, Wt P f.type y.1 ∧ DataW.trod enc P W 0 (fun _ => true) true n f.type ((cs.drop f.offset).take (P.cellsOf f.type)) = some y := by
  obtain ⟨a, len, cap, rfl⟩ := okWide_slice ht hval
  obtain ⟨fuel, hf⟩ := h
  rcases DataW.trod_slice ht hf with ⟨hcs, _⟩ | ⟨x, l, c, elems, rest, m, _, hcs, hx, _, hl, _, hlen, hel, hsp, _⟩
  · simp [Value.cells] at hcs
    obtain ⟨rfl, rfl, rfl⟩ := hcs
    exact ⟨none, 0, 0, rfl, Nat.le_refl _, by omega, fun i hi => by omega⟩
  · simp [Value.cells] at hcs
    obtain ⟨rfl, rfl, rfl⟩ := hcs
    have hrest := (hsp rfl).1
    have hd : d = .slice (elems.map (·.1)) (rest.map (·.1)) := congrArg Prod.fst hx
    have hww := Wt.slice ht (hd ▸ hw)
    refine ⟨some x, len, cap, rfl, hl, ?_, fun i hi => ?_⟩
    · have h2 := hww.1
      simp only [List.length_map] at h2
      rwa [show elems.length + rest.length = cap by omega] at h2
    · have h1 := hel i hi
      have hi' : i < elems.length := by omega
      rw [List.getElem?_eq_getElem hi'] at h1
      obtain ⟨cs, hcc, htr⟩ := Option.bind_eq_some_iff.1 h1
      have hwe : Wt P e elems[i].1 := hww.2.1 _ (List.mem_map_of_mem (List.getElem_mem hi'))
      obtain ⟨hlc, hfl⟩ := trod_fields he htr hwe
      refine ⟨x, rfl, cs, hlc, fun j v hj => ?_, hfl⟩
      have hjn : j < P.cellsOf e := by rw [← hlc]; exact (List.getElem?_eq_some_iff.1 hj).1
      have := (World.cells?_some hcc).2.2 j hjn
      rw [this]; exact hj
end
end Go.Sh
