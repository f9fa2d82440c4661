/- ShF1, ShF2, NameWalk, ShL8, ShL10, ShL14, RefName, ShU4, ShU5, ShL15, ShU6, Base64, Base64D -/
import Derived.Test.YtedioondfbnfjaaGreatDoorPkB
import Derived.Lib.IndexAny
import Derived.Laws.StructEq
import Derived.ChangeKeysEq
import Derived.Lib.Strings
import Derived.Laws.Tables
import Derived.Laws.Pointers
import Derived.Lib.SliceRun
import Derived.Test.YtedioondfbnfjaaGreatDoorPkA
/-! ## ShF1 -/
set_option maxRecDepth 100000
namespace Go.Proofs.YtedioondfbnfjaaGreatDoor
open Go.Sh
/-! ### ledger/note.Split -/
noncomputable def B_note_Split : Code := match Tryz.f20.body with | some c => c | _ => .skip
noncomputable def X_note_Split : Cx := { P := PP, fn := 20, N := 69, tab := tab, results := [.tmp 2, .tmp 3, .tmp 4], iter := fun _ => (.none, .none), dyn := fun _ => false, live := fun r => cond (Nat.beq r 5) (some []) (cond (Nat.beq r 8) (some []) (cond (Nat.beq r 11) (some [5, 10, 49, 50, 51]) (none))) }
theorem K_note_Split : OkF X_note_Split B_note_Split Tryz.f20 := ⟨⟨tab_ok, mix_ok⟩, Tryz.func20, by kernel_rfl, by kernel_rfl, by kernel_rfl, by kernel_rfl⟩
noncomputable def N_note_Split.j5 (Q : Value → World → Prop) (w : World) : Prop := Nd X_note_Split Q [] [.code (B_note_Split.r.r.r.l.r.l.l), .code (B_note_Split.r.r.r.l.r.l.r), .code (B_note_Split.r.r.r.r)] w
noncomputable def N_note_Split.j8 (Q : Value → World → Prop) (w : World) : Prop := Nd X_note_Split Q [] [.code (B_note_Split.r.r.r.r.r.l.r.l.l), .code (B_note_Split.r.r.r.r.r.l.r.l.r), .code (B_note_Split.r.r.r.r.r.r)] w
noncomputable def N_note_Split.j11 (Q : Value → World → Prop) (s5 : ByteArray) (s10 : Option Addr) (s10n : Nat) (s10c : Nat) (s49 : Option Addr) (s49n : Nat) (s49c : Nat) (s50 : Int) (s51 : Int) (w : World) : Prop := Nd X_note_Split Q [(5, 5, .string s5), (10, 10, .slice s10 s10n s10c), (49, 49, .slice s49 s49n s49c), (50, 50, .int .i64 s50), (51, 51, .int .i64 s51)] [.code (B_note_Split.r.r.r.r.r.r.r.l.r.l.l.l), .code (B_note_Split.r.r.r.r.r.r.r.l.r.l.l.r), .inLoop (B_note_Split.r.r.r.r.r.r.r.l.r.l.l), .inBlock 0, .code (B_note_Split.r.r.r.r.r.r.r.r)] w
theorem N_note_Split.j5_eq (Q : Value → World → Prop) (w : World) (h :
  Q (.tuple #[.string (⟨#[]⟩ : ByteArray), .slice none 0 0, .int .i64 74]) w) :
N_note_Split.j5 Q w := Nd_fold K_note_Split (by kernel_rfl) h
theorem N_note_Split.j8_eq (Q : Value → World → Prop) (w : World) (h :
  Q (.tuple #[.string (⟨#[]⟩ : ByteArray), .slice none 0 0, .int .i64 74]) w) :
N_note_Split.j8 Q w := Nd_fold K_note_Split (by kernel_rfl) h
theorem N_note_Split.j11_eq (Q : Value → World → Prop) (s5 : ByteArray) (s10 : Option Addr) (s10n : Nat) (s10c : Nat) (s49 : Option Addr) (s49n : Nat) (s49c : Nat) (s50 : Int) (s51 : Int) (w : World) (h :
  cond (decide (s51 < s50))
  ((0 : Int) ≤ s51 ∧
  s51 < ((s49n : Nat) : Int) ∧
  opnA s49 fun ad1 =>
  opnS (w.cell? (ad1.add (Int.toNat s51 * 1))) fun x2 =>
  C_note_line #[.string x2] w fun v3 w4 =>
  opnT (some v3) fun x5 =>
  x5.size = 2 ∧
  opnG (x5[0]?) fun x6 =>
  x6.size = 3 ∧
  opnS (x6[0]?) fun x7 =>
  opnI .u32 (x6[1]?) fun x8 =>
  opnL (x6[2]?) fun x9 x9n x9c =>
  opnB (x5[1]?) fun x10 =>
  alC #[.string (⟨#[]⟩ : ByteArray), .int .u32 0, .slice none 0 0] 94 w4 fun p11 w12 =>
  Array.size (#[.string x7, .int .u32 x8, .slice x9 x9n x9c] : Array Value) = 3 ∧
  stC (p11.add 0) (.string x7) w12 fun w13 =>
  stC (p11.add 1) (.int .u32 x8) w13 fun w14 =>
  stC (p11.add 2) (.slice x9 x9n x9c) w14 fun w15 =>
  cond (!x10)
  (Q (.tuple #[.string (⟨#[]⟩ : ByteArray), .slice none 0 0, .int .i64 74]) w15)
  (opnS (w15.cell? (p11.add 0)) fun x16 =>
  opnI .u32 (w15.cell? (p11.add 1)) fun x17 =>
  opnL (w15.cell? (p11.add 2)) fun x18 x18n x18c =>
  alC #[.string x16, .int .u32 x17, .slice x18 x18n x18c] 94 w15 fun p19 w20 =>
  sem PP (Builtin.append_ #[56, 56] 56 #[.slice s10 s10n s10c, .slice (some p19) 1 1]) w20 fun v21 w22 =>
  opnL (some v21) fun x23 x23n x23c =>
  N_note_Split.j11 Q s5 x23 x23n x23c s49 s49n s49c s50 (IntKind.wrap .i64 (s51 + 1)) w22))
  (Q (.tuple #[.string s5, .slice s10 s10n s10c, .int .i64 0]) w)) :
N_note_Split.j11 Q s5 s10 s10n s10c s49 s49n s49c s50 s51 w := Nd_fold K_note_Split (by kernel_rfl) h
theorem C_note_Split_eq (Q : Value → World → Prop) (a0 : Option Addr) (a0n : Nat) (a0c : Nat) (w : World) (h :
  cond (decide (((a0n : Nat) : Int) > 65536))
  (Q (.tuple #[.string (⟨#[]⟩ : ByteArray), .slice none 0 0, .int .i64 2]) w)
  (semR PP (convert 23 9 (.slice a0 a0n a0c)) w fun x1 =>
  opnS (some x1) fun x2 =>
  C_text_Cut #[.string x2] w fun v3 w4 =>
  opnT (some v3) fun x5 =>
  x5.size = 3 ∧
  opnS (x5[0]?) fun x6 =>
  opnS (x5[1]?) fun x7 =>
  opnB (x5[2]?) fun x8 =>
  cond (!x8)
  (N_note_Split.j5 Q w4)
  (C_note_isText #[.string x6] w4 fun v9 w10 =>
  opnB (some v9) fun x11 =>
  cond (!x11)
  (N_note_Split.j5 Q w10)
  (C_text_Lines #[.string x7] w10 fun v12 w13 =>
  opnT (some v12) fun x14 =>
  x14.size = 2 ∧
  opnL (x14[0]?) fun x15 x15n x15c =>
  opnI .i64 (x14[1]?) fun x16 =>
  cond (x16 != 0)
  (N_note_Split.j8 Q w13)
  (cond (((x15n : Nat) : Int) == 0)
  (N_note_Split.j8 Q w13)
  (cond (decide (((x15n : Nat) : Int) > 16))
  (N_note_Split.j8 Q w13)
  (N_note_Split.j11 Q x6 none 0 0 x15 x15n x15c ((x15n : Nat) : Int) 0 w13))))))) :
C_note_Split #[.slice a0 a0n a0c] w Q := C_fold K_note_Split (by kernel_rfl) h
/-! ### ledger/text.FormatNumber -/
noncomputable def B_text_FormatNumber : Code := match Tryz.f22.body with | some c => c | _ => .skip
noncomputable def X_text_FormatNumber : Cx := { P := PP, fn := 22, N := 5, tab := tab, results := [.tmp 2], iter := fun _ => (.none, .none), dyn := fun _ => false, live := fun _ => none }
theorem K_text_FormatNumber : OkF X_text_FormatNumber B_text_FormatNumber Tryz.f22 := ⟨⟨tab_ok, mix_ok⟩, Tryz.func22, by kernel_rfl, by kernel_rfl, by kernel_rfl, by kernel_rfl⟩
theorem C_text_FormatNumber_eq (Q : Value → World → Prop) (a0 : Int) (w : World) (h :
  C_strconv_FormatInt #[.int .i64 a0, .int .i64 10] w fun v1 w2 =>
  opnS (some v1) fun x3 =>
  Q (.string x3) w2) :
C_text_FormatNumber #[.int .i64 a0] w Q := C_fold K_text_FormatNumber (by kernel_rfl) h
/-! ### ledger/text.EncodeBase64 -/
noncomputable def B_text_EncodeBase64 : Code := match Tryz.f23.body with | some c => c | _ => .skip
noncomputable def X_text_EncodeBase64 : Cx := { P := PP, fn := 23, N := 99, tab := tab, results := [.tmp 2], iter := fun _ => (.none, .none), dyn := fun _ => false, live := fun r => cond (Nat.beq r 2) (some [0, 3]) (cond (Nat.beq r 13) (some [3]) (none)) }
theorem K_text_EncodeBase64 : OkF X_text_EncodeBase64 B_text_EncodeBase64 Tryz.f23 := ⟨⟨tab_ok, mix_ok⟩, Tryz.func23, by kernel_rfl, by kernel_rfl, by kernel_rfl, by kernel_rfl⟩
noncomputable def N_text_EncodeBase64.j2 (Q : Value → World → Prop) (s0 : Option Addr) (s0n : Nat) (s0c : Nat) (s3 : Option Addr) (s3n : Nat) (s3c : Nat) (w : World) : Prop := Nd X_text_EncodeBase64 Q [(0, 0, .slice s0 s0n s0c), (3, 3, .slice s3 s3n s3c)] [.code (B_text_EncodeBase64.r.r.l.l.l.l.l), .code (B_text_EncodeBase64.r.r.l.l.l.l.r), .code (B_text_EncodeBase64.r.r.l.l.l.r), .inLoop (B_text_EncodeBase64.r.r.l.l.l), .inBlock 0, .code (B_text_EncodeBase64.r.r.r)] w
noncomputable def N_text_EncodeBase64.j13 (Q : Value → World → Prop) (s3 : Option Addr) (s3n : Nat) (s3c : Nat) (w : World) : Prop := Nd X_text_EncodeBase64 Q [(3, 3, .slice s3 s3n s3c)] [.code (B_text_EncodeBase64.r.r.r.r.l), .code (B_text_EncodeBase64.r.r.r.r.r)] w
theorem N_text_EncodeBase64.j2_eq (Q : Value → World → Prop) (s0 : Option Addr) (s0n : Nat) (s0c : Nat) (s3 : Option Addr) (s3n : Nat) (s3c : Nat) (w : World) (h :
  cond (decide (((s0n : Nat) : Int) ≥ 3))
  (drw w fun w1 =>
  (0 : Int) ≤ 0 ∧
  0 < ((s0n : Nat) : Int) ∧
  opnA s0 fun ad2 =>
  (0 : Int) ≤ 1 ∧
  1 < ((s0n : Nat) : Int) ∧
  opnA s0 fun ad3 =>
  (0 : Int) ≤ 2 ∧
  2 < ((s0n : Nat) : Int) ∧
  opnA s0 fun ad4 =>
  opnI .u8 (w1.cell? (ad2.add (Int.toNat 0 * 1))) fun x5 =>
  opnI .u8 (w1.cell? (ad3.add (Int.toNat 1 * 1))) fun x6 =>
  opnI .u8 (w1.cell? (ad4.add (Int.toNat 2 * 1))) fun x7 =>
  drw w1 fun w8 =>
  (0 : Int) ≤ shrI .i64 (bits .or .i64 (bits .or .i64 (shlI .i64 (IntKind.wrap .i64 x5) 16) (shlI .i64 (IntKind.wrap .i64 x6) 8)) (IntKind.wrap .i64 x7)) 18 ∧
  (shrI .i64 (bits .or .i64 (bits .or .i64 (shlI .i64 (IntKind.wrap .i64 x5) 16) (shlI .i64 (IntKind.wrap .i64 x6) 8)) (IntKind.wrap .i64 x7)) 18) < (((⟨#[65, 66, 67, 68, 69, 70, 71, 72, 73, 74, 75, 76, 77, 78, 79, 80, 81, 82, 83, 84, 85, 86, 87, 88, 89, 90, 97, 98, 99, 100, 101, 102, 103, 104, 105, 106, 107, 108, 109, 110, 111, 112, 113, 114, 115, 116, 117, 118, 119, 120, 121, 122, 48, 49, 50, 51, 52, 53, 54, 55, 56, 57, 43, 47]⟩ : ByteArray).size : Nat) : Int) ∧
  (0 : Int) ≤ bits .and .i64 (shrI .i64 (bits .or .i64 (bits .or .i64 (shlI .i64 (IntKind.wrap .i64 x5) 16) (shlI .i64 (IntKind.wrap .i64 x6) 8)) (IntKind.wrap .i64 x7)) 12) 63 ∧
  (bits .and .i64 (shrI .i64 (bits .or .i64 (bits .or .i64 (shlI .i64 (IntKind.wrap .i64 x5) 16) (shlI .i64 (IntKind.wrap .i64 x6) 8)) (IntKind.wrap .i64 x7)) 12) 63) < (((⟨#[65, 66, 67, 68, 69, 70, 71, 72, 73, 74, 75, 76, 77, 78, 79, 80, 81, 82, 83, 84, 85, 86, 87, 88, 89, 90, 97, 98, 99, 100, 101, 102, 103, 104, 105, 106, 107, 108, 109, 110, 111, 112, 113, 114, 115, 116, 117, 118, 119, 120, 121, 122, 48, 49, 50, 51, 52, 53, 54, 55, 56, 57, 43, 47]⟩ : ByteArray).size : Nat) : Int) ∧
  (0 : Int) ≤ bits .and .i64 (shrI .i64 (bits .or .i64 (bits .or .i64 (shlI .i64 (IntKind.wrap .i64 x5) 16) (shlI .i64 (IntKind.wrap .i64 x6) 8)) (IntKind.wrap .i64 x7)) 6) 63 ∧
  (bits .and .i64 (shrI .i64 (bits .or .i64 (bits .or .i64 (shlI .i64 (IntKind.wrap .i64 x5) 16) (shlI .i64 (IntKind.wrap .i64 x6) 8)) (IntKind.wrap .i64 x7)) 6) 63) < (((⟨#[65, 66, 67, 68, 69, 70, 71, 72, 73, 74, 75, 76, 77, 78, 79, 80, 81, 82, 83, 84, 85, 86, 87, 88, 89, 90, 97, 98, 99, 100, 101, 102, 103, 104, 105, 106, 107, 108, 109, 110, 111, 112, 113, 114, 115, 116, 117, 118, 119, 120, 121, 122, 48, 49, 50, 51, 52, 53, 54, 55, 56, 57, 43, 47]⟩ : ByteArray).size : Nat) : Int) ∧
  (0 : Int) ≤ bits .and .i64 (bits .or .i64 (bits .or .i64 (shlI .i64 (IntKind.wrap .i64 x5) 16) (shlI .i64 (IntKind.wrap .i64 x6) 8)) (IntKind.wrap .i64 x7)) 63 ∧
  (bits .and .i64 (bits .or .i64 (bits .or .i64 (shlI .i64 (IntKind.wrap .i64 x5) 16) (shlI .i64 (IntKind.wrap .i64 x6) 8)) (IntKind.wrap .i64 x7)) 63) < (((⟨#[65, 66, 67, 68, 69, 70, 71, 72, 73, 74, 75, 76, 77, 78, 79, 80, 81, 82, 83, 84, 85, 86, 87, 88, 89, 90, 97, 98, 99, 100, 101, 102, 103, 104, 105, 106, 107, 108, 109, 110, 111, 112, 113, 114, 115, 116, 117, 118, 119, 120, 121, 122, 48, 49, 50, 51, 52, 53, 54, 55, 56, 57, 43, 47]⟩ : ByteArray).size : Nat) : Int) ∧
  alC #[.int .u8 (bt (⟨#[65, 66, 67, 68, 69, 70, 71, 72, 73, 74, 75, 76, 77, 78, 79, 80, 81, 82, 83, 84, 85, 86, 87, 88, 89, 90, 97, 98, 99, 100, 101, 102, 103, 104, 105, 106, 107, 108, 109, 110, 111, 112, 113, 114, 115, 116, 117, 118, 119, 120, 121, 122, 48, 49, 50, 51, 52, 53, 54, 55, 56, 57, 43, 47]⟩ : ByteArray) (Int.toNat (shrI .i64 (bits .or .i64 (bits .or .i64 (shlI .i64 (IntKind.wrap .i64 x5) 16) (shlI .i64 (IntKind.wrap .i64 x6) 8)) (IntKind.wrap .i64 x7)) 18))), .int .u8 (bt (⟨#[65, 66, 67, 68, 69, 70, 71, 72, 73, 74, 75, 76, 77, 78, 79, 80, 81, 82, 83, 84, 85, 86, 87, 88, 89, 90, 97, 98, 99, 100, 101, 102, 103, 104, 105, 106, 107, 108, 109, 110, 111, 112, 113, 114, 115, 116, 117, 118, 119, 120, 121, 122, 48, 49, 50, 51, 52, 53, 54, 55, 56, 57, 43, 47]⟩ : ByteArray) (Int.toNat (bits .and .i64 (shrI .i64 (bits .or .i64 (bits .or .i64 (shlI .i64 (IntKind.wrap .i64 x5) 16) (shlI .i64 (IntKind.wrap .i64 x6) 8)) (IntKind.wrap .i64 x7)) 12) 63))), .int .u8 (bt (⟨#[65, 66, 67, 68, 69, 70, 71, 72, 73, 74, 75, 76, 77, 78, 79, 80, 81, 82, 83, 84, 85, 86, 87, 88, 89, 90, 97, 98, 99, 100, 101, 102, 103, 104, 105, 106, 107, 108, 109, 110, 111, 112, 113, 114, 115, 116, 117, 118, 119, 120, 121, 122, 48, 49, 50, 51, 52, 53, 54, 55, 56, 57, 43, 47]⟩ : ByteArray) (Int.toNat (bits .and .i64 (shrI .i64 (bits .or .i64 (bits .or .i64 (shlI .i64 (IntKind.wrap .i64 x5) 16) (shlI .i64 (IntKind.wrap .i64 x6) 8)) (IntKind.wrap .i64 x7)) 6) 63))), .int .u8 (bt (⟨#[65, 66, 67, 68, 69, 70, 71, 72, 73, 74, 75, 76, 77, 78, 79, 80, 81, 82, 83, 84, 85, 86, 87, 88, 89, 90, 97, 98, 99, 100, 101, 102, 103, 104, 105, 106, 107, 108, 109, 110, 111, 112, 113, 114, 115, 116, 117, 118, 119, 120, 121, 122, 48, 49, 50, 51, 52, 53, 54, 55, 56, 57, 43, 47]⟩ : ByteArray) (Int.toNat (bits .and .i64 (bits .or .i64 (bits .or .i64 (shlI .i64 (IntKind.wrap .i64 x5) 16) (shlI .i64 (IntKind.wrap .i64 x6) 8)) (IntKind.wrap .i64 x7)) 63)))] 5 w8 fun p9 w10 =>
  sem PP (Builtin.append_ #[23, 23] 23 #[.slice s3 s3n s3c, .slice (some p9) 4 4]) w10 fun v11 w12 =>
  opnL (some v11) fun x13 x13n x13c =>
  (0 : Int) ≤ 3 ∧
  3 ≤ ((s0n : Nat) : Int) ∧
  N_text_EncodeBase64.j2 Q (slA s0 (Int.toNat 3) s0c 1) (s0n - (Int.toNat 3)) (s0c - (Int.toNat 3)) x13 x13n x13c w12)
  (cond (((s0n : Nat) : Int) == 1)
  ((0 : Int) ≤ 0 ∧
  0 < ((s0n : Nat) : Int) ∧
  opnA s0 fun ad14 =>
  opnI .u8 (w.cell? (ad14.add (Int.toNat 0 * 1))) fun x15 =>
  drw w fun w16 =>
  (0 : Int) ≤ shrI .i64 (shlI .i64 (IntKind.wrap .i64 x15) 16) 18 ∧
  (shrI .i64 (shlI .i64 (IntKind.wrap .i64 x15) 16) 18) < (((⟨#[65, 66, 67, 68, 69, 70, 71, 72, 73, 74, 75, 76, 77, 78, 79, 80, 81, 82, 83, 84, 85, 86, 87, 88, 89, 90, 97, 98, 99, 100, 101, 102, 103, 104, 105, 106, 107, 108, 109, 110, 111, 112, 113, 114, 115, 116, 117, 118, 119, 120, 121, 122, 48, 49, 50, 51, 52, 53, 54, 55, 56, 57, 43, 47]⟩ : ByteArray).size : Nat) : Int) ∧
  (0 : Int) ≤ bits .and .i64 (shrI .i64 (shlI .i64 (IntKind.wrap .i64 x15) 16) 12) 63 ∧
  (bits .and .i64 (shrI .i64 (shlI .i64 (IntKind.wrap .i64 x15) 16) 12) 63) < (((⟨#[65, 66, 67, 68, 69, 70, 71, 72, 73, 74, 75, 76, 77, 78, 79, 80, 81, 82, 83, 84, 85, 86, 87, 88, 89, 90, 97, 98, 99, 100, 101, 102, 103, 104, 105, 106, 107, 108, 109, 110, 111, 112, 113, 114, 115, 116, 117, 118, 119, 120, 121, 122, 48, 49, 50, 51, 52, 53, 54, 55, 56, 57, 43, 47]⟩ : ByteArray).size : Nat) : Int) ∧
  alC #[.int .u8 (bt (⟨#[65, 66, 67, 68, 69, 70, 71, 72, 73, 74, 75, 76, 77, 78, 79, 80, 81, 82, 83, 84, 85, 86, 87, 88, 89, 90, 97, 98, 99, 100, 101, 102, 103, 104, 105, 106, 107, 108, 109, 110, 111, 112, 113, 114, 115, 116, 117, 118, 119, 120, 121, 122, 48, 49, 50, 51, 52, 53, 54, 55, 56, 57, 43, 47]⟩ : ByteArray) (Int.toNat (shrI .i64 (shlI .i64 (IntKind.wrap .i64 x15) 16) 18))), .int .u8 (bt (⟨#[65, 66, 67, 68, 69, 70, 71, 72, 73, 74, 75, 76, 77, 78, 79, 80, 81, 82, 83, 84, 85, 86, 87, 88, 89, 90, 97, 98, 99, 100, 101, 102, 103, 104, 105, 106, 107, 108, 109, 110, 111, 112, 113, 114, 115, 116, 117, 118, 119, 120, 121, 122, 48, 49, 50, 51, 52, 53, 54, 55, 56, 57, 43, 47]⟩ : ByteArray) (Int.toNat (bits .and .i64 (shrI .i64 (shlI .i64 (IntKind.wrap .i64 x15) 16) 12) 63))), .int .u8 61, .int .u8 61] 5 w16 fun p17 w18 =>
  sem PP (Builtin.append_ #[23, 23] 23 #[.slice s3 s3n s3c, .slice (some p17) 4 4]) w18 fun v19 w20 =>
  opnL (some v19) fun x21 x21n x21c =>
  N_text_EncodeBase64.j13 Q x21 x21n x21c w20)
  (cond (((s0n : Nat) : Int) == 2)
  (drw w fun w22 =>
  (0 : Int) ≤ 0 ∧
  0 < ((s0n : Nat) : Int) ∧
  opnA s0 fun ad23 =>
  (0 : Int) ≤ 1 ∧
  1 < ((s0n : Nat) : Int) ∧
  opnA s0 fun ad24 =>
  opnI .u8 (w22.cell? (ad23.add (Int.toNat 0 * 1))) fun x25 =>
  opnI .u8 (w22.cell? (ad24.add (Int.toNat 1 * 1))) fun x26 =>
  drw w22 fun w27 =>
  (0 : Int) ≤ shrI .i64 (bits .or .i64 (shlI .i64 (IntKind.wrap .i64 x25) 16) (shlI .i64 (IntKind.wrap .i64 x26) 8)) 18 ∧
  (shrI .i64 (bits .or .i64 (shlI .i64 (IntKind.wrap .i64 x25) 16) (shlI .i64 (IntKind.wrap .i64 x26) 8)) 18) < (((⟨#[65, 66, 67, 68, 69, 70, 71, 72, 73, 74, 75, 76, 77, 78, 79, 80, 81, 82, 83, 84, 85, 86, 87, 88, 89, 90, 97, 98, 99, 100, 101, 102, 103, 104, 105, 106, 107, 108, 109, 110, 111, 112, 113, 114, 115, 116, 117, 118, 119, 120, 121, 122, 48, 49, 50, 51, 52, 53, 54, 55, 56, 57, 43, 47]⟩ : ByteArray).size : Nat) : Int) ∧
  (0 : Int) ≤ bits .and .i64 (shrI .i64 (bits .or .i64 (shlI .i64 (IntKind.wrap .i64 x25) 16) (shlI .i64 (IntKind.wrap .i64 x26) 8)) 12) 63 ∧
  (bits .and .i64 (shrI .i64 (bits .or .i64 (shlI .i64 (IntKind.wrap .i64 x25) 16) (shlI .i64 (IntKind.wrap .i64 x26) 8)) 12) 63) < (((⟨#[65, 66, 67, 68, 69, 70, 71, 72, 73, 74, 75, 76, 77, 78, 79, 80, 81, 82, 83, 84, 85, 86, 87, 88, 89, 90, 97, 98, 99, 100, 101, 102, 103, 104, 105, 106, 107, 108, 109, 110, 111, 112, 113, 114, 115, 116, 117, 118, 119, 120, 121, 122, 48, 49, 50, 51, 52, 53, 54, 55, 56, 57, 43, 47]⟩ : ByteArray).size : Nat) : Int) ∧
  (0 : Int) ≤ bits .and .i64 (shrI .i64 (bits .or .i64 (shlI .i64 (IntKind.wrap .i64 x25) 16) (shlI .i64 (IntKind.wrap .i64 x26) 8)) 6) 63 ∧
  (bits .and .i64 (shrI .i64 (bits .or .i64 (shlI .i64 (IntKind.wrap .i64 x25) 16) (shlI .i64 (IntKind.wrap .i64 x26) 8)) 6) 63) < (((⟨#[65, 66, 67, 68, 69, 70, 71, 72, 73, 74, 75, 76, 77, 78, 79, 80, 81, 82, 83, 84, 85, 86, 87, 88, 89, 90, 97, 98, 99, 100, 101, 102, 103, 104, 105, 106, 107, 108, 109, 110, 111, 112, 113, 114, 115, 116, 117, 118, 119, 120, 121, 122, 48, 49, 50, 51, 52, 53, 54, 55, 56, 57, 43, 47]⟩ : ByteArray).size : Nat) : Int) ∧
  alC #[.int .u8 (bt (⟨#[65, 66, 67, 68, 69, 70, 71, 72, 73, 74, 75, 76, 77, 78, 79, 80, 81, 82, 83, 84, 85, 86, 87, 88, 89, 90, 97, 98, 99, 100, 101, 102, 103, 104, 105, 106, 107, 108, 109, 110, 111, 112, 113, 114, 115, 116, 117, 118, 119, 120, 121, 122, 48, 49, 50, 51, 52, 53, 54, 55, 56, 57, 43, 47]⟩ : ByteArray) (Int.toNat (shrI .i64 (bits .or .i64 (shlI .i64 (IntKind.wrap .i64 x25) 16) (shlI .i64 (IntKind.wrap .i64 x26) 8)) 18))), .int .u8 (bt (⟨#[65, 66, 67, 68, 69, 70, 71, 72, 73, 74, 75, 76, 77, 78, 79, 80, 81, 82, 83, 84, 85, 86, 87, 88, 89, 90, 97, 98, 99, 100, 101, 102, 103, 104, 105, 106, 107, 108, 109, 110, 111, 112, 113, 114, 115, 116, 117, 118, 119, 120, 121, 122, 48, 49, 50, 51, 52, 53, 54, 55, 56, 57, 43, 47]⟩ : ByteArray) (Int.toNat (bits .and .i64 (shrI .i64 (bits .or .i64 (shlI .i64 (IntKind.wrap .i64 x25) 16) (shlI .i64 (IntKind.wrap .i64 x26) 8)) 12) 63))), .int .u8 (bt (⟨#[65, 66, 67, 68, 69, 70, 71, 72, 73, 74, 75, 76, 77, 78, 79, 80, 81, 82, 83, 84, 85, 86, 87, 88, 89, 90, 97, 98, 99, 100, 101, 102, 103, 104, 105, 106, 107, 108, 109, 110, 111, 112, 113, 114, 115, 116, 117, 118, 119, 120, 121, 122, 48, 49, 50, 51, 52, 53, 54, 55, 56, 57, 43, 47]⟩ : ByteArray) (Int.toNat (bits .and .i64 (shrI .i64 (bits .or .i64 (shlI .i64 (IntKind.wrap .i64 x25) 16) (shlI .i64 (IntKind.wrap .i64 x26) 8)) 6) 63))), .int .u8 61] 5 w27 fun p28 w29 =>
  sem PP (Builtin.append_ #[23, 23] 23 #[.slice s3 s3n s3c, .slice (some p28) 4 4]) w29 fun v30 w31 =>
  opnL (some v30) fun x32 x32n x32c =>
  N_text_EncodeBase64.j13 Q x32 x32n x32c w31)
  (N_text_EncodeBase64.j13 Q s3 s3n s3c w)))) :
N_text_EncodeBase64.j2 Q s0 s0n s0c s3 s3n s3c w := Nd_fold K_text_EncodeBase64 (by kernel_rfl) h
theorem N_text_EncodeBase64.j13_eq (Q : Value → World → Prop) (s3 : Option Addr) (s3n : Nat) (s3c : Nat) (w : World) (h :
  semR PP (convert 23 9 (.slice s3 s3n s3c)) w fun x1 =>
  opnS (some x1) fun x2 =>
  Q (.string x2) w) :
N_text_EncodeBase64.j13 Q s3 s3n s3c w := Nd_fold K_text_EncodeBase64 (by kernel_rfl) h
theorem C_text_EncodeBase64_eq (Q : Value → World → Prop) (a0 : Option Addr) (a0n : Nat) (a0c : Nat) (w : World) (h :
  3 ≠ (0 : Int) ∧
  sem PP (Instr.makeSlice 23 (.int .i64 0) (.int .i64 (IntKind.wrap .i64 ((IntKind.wrap .i64 (Int.tdiv (IntKind.wrap .i64 (((a0n : Nat) : Int) + 2)) 3)) * 4)))) w fun v1 w2 =>
  opnL (some v1) fun x3 x3n x3c =>
  N_text_EncodeBase64.j2 Q a0 a0n a0c x3 x3n x3c w2) :
C_text_EncodeBase64 #[.slice a0 a0n a0c] w Q := C_fold K_text_EncodeBase64 (by kernel_rfl) h
/-! ### ledger/ledgerlaw21.bears -/
noncomputable def B_l21_bears : Code := match Tryz.f26.body with | some c => c | _ => .skip
noncomputable def X_l21_bears : Cx := { P := PP, fn := 26, N := 18, tab := tab, results := [.tmp 4], iter := fun _ => (.none, .none), dyn := fun _ => false, live := fun r => cond (Nat.beq r 2) (some [0, 1, 5]) (none) }
theorem K_l21_bears : OkF X_l21_bears B_l21_bears Tryz.f26 := ⟨⟨tab_ok, mix_ok⟩, Tryz.func26, by kernel_rfl, by kernel_rfl, by kernel_rfl, by kernel_rfl⟩
noncomputable def N_l21_bears.j2 (Q : Value → World → Prop) (s0 : Option Addr) (s0n : Nat) (s0c : Nat) (s1 : Int) (s5 : Int) (w : World) : Prop := Nd X_l21_bears Q [(0, 0, .slice s0 s0n s0c), (1, 1, .int .u8 s1), (5, 5, .int .i64 s5)] [.code (B_l21_bears.r.l.r.l.l.l.l), .code (B_l21_bears.r.l.r.l.l.l.r), .code (B_l21_bears.r.l.r.l.l.r), .inLoop (B_l21_bears.r.l.r.l.l), .inBlock 0, .code (B_l21_bears.r.r)] w
theorem N_l21_bears.j2_eq (Q : Value → World → Prop) (s0 : Option Addr) (s0n : Nat) (s0c : Nat) (s1 : Int) (s5 : Int) (w : World) (h :
  cond (decide (s5 < ((s0n : Nat) : Int)))
  ((0 : Int) ≤ s5 ∧
  s5 < ((s0n : Nat) : Int) ∧
  opnA s0 fun ad1 =>
  opnI .u8 (w.cell? (ad1.add (Int.toNat s5 * 1))) fun x2 =>
  cond (x2 != s1)
  (Q (.bool false) w)
  (N_l21_bears.j2 Q s0 s0n s0c s1 (IntKind.wrap .i64 (s5 + 1)) w))
  (Q (.bool true) w)) :
N_l21_bears.j2 Q s0 s0n s0c s1 s5 w := Nd_fold K_l21_bears (by kernel_rfl) h
theorem C_l21_bears_eq (Q : Value → World → Prop) (a0 : Option Addr) (a0n : Nat) (a0c : Nat) (a1 : Int) (w : World) (h :
  N_l21_bears.j2 Q a0 a0n a0c a1 0 w) :
C_l21_bears #[.slice a0 a0n a0c, .int .u8 a1] w Q := C_fold K_l21_bears (by kernel_rfl) h
/-! ### ledger/ledgerref21.lineOf -/
noncomputable def B_r21_lineOf : Code := match Tryz.f27.body with | some c => c | _ => .skip
noncomputable def X_r21_lineOf : Cx := { P := PP, fn := 27, N := 34, tab := tab, results := [.tmp 4, .tmp 5], iter := fun _ => (.none, .none), dyn := fun _ => false, live := fun r => cond (Nat.beq r 2) (some [0, 1, 6]) (cond (Nat.beq r 4) (some [0, 1, 6]) (cond (Nat.beq r 5) (some [0, 1, 6]) (cond (Nat.beq r 6) (some [0, 1, 6]) (none)))) }
theorem K_r21_lineOf : OkF X_r21_lineOf B_r21_lineOf Tryz.f27 := ⟨⟨tab_ok, mix_ok⟩, Tryz.func27, by kernel_rfl, by kernel_rfl, by kernel_rfl, by kernel_rfl⟩
noncomputable def N_r21_lineOf.j2 (Q : Value → World → Prop) (s0 : ByteArray) (s1 : Int) (s6 : Int) (w : World) : Prop := Nd X_r21_lineOf Q [(0, 0, .string s0), (1, 1, .int .i64 s1), (6, 6, .int .i64 s6)] [.code (B_r21_lineOf.r.r.l.l.l.l.l), .code (B_r21_lineOf.r.r.l.l.l.l.r), .code (B_r21_lineOf.r.r.l.l.l.r), .inLoop (B_r21_lineOf.r.r.l.l.l), .inBlock 0, .code (B_r21_lineOf.r.r.r)] w
noncomputable def N_r21_lineOf.j4 (Q : Value → World → Prop) (s0 : ByteArray) (s1 : Int) (s6 : Int) (w : World) : Prop := Nd X_r21_lineOf Q [(0, 0, .string s0), (1, 1, .int .i64 s1), (6, 6, .int .i64 s6)] [.code (B_r21_lineOf.r.r.r.l.l), .code (B_r21_lineOf.r.r.r.l.r), .code (B_r21_lineOf.r.r.r.r)] w
noncomputable def N_r21_lineOf.j5 (Q : Value → World → Prop) (s0 : ByteArray) (s1 : Int) (s6 : Int) (w : World) : Prop := Nd X_r21_lineOf Q [(0, 0, .string s0), (1, 1, .int .i64 s1), (6, 6, .int .i64 s6)] [.code (B_r21_lineOf.r.r.r.l.r.l.l), .code (B_r21_lineOf.r.r.r.l.r.l.r), .code (B_r21_lineOf.r.r.r.r)] w
noncomputable def N_r21_lineOf.j6 (Q : Value → World → Prop) (s0 : ByteArray) (s1 : Int) (s6 : Int) (w : World) : Prop := Nd X_r21_lineOf Q [(0, 0, .string s0), (1, 1, .int .i64 s1), (6, 6, .int .i64 s6)] [.code (B_r21_lineOf.r.r.r.r.l), .code (B_r21_lineOf.r.r.r.r.r)] w
theorem N_r21_lineOf.j2_eq (Q : Value → World → Prop) (s0 : ByteArray) (s1 : Int) (s6 : Int) (w : World) (h :
  cond (decide (s6 < ((s0.size : Nat) : Int)))
  ((0 : Int) ≤ s6 ∧
  s6 < ((s0.size : Nat) : Int) ∧
  cond ((bt s0 (Int.toNat s6)) != 10)
  (N_r21_lineOf.j2 Q s0 s1 (IntKind.wrap .i64 (s6 + 1)) w)
  (N_r21_lineOf.j4 Q s0 s1 s6 w))
  (N_r21_lineOf.j4 Q s0 s1 s6 w)) :
N_r21_lineOf.j2 Q s0 s1 s6 w := Nd_fold K_r21_lineOf (by kernel_rfl) h
theorem N_r21_lineOf.j4_eq (Q : Value → World → Prop) (s0 : ByteArray) (s1 : Int) (s6 : Int) (w : World) (h :
  cond (s6 == ((s0.size : Nat) : Int))
  (N_r21_lineOf.j5 Q s0 s1 s6 w)
  (N_r21_lineOf.j6 Q s0 s1 s6 w)) :
N_r21_lineOf.j4 Q s0 s1 s6 w := Nd_fold K_r21_lineOf (by kernel_rfl) h
theorem N_r21_lineOf.j5_eq (Q : Value → World → Prop) (s0 : ByteArray) (s1 : Int) (s6 : Int) (w : World) (h :
  (0 : Int) ≤ s1 ∧
  s1 ≤ ((s0.size : Nat) : Int) ∧
  Q (.tuple #[.string (s0.extract (Int.toNat s1) s0.size), .int .i64 s6]) w) :
N_r21_lineOf.j5 Q s0 s1 s6 w := Nd_fold K_r21_lineOf (by kernel_rfl) h
theorem N_r21_lineOf.j6_eq (Q : Value → World → Prop) (s0 : ByteArray) (s1 : Int) (s6 : Int) (w : World) (h :
  (0 : Int) ≤ s6 ∧
  s6 ≤ ((s0.size : Nat) : Int) ∧
  (0 : Int) ≤ s1 ∧
  s1 ≤ s6 ∧
  Q (.tuple #[.string (s0.extract (Int.toNat s1) (Int.toNat s6)), .int .i64 (IntKind.wrap .i64 (s6 + 1))]) w) :
N_r21_lineOf.j6 Q s0 s1 s6 w := Nd_fold K_r21_lineOf (by kernel_rfl) h
theorem C_r21_lineOf_eq (Q : Value → World → Prop) (a0 : ByteArray) (a1 : Int) (w : World) (h :
  N_r21_lineOf.j2 Q a0 a1 a1 w) :
C_r21_lineOf #[.string a0, .int .i64 a1] w Q := C_fold K_r21_lineOf (by kernel_rfl) h
/-! ### ledger/ledgerref06.ParseNumber -/
noncomputable def B_r06_ParseNumber : Code := match Tryz.f28.body with | some c => c | _ => .skip
noncomputable def X_r06_ParseNumber : Cx := { P := PP, fn := 28, N := 75, tab := tab, results := [.tmp 4, .tmp 5], iter := fun _ => (.none, .none), dyn := fun _ => false, live := fun r => cond (Nat.beq r 6) (some [0, 1, 6]) (cond (Nat.beq r 9) (some []) (cond (Nat.beq r 12) (some [0, 1]) (cond (Nat.beq r 13) (some []) (cond (Nat.beq r 14) (some [0, 1]) (cond (Nat.beq r 15) (some [0, 7]) (cond (Nat.beq r 16) (some []) (cond (Nat.beq r 17) (some [0]) (cond (Nat.beq r 18) (some [0, 8]) (cond (Nat.beq r 19) (some [0, 8, 9]) (none)))))))))) }
theorem K_r06_ParseNumber : OkF X_r06_ParseNumber B_r06_ParseNumber Tryz.f28 := ⟨⟨tab_ok, mix_ok⟩, Tryz.func28, by kernel_rfl, by kernel_rfl, by kernel_rfl, by kernel_rfl⟩
noncomputable def N_r06_ParseNumber.j6 (Q : Value → World → Prop) (s0 : ByteArray) (s1 : Int) (s6 : Int) (w : World) : Prop := Nd X_r06_ParseNumber Q [(0, 0, .string s0), (1, 1, .int .i64 s1), (6, 6, .int .i64 s6)] [.code (B_r06_ParseNumber.r.r.r.l.r.l.l.l.l), .code (B_r06_ParseNumber.r.r.r.l.r.l.l.l.r), .code (B_r06_ParseNumber.r.r.r.l.r.l.l.r), .inLoop (B_r06_ParseNumber.r.r.r.l.r.l.l), .inBlock 0, .code (B_r06_ParseNumber.r.r.r.r)] w
noncomputable def N_r06_ParseNumber.j9 (Q : Value → World → Prop) (w : World) : Prop := Nd X_r06_ParseNumber Q [] [.code (B_r06_ParseNumber.r.r.r.l.r.l.l.r.l.l.r.l.l), .code (B_r06_ParseNumber.r.r.r.l.r.l.l.r.l.l.r.l.r), .inBlock 1, .code (B_r06_ParseNumber.r.r.r.l.r.l.l.r.r), .inLoop (B_r06_ParseNumber.r.r.r.l.r.l.l), .inBlock 0, .code (B_r06_ParseNumber.r.r.r.r)] w
noncomputable def N_r06_ParseNumber.j12 (Q : Value → World → Prop) (s0 : ByteArray) (s1 : Int) (w : World) : Prop := Nd X_r06_ParseNumber Q [(0, 0, .string s0), (1, 1, .int .i64 s1)] [.code (B_r06_ParseNumber.r.r.r.r.r.l.l), .code (B_r06_ParseNumber.r.r.r.r.r.l.r), .code (B_r06_ParseNumber.r.r.r.r.r.r)] w
noncomputable def N_r06_ParseNumber.j13 (Q : Value → World → Prop) (w : World) : Prop := Nd X_r06_ParseNumber Q [] [.code (B_r06_ParseNumber.r.r.r.r.r.l.r.l.l), .code (B_r06_ParseNumber.r.r.r.r.r.l.r.l.r), .code (B_r06_ParseNumber.r.r.r.r.r.r)] w
noncomputable def N_r06_ParseNumber.j14 (Q : Value → World → Prop) (s0 : ByteArray) (s1 : Int) (w : World) : Prop := Nd X_r06_ParseNumber Q [(0, 0, .string s0), (1, 1, .int .i64 s1)] [.code (B_r06_ParseNumber.r.r.r.r.r.r.l), .code (B_r06_ParseNumber.r.r.r.r.r.r.r)] w
noncomputable def N_r06_ParseNumber.j15 (Q : Value → World → Prop) (s0 : ByteArray) (s7 : ByteArray) (w : World) : Prop := Nd X_r06_ParseNumber Q [(0, 0, .string s0), (7, 7, .string s7)] [.code (B_r06_ParseNumber.r.r.r.r.r.r.r.l.l), .code (B_r06_ParseNumber.r.r.r.r.r.r.r.l.r), .code (B_r06_ParseNumber.r.r.r.r.r.r.r.r)] w
noncomputable def N_r06_ParseNumber.j16 (Q : Value → World → Prop) (w : World) : Prop := Nd X_r06_ParseNumber Q [] [.code (B_r06_ParseNumber.r.r.r.r.r.r.r.l.r.l.l), .code (B_r06_ParseNumber.r.r.r.r.r.r.r.l.r.l.r), .code (B_r06_ParseNumber.r.r.r.r.r.r.r.r)] w
noncomputable def N_r06_ParseNumber.j17 (Q : Value → World → Prop) (s0 : ByteArray) (w : World) : Prop := Nd X_r06_ParseNumber Q [(0, 0, .string s0)] [.code (B_r06_ParseNumber.r.r.r.r.r.r.r.r.l), .code (B_r06_ParseNumber.r.r.r.r.r.r.r.r.r)] w
noncomputable def N_r06_ParseNumber.j18 (Q : Value → World → Prop) (s0 : ByteArray) (s8 : Int) (w : World) : Prop := Nd X_r06_ParseNumber Q [(0, 0, .string s0), (8, 8, .int .i64 s8)] [.code (B_r06_ParseNumber.r.r.r.r.r.r.r.r.r.l.l), .code (B_r06_ParseNumber.r.r.r.r.r.r.r.r.r.l.r), .code (B_r06_ParseNumber.r.r.r.r.r.r.r.r.r.r)] w
noncomputable def N_r06_ParseNumber.j19 (Q : Value → World → Prop) (s0 : ByteArray) (s8 : Int) (s9 : Int) (w : World) : Prop := Nd X_r06_ParseNumber Q [(0, 0, .string s0), (8, 8, .int .i64 s8), (9, 9, .int .i64 s9)] [.code (B_r06_ParseNumber.r.r.r.r.r.r.r.r.r.l.r.l.l.l.l), .code (B_r06_ParseNumber.r.r.r.r.r.r.r.r.r.l.r.l.l.l.r), .code (B_r06_ParseNumber.r.r.r.r.r.r.r.r.r.l.r.l.l.r), .inLoop (B_r06_ParseNumber.r.r.r.r.r.r.r.r.r.l.r.l.l), .inBlock 2, .code (B_r06_ParseNumber.r.r.r.r.r.r.r.r.r.r)] w
theorem N_r06_ParseNumber.j6_eq (Q : Value → World → Prop) (s0 : ByteArray) (s1 : Int) (s6 : Int) (w : World) (h :
  cond (decide (s6 < ((s0.size : Nat) : Int)))
  ((0 : Int) ≤ s6 ∧
  s6 < ((s0.size : Nat) : Int) ∧
  cond (decide ((bt s0 (Int.toNat s6)) < 48))
  (N_r06_ParseNumber.j9 Q w)
  ((0 : Int) ≤ s6 ∧
  s6 < ((s0.size : Nat) : Int) ∧
  cond (decide ((bt s0 (Int.toNat s6)) > 57))
  (N_r06_ParseNumber.j9 Q w)
  (N_r06_ParseNumber.j6 Q s0 s1 (IntKind.wrap .i64 (s6 + 1)) w)))
  ((0 : Int) ≤ 0 ∧
  0 < ((s0.size : Nat) : Int) ∧
  cond ((bt s0 (Int.toNat 0)) == 48)
  (cond (decide (((s0.size : Nat) : Int) > 1))
  (Q (.tuple #[.int .i64 0, .int .i64 62]) w)
  (N_r06_ParseNumber.j12 Q s0 s1 w))
  (N_r06_ParseNumber.j12 Q s0 s1 w))) :
N_r06_ParseNumber.j6 Q s0 s1 s6 w := Nd_fold K_r06_ParseNumber (by kernel_rfl) h
theorem N_r06_ParseNumber.j9_eq (Q : Value → World → Prop) (w : World) (h :
  Q (.tuple #[.int .i64 0, .int .i64 62]) w) :
N_r06_ParseNumber.j9 Q w := Nd_fold K_r06_ParseNumber (by kernel_rfl) h
theorem N_r06_ParseNumber.j12_eq (Q : Value → World → Prop) (s0 : ByteArray) (s1 : Int) (w : World) (h :
  cond (decide (s1 < 0))
  (N_r06_ParseNumber.j13 Q w)
  (N_r06_ParseNumber.j14 Q s0 s1 w)) :
N_r06_ParseNumber.j12 Q s0 s1 w := Nd_fold K_r06_ParseNumber (by kernel_rfl) h
theorem N_r06_ParseNumber.j13_eq (Q : Value → World → Prop) (w : World) (h :
  Q (.tuple #[.int .i64 0, .int .i64 63]) w) :
N_r06_ParseNumber.j13 Q w := Nd_fold K_r06_ParseNumber (by kernel_rfl) h
theorem N_r06_ParseNumber.j14_eq (Q : Value → World → Prop) (s0 : ByteArray) (s1 : Int) (w : World) (h :
  C_r06_FormatNumber #[.int .i64 s1] w fun v1 w2 =>
  opnS (some v1) fun x3 =>
  N_r06_ParseNumber.j15 Q s0 x3 w2) :
N_r06_ParseNumber.j14 Q s0 s1 w := Nd_fold K_r06_ParseNumber (by kernel_rfl) h
theorem N_r06_ParseNumber.j15_eq (Q : Value → World → Prop) (s0 : ByteArray) (s7 : ByteArray) (w : World) (h :
  cond (decide (((s0.size : Nat) : Int) > ((s7.size : Nat) : Int)))
  (N_r06_ParseNumber.j16 Q w)
  (cond (((s0.size : Nat) : Int) == ((s7.size : Nat) : Int))
  (cond (!(Op.bytesLess s0.toList s7.toList || (s0.toList == s7.toList)))
  (N_r06_ParseNumber.j16 Q w)
  (N_r06_ParseNumber.j17 Q s0 w))
  (N_r06_ParseNumber.j17 Q s0 w))) :
N_r06_ParseNumber.j15 Q s0 s7 w := Nd_fold K_r06_ParseNumber (by kernel_rfl) h
theorem N_r06_ParseNumber.j16_eq (Q : Value → World → Prop) (w : World) (h :
  Q (.tuple #[.int .i64 0, .int .i64 63]) w) :
N_r06_ParseNumber.j16 Q w := Nd_fold K_r06_ParseNumber (by kernel_rfl) h
theorem N_r06_ParseNumber.j17_eq (Q : Value → World → Prop) (s0 : ByteArray) (w : World) (h :
  N_r06_ParseNumber.j18 Q s0 0 w) :
N_r06_ParseNumber.j17 Q s0 w := Nd_fold K_r06_ParseNumber (by kernel_rfl) h
theorem N_r06_ParseNumber.j18_eq (Q : Value → World → Prop) (s0 : ByteArray) (s8 : Int) (w : World) (h :
  N_r06_ParseNumber.j19 Q s0 s8 0 w) :
N_r06_ParseNumber.j18 Q s0 s8 w := Nd_fold K_r06_ParseNumber (by kernel_rfl) h
theorem N_r06_ParseNumber.j19_eq (Q : Value → World → Prop) (s0 : ByteArray) (s8 : Int) (s9 : Int) (w : World) (h :
  cond (decide (s9 < ((s0.size : Nat) : Int)))
  ((0 : Int) ≤ s9 ∧
  s9 < ((s0.size : Nat) : Int) ∧
  N_r06_ParseNumber.j19 Q s0 (IntKind.wrap .i64 ((IntKind.wrap .i64 (10 * s8)) + (IntKind.wrap .i64 (IntKind.wrap .u8 ((bt s0 (Int.toNat s9)) - 48))))) (IntKind.wrap .i64 (s9 + 1)) w)
  (Q (.tuple #[.int .i64 s8, .int .i64 0]) w)) :
N_r06_ParseNumber.j19 Q s0 s8 s9 w := Nd_fold K_r06_ParseNumber (by kernel_rfl) h
theorem C_r06_ParseNumber_eq (Q : Value → World → Prop) (a0 : ByteArray) (a1 : Int) (w : World) (h :
  cond (decide (((a0.size : Nat) : Int) > 1048576))
  (Q (.tuple #[.int .i64 0, .int .i64 2]) w)
  (cond (a0.toList == (⟨#[]⟩ : ByteArray).toList)
  (Q (.tuple #[.int .i64 0, .int .i64 62]) w)
  (N_r06_ParseNumber.j6 Q a0 a1 0 w))) :
C_r06_ParseNumber #[.string a0, .int .i64 a1] w Q := C_fold K_r06_ParseNumber (by kernel_rfl) h
/-! ### ledger/ledgerref06.DecodeBase64 -/
noncomputable def B_r06_DecodeBase64 : Code := match Tryz.f29.body with | some c => c | _ => .skip
noncomputable def X_r06_DecodeBase64 : Cx := { P := PP, fn := 29, N := 50, tab := tab, results := [.tmp 2, .tmp 3], iter := fun _ => (.none, .none), dyn := fun _ => false, live := fun r => cond (Nat.beq r 7) (some [0, 4, 5, 6, 7]) (cond (Nat.beq r 8) (some [0, 4, 5, 6, 7]) (none)) }
theorem K_r06_DecodeBase64 : OkF X_r06_DecodeBase64 B_r06_DecodeBase64 Tryz.f29 := ⟨⟨tab_ok, mix_ok⟩, Tryz.func29, by kernel_rfl, by kernel_rfl, by kernel_rfl, by kernel_rfl⟩
noncomputable def N_r06_DecodeBase64.j7 (Q : Value → World → Prop) (s0 : ByteArray) (s4 : Option Addr) (s4n : Nat) (s4c : Nat) (s5 : Int) (s6 : Int) (s7 : Int) (w : World) : Prop := Nd X_r06_DecodeBase64 Q [(0, 0, .string s0), (4, 4, .slice s4 s4n s4c), (5, 5, .int .i64 s5), (6, 6, .int .i64 s6), (7, 7, .int .i64 s7)] [.code (B_r06_DecodeBase64.r.r.r.r.r.l.r.l.l.l.l), .code (B_r06_DecodeBase64.r.r.r.r.r.l.r.l.l.l.r), .code (B_r06_DecodeBase64.r.r.r.r.r.l.r.l.l.r), .inLoop (B_r06_DecodeBase64.r.r.r.r.r.l.r.l.l), .inBlock 0, .code (B_r06_DecodeBase64.r.r.r.r.r.r)] w
noncomputable def N_r06_DecodeBase64.j8 (Q : Value → World → Prop) (s0 : ByteArray) (s4 : Option Addr) (s4n : Nat) (s4c : Nat) (s5 : Int) (s6 : Int) (s7 : Int) (w : World) : Prop := Nd X_r06_DecodeBase64 Q [(0, 0, .string s0), (4, 4, .slice s4 s4n s4c), (5, 5, .int .i64 s5), (6, 6, .int .i64 s6), (7, 7, .int .i64 s7)] [.code (B_r06_DecodeBase64.r.r.r.r.r.l.r.l.l.r.r), .inLoop (B_r06_DecodeBase64.r.r.r.r.r.l.r.l.l), .inBlock 0, .code (B_r06_DecodeBase64.r.r.r.r.r.r)] w
theorem N_r06_DecodeBase64.j7_eq (Q : Value → World → Prop) (s0 : ByteArray) (s4 : Option Addr) (s4n : Nat) (s4c : Nat) (s5 : Int) (s6 : Int) (s7 : Int) (w : World) (h :
  cond (decide (s7 < ((s0.size : Nat) : Int)))
  ((0 : Int) ≤ s7 ∧
  s7 < ((s0.size : Nat) : Int) ∧
  C_r06_place #[.string (⟨#[65, 66, 67, 68, 69, 70, 71, 72, 73, 74, 75, 76, 77, 78, 79, 80, 81, 82, 83, 84, 85, 86, 87, 88, 89, 90, 97, 98, 99, 100, 101, 102, 103, 104, 105, 106, 107, 108, 109, 110, 111, 112, 113, 114, 115, 116, 117, 118, 119, 120, 121, 122, 48, 49, 50, 51, 52, 53, 54, 55, 56, 57, 43, 47]⟩ : ByteArray), .int .u8 (bt s0 (Int.toNat s7))] w fun v1 w2 =>
  opnI .i64 (some v1) fun x3 =>
  cond (decide (x3 < 0))
  (N_r06_DecodeBase64.j8 Q s0 s4 s4n s4c s5 s6 s7 w2)
  (256 ≠ (0 : Int) ∧
  cond (decide ((IntKind.wrap .i64 (s5 + 6)) ≥ 8))
  (nn (IntKind.wrap .u64 (IntKind.wrap .i64 ((IntKind.wrap .i64 (s5 + 6)) - 8))) (
  alC #[.int .u8 (IntKind.wrap .u8 (shrI .i64 (IntKind.wrap .i64 ((IntKind.wrap .i64 ((Int.tmod s6 256) * 64)) + x3)) (IntKind.wrap .u64 (IntKind.wrap .i64 ((IntKind.wrap .i64 (s5 + 6)) - 8)))))] 5 w2 fun p4 w5 =>
  sem PP (Builtin.append_ #[23, 23] 23 #[.slice s4 s4n s4c, .slice (some p4) 1 1]) w5 fun v6 w7 =>
  opnL (some v6) fun x8 x8n x8c =>
  N_r06_DecodeBase64.j8 Q s0 x8 x8n x8c (IntKind.wrap .i64 ((IntKind.wrap .i64 (s5 + 6)) - 8)) (IntKind.wrap .i64 ((IntKind.wrap .i64 ((Int.tmod s6 256) * 64)) + x3)) s7 w7))
  (N_r06_DecodeBase64.j8 Q s0 s4 s4n s4c (IntKind.wrap .i64 (s5 + 6)) (IntKind.wrap .i64 ((IntKind.wrap .i64 ((Int.tmod s6 256) * 64)) + x3)) s7 w2)))
  (C_r06_EncodeBase64 #[.slice s4 s4n s4c] w fun v9 w10 =>
  opnS (some v9) fun x11 =>
  cond (!(x11.toList == s0.toList))
  (Q (.tuple #[.slice none 0 0, .int .i64 60]) w10)
  (Q (.tuple #[.slice s4 s4n s4c, .int .i64 0]) w10))) :
N_r06_DecodeBase64.j7 Q s0 s4 s4n s4c s5 s6 s7 w := Nd_fold K_r06_DecodeBase64 (by kernel_rfl) h
theorem N_r06_DecodeBase64.j8_eq (Q : Value → World → Prop) (s0 : ByteArray) (s4 : Option Addr) (s4n : Nat) (s4c : Nat) (s5 : Int) (s6 : Int) (s7 : Int) (w : World) (h :
  N_r06_DecodeBase64.j7 Q s0 s4 s4n s4c s5 s6 (IntKind.wrap .i64 (s7 + 1)) w) :
N_r06_DecodeBase64.j8 Q s0 s4 s4n s4c s5 s6 s7 w := Nd_fold K_r06_DecodeBase64 (by kernel_rfl) h
theorem C_r06_DecodeBase64_eq (Q : Value → World → Prop) (a0 : ByteArray) (w : World) (h :
  cond (decide (((a0.size : Nat) : Int) > 1048576))
  (Q (.tuple #[.slice none 0 0, .int .i64 2]) w)
  (N_r06_DecodeBase64.j7 Q a0 none 0 0 0 0 0 w)) :
C_r06_DecodeBase64 #[.string a0] w Q := C_fold K_r06_DecodeBase64 (by kernel_rfl) h
/-! ### ledger/text.ParseNumber -/
noncomputable def B_text_ParseNumber : Code := match Tryz.f33.body with | some c => c | _ => .skip
noncomputable def X_text_ParseNumber : Cx := { P := PP, fn := 33, N := 53, tab := tab, results := [.tmp 4, .tmp 5], iter := fun _ => (.none, .none), dyn := fun _ => false, live := fun r => cond (Nat.beq r 4) (some [0, 1, 13, 14]) (cond (Nat.beq r 7) (some []) (cond (Nat.beq r 10) (some []) (cond (Nat.beq r 11) (some [0, 1]) (cond (Nat.beq r 12) (some [1, 7, 8]) (cond (Nat.beq r 13) (some []) (cond (Nat.beq r 14) (some [7]) (none))))))) }
theorem K_text_ParseNumber : OkF X_text_ParseNumber B_text_ParseNumber Tryz.f33 := ⟨⟨tab_ok, mix_ok⟩, Tryz.func33, by kernel_rfl, by kernel_rfl, by kernel_rfl, by kernel_rfl⟩
noncomputable def N_text_ParseNumber.j4 (Q : Value → World → Prop) (s0 : ByteArray) (s1 : Int) (s13 : Int) (s14 : Int) (w : World) : Prop := Nd X_text_ParseNumber Q [(0, 0, .string s0), (1, 1, .int .i64 s1), (13, 13, .int .i64 s13), (14, 14, .int .i64 s14)] [.code (B_text_ParseNumber.r.r.l.r.l.l.l), .code (B_text_ParseNumber.r.r.l.r.l.l.r), .inLoop (B_text_ParseNumber.r.r.l.r.l.l), .inBlock 0, .code (B_text_ParseNumber.r.r.r)] w
noncomputable def N_text_ParseNumber.j7 (Q : Value → World → Prop) (w : World) : Prop := Nd X_text_ParseNumber Q [] [.code (B_text_ParseNumber.r.r.l.r.l.l.r.r.l.l.r.r.l.l), .code (B_text_ParseNumber.r.r.l.r.l.l.r.r.l.l.r.r.l.r), .inBlock 1, .code (B_text_ParseNumber.r.r.l.r.l.l.r.r.r), .inLoop (B_text_ParseNumber.r.r.l.r.l.l), .inBlock 0, .code (B_text_ParseNumber.r.r.r)] w
noncomputable def N_text_ParseNumber.j10 (Q : Value → World → Prop) (w : World) : Prop := Nd X_text_ParseNumber Q [] [.code (B_text_ParseNumber.r.r.r.l.r.l.l), .code (B_text_ParseNumber.r.r.r.l.r.l.r), .code (B_text_ParseNumber.r.r.r.r)] w
noncomputable def N_text_ParseNumber.j11 (Q : Value → World → Prop) (s0 : ByteArray) (s1 : Int) (w : World) : Prop := Nd X_text_ParseNumber Q [(0, 0, .string s0), (1, 1, .int .i64 s1)] [.code (B_text_ParseNumber.r.r.r.r.l), .code (B_text_ParseNumber.r.r.r.r.r)] w
noncomputable def N_text_ParseNumber.j12 (Q : Value → World → Prop) (s1 : Int) (s7 : Int) (s8 : Value) (w : World) : Prop := Nd X_text_ParseNumber Q [(1, 1, .int .i64 s1), (7, 7, .int .i64 s7), (8, 8, s8)] [.code (B_text_ParseNumber.r.r.r.r.r.l.l), .code (B_text_ParseNumber.r.r.r.r.r.l.r), .code (B_text_ParseNumber.r.r.r.r.r.r)] w
noncomputable def N_text_ParseNumber.j13 (Q : Value → World → Prop) (w : World) : Prop := Nd X_text_ParseNumber Q [] [.code (B_text_ParseNumber.r.r.r.r.r.l.r.l.l), .code (B_text_ParseNumber.r.r.r.r.r.l.r.l.r), .code (B_text_ParseNumber.r.r.r.r.r.r)] w
noncomputable def N_text_ParseNumber.j14 (Q : Value → World → Prop) (s7 : Int) (w : World) : Prop := Nd X_text_ParseNumber Q [(7, 7, .int .i64 s7)] [.code (B_text_ParseNumber.r.r.r.r.r.r.l), .code (B_text_ParseNumber.r.r.r.r.r.r.r)] w
theorem N_text_ParseNumber.j4_eq (Q : Value → World → Prop) (s0 : ByteArray) (s1 : Int) (s13 : Int) (s14 : Int) (w : World) (h :
  cond (decide (s14 < s13))
  ((0 : Int) ≤ s14 ∧
  s14 < ((s0.size : Nat) : Int) ∧
  cond (decide ((bt s0 (Int.toNat s14)) < 48))
  (N_text_ParseNumber.j7 Q w)
  ((0 : Int) ≤ s14 ∧
  s14 < ((s0.size : Nat) : Int) ∧
  cond (decide ((bt s0 (Int.toNat s14)) > 57))
  (N_text_ParseNumber.j7 Q w)
  (N_text_ParseNumber.j4 Q s0 s1 s13 (IntKind.wrap .i64 (s14 + 1)) w)))
  (cond (s0.toList == (⟨#[]⟩ : ByteArray).toList)
  (N_text_ParseNumber.j10 Q w)
  (cond (decide (((s0.size : Nat) : Int) > 1))
  ((0 : Int) ≤ 0 ∧
  0 < ((s0.size : Nat) : Int) ∧
  cond ((bt s0 (Int.toNat 0)) == 48)
  (N_text_ParseNumber.j10 Q w)
  (N_text_ParseNumber.j11 Q s0 s1 w))
  (N_text_ParseNumber.j11 Q s0 s1 w)))) :
N_text_ParseNumber.j4 Q s0 s1 s13 s14 w := Nd_fold K_text_ParseNumber (by kernel_rfl) h
theorem N_text_ParseNumber.j7_eq (Q : Value → World → Prop) (w : World) (h :
  Q (.tuple #[.int .i64 0, .int .i64 62]) w) :
N_text_ParseNumber.j7 Q w := Nd_fold K_text_ParseNumber (by kernel_rfl) h
theorem N_text_ParseNumber.j10_eq (Q : Value → World → Prop) (w : World) (h :
  Q (.tuple #[.int .i64 0, .int .i64 62]) w) :
N_text_ParseNumber.j10 Q w := Nd_fold K_text_ParseNumber (by kernel_rfl) h
theorem N_text_ParseNumber.j11_eq (Q : Value → World → Prop) (s0 : ByteArray) (s1 : Int) (w : World) (h :
  C_strconv_ParseInt #[.string s0, .int .i64 10, .int .i64 64] w fun v1 w2 =>
  opnT (some v1) fun x3 =>
  x3.size = 2 ∧
  opnI .i64 (x3[0]?) fun x4 =>
  opnV (x3[1]?) fun x5 =>
  N_text_ParseNumber.j12 Q s1 x4 x5 w2) :
N_text_ParseNumber.j11 Q s0 s1 w := Nd_fold K_text_ParseNumber (by kernel_rfl) h
theorem N_text_ParseNumber.j12_eq (Q : Value → World → Prop) (s1 : Int) (s7 : Int) (s8 : Value) (w : World) (h :
  semR PP (do eqGuard .neq 63 (.tmp 45) (.const .nilIface) s8 .nilIface; binOp .neq 63 s8 .nilIface) w fun x1 =>
  opnB (some x1) fun x2 =>
  cond x2
  (N_text_ParseNumber.j13 Q w)
  (cond (decide (s7 > s1))
  (N_text_ParseNumber.j13 Q w)
  (N_text_ParseNumber.j14 Q s7 w))) :
N_text_ParseNumber.j12 Q s1 s7 s8 w := Nd_fold K_text_ParseNumber (by kernel_rfl) h
theorem N_text_ParseNumber.j13_eq (Q : Value → World → Prop) (w : World) (h :
  Q (.tuple #[.int .i64 0, .int .i64 63]) w) :
N_text_ParseNumber.j13 Q w := Nd_fold K_text_ParseNumber (by kernel_rfl) h
theorem N_text_ParseNumber.j14_eq (Q : Value → World → Prop) (s7 : Int) (w : World) (h :
  Q (.tuple #[.int .i64 s7, .int .i64 0]) w) :
N_text_ParseNumber.j14 Q s7 w := Nd_fold K_text_ParseNumber (by kernel_rfl) h
theorem C_text_ParseNumber_eq (Q : Value → World → Prop) (a0 : ByteArray) (a1 : Int) (w : World) (h :
  cond (decide (((a0.size : Nat) : Int) > 1048576))
  (Q (.tuple #[.int .i64 0, .int .i64 2]) w)
  (N_text_ParseNumber.j4 Q a0 a1 ((a0.size : Nat) : Int) 0 w)) :
C_text_ParseNumber #[.string a0, .int .i64 a1] w Q := C_fold K_text_ParseNumber (by kernel_rfl) h
/-! ### ledger/text.DecodeBase64 -/
noncomputable def B_text_DecodeBase64 : Code := match Tryz.f34.body with | some c => c | _ => .skip
noncomputable def X_text_DecodeBase64 : Cx := { P := PP, fn := 34, N := 62, tab := tab, results := [.tmp 2, .tmp 3], iter := fun _ => (.none, .none), dyn := fun _ => false, live := fun r => cond (Nat.beq r 9) (some [4, 5, 6, 7, 26, 27]) (cond (Nat.beq r 19) (some [4, 5, 6, 7, 26, 27]) (none)) }
theorem K_text_DecodeBase64 : OkF X_text_DecodeBase64 B_text_DecodeBase64 Tryz.f34 := ⟨⟨tab_ok, mix_ok⟩, Tryz.func34, by kernel_rfl, by kernel_rfl, by kernel_rfl, by kernel_rfl⟩
noncomputable def N_text_DecodeBase64.j9 (Q : Value → World → Prop) (s4 : ByteArray) (s5 : Option Addr) (s5n : Nat) (s5c : Nat) (s6 : Int) (s7 : Int) (s26 : Int) (s27 : Int) (w : World) : Prop := Nd X_text_DecodeBase64 Q [(4, 4, .string s4), (5, 5, .slice s5 s5n s5c), (6, 6, .int .i64 s6), (7, 7, .int .i64 s7), (26, 26, .int .i64 s26), (27, 27, .int .i64 s27)] [.code (B_text_DecodeBase64.r.r.r.r.r.r.l.r.l.l.l), .code (B_text_DecodeBase64.r.r.r.r.r.r.l.r.l.l.r), .inLoop (B_text_DecodeBase64.r.r.r.r.r.r.l.r.l.l), .inBlock 0, .code (B_text_DecodeBase64.r.r.r.r.r.r.r)] w
noncomputable def N_text_DecodeBase64.j19 (Q : Value → World → Prop) (s4 : ByteArray) (s5 : Option Addr) (s5n : Nat) (s5c : Nat) (s6 : Int) (s7 : Int) (s26 : Int) (s27 : Int) (w : World) : Prop := Nd X_text_DecodeBase64 Q [(4, 4, .string s4), (5, 5, .slice s5 s5n s5c), (6, 6, .int .i64 s6), (7, 7, .int .i64 s7), (26, 26, .int .i64 s26), (27, 27, .int .i64 s27)] [.code (B_text_DecodeBase64.r.r.r.r.r.r.l.r.l.l.r.r.r), .inLoop (B_text_DecodeBase64.r.r.r.r.r.r.l.r.l.l), .inBlock 0, .code (B_text_DecodeBase64.r.r.r.r.r.r.r)] w
theorem N_text_DecodeBase64.j9_eq (Q : Value → World → Prop) (s4 : ByteArray) (s5 : Option Addr) (s5n : Nat) (s5c : Nat) (s6 : Int) (s7 : Int) (s26 : Int) (s27 : Int) (w : World) (h :
  cond (decide (s27 < s26))
  ((0 : Int) ≤ s27 ∧
  s27 < ((s4.size : Nat) : Int) ∧
  C_text_value #[.int .u8 (bt s4 (Int.toNat s27))] w fun v1 w2 =>
  opnI .i64 (some v1) fun x3 =>
  cond (decide (x3 < 0))
  (Q (.tuple #[.slice none 0 0, .int .i64 60]) w2)
  (cond (decide ((IntKind.wrap .i64 (s7 + 6)) ≥ 8))
  (nn (IntKind.wrap .i64 ((IntKind.wrap .i64 (s7 + 6)) - 8)) (
  alC #[.int .u8 (IntKind.wrap .u8 (shrI .i64 (bits .or .i64 (shlI .i64 s6 6) x3) (IntKind.wrap .i64 ((IntKind.wrap .i64 (s7 + 6)) - 8))))] 5 w2 fun p4 w5 =>
  sem PP (Builtin.append_ #[23, 23] 23 #[.slice s5 s5n s5c, .slice (some p4) 1 1]) w5 fun v6 w7 =>
  opnL (some v6) fun x8 x8n x8c =>
  nn (IntKind.wrap .i64 ((IntKind.wrap .i64 (s7 + 6)) - 8)) (
  N_text_DecodeBase64.j19 Q s4 x8 x8n x8c (bits .and .i64 (bits .or .i64 (shlI .i64 s6 6) x3) (IntKind.wrap .i64 ((shlI .i64 1 (IntKind.wrap .i64 ((IntKind.wrap .i64 (s7 + 6)) - 8))) - 1))) (IntKind.wrap .i64 ((IntKind.wrap .i64 (s7 + 6)) - 8)) s26 s27 w7)))
  (N_text_DecodeBase64.j19 Q s4 s5 s5n s5c (bits .or .i64 (shlI .i64 s6 6) x3) (IntKind.wrap .i64 (s7 + 6)) s26 s27 w2)))
  (cond (s6 != 0)
  (Q (.tuple #[.slice none 0 0, .int .i64 60]) w)
  (Q (.tuple #[.slice s5 s5n s5c, .int .i64 0]) w))) :
N_text_DecodeBase64.j9 Q s4 s5 s5n s5c s6 s7 s26 s27 w := Nd_fold K_text_DecodeBase64 (by kernel_rfl) h
theorem N_text_DecodeBase64.j19_eq (Q : Value → World → Prop) (s4 : ByteArray) (s5 : Option Addr) (s5n : Nat) (s5c : Nat) (s6 : Int) (s7 : Int) (s26 : Int) (s27 : Int) (w : World) (h :
  N_text_DecodeBase64.j9 Q s4 s5 s5n s5c s6 s7 s26 (IntKind.wrap .i64 (s27 + 1)) w) :
N_text_DecodeBase64.j19 Q s4 s5 s5n s5c s6 s7 s26 s27 w := Nd_fold K_text_DecodeBase64 (by kernel_rfl) h
theorem C_text_DecodeBase64_eq (Q : Value → World → Prop) (a0 : ByteArray) (w : World) (h :
  cond (decide (((a0.size : Nat) : Int) > 1048576))
  (Q (.tuple #[.slice none 0 0, .int .i64 2]) w)
  (4 ≠ (0 : Int) ∧
  cond ((Int.tmod ((a0.size : Nat) : Int) 4) != 0)
  (Q (.tuple #[.slice none 0 0, .int .i64 60]) w)
  (C_strings_TrimSuffix #[.string a0, .string (⟨#[61]⟩ : ByteArray)] w fun v1 w2 =>
  opnS (some v1) fun x3 =>
  C_strings_TrimSuffix #[.string x3, .string (⟨#[61]⟩ : ByteArray)] w2 fun v4 w5 =>
  opnS (some v4) fun x6 =>
  4 ≠ (0 : Int) ∧
  sem PP (Instr.makeSlice 23 (.int .i64 0) (.int .i64 (IntKind.wrap .i64 ((IntKind.wrap .i64 (Int.tdiv ((a0.size : Nat) : Int) 4)) * 3)))) w5 fun v7 w8 =>
  opnL (some v7) fun x9 x9n x9c =>
  N_text_DecodeBase64.j9 Q x6 x9 x9n x9c 0 0 ((x6.size : Nat) : Int) 0 w8))) :
C_text_DecodeBase64 #[.string a0] w Q := C_fold K_text_DecodeBase64 (by kernel_rfl) h
/-! ### ledger/ledgerref07.loose -/
noncomputable def B_r07_loose : Code := match Tryz.f35.body with | some c => c | _ => .skip
noncomputable def X_r07_loose : Cx := { P := PP, fn := 35, N := 91, tab := tab, results := [.cell 2 85], iter := fun _ => (.none, .none), dyn := fun _ => false, live := fun r => cond (Nat.beq r 3) (some [0, 2, 3, 4]) (cond (Nat.beq r 5) (some [0, 2, 3, 4]) (cond (Nat.beq r 6) (some [0, 2, 3, 4, 5]) (cond (Nat.beq r 8) (some [0, 2, 3, 4, 5]) (cond (Nat.beq r 9) (some [2, 3]) (cond (Nat.beq r 10) (some [0, 2, 3, 4, 5]) (cond (Nat.beq r 11) (some [0, 2, 3, 5]) (cond (Nat.beq r 12) (some [2, 3, 6, 7]) (cond (Nat.beq r 13) (some [2, 3]) (cond (Nat.beq r 14) (some [2, 3, 6]) (cond (Nat.beq r 15) (some [2, 3, 6]) (cond (Nat.beq r 16) (some [2, 3]) (none)))))))))))) }
theorem K_r07_loose : OkF X_r07_loose B_r07_loose Tryz.f35 := ⟨⟨tab_ok, mix_ok⟩, Tryz.func35, by kernel_rfl, by kernel_rfl, by kernel_rfl, by kernel_rfl⟩
noncomputable def N_r07_loose.j3 (Q : Value → World → Prop) (s0 : ByteArray) (s2 : Addr) (s3 : Addr) (s4 : Int) (w : World) : Prop := Nd X_r07_loose Q [(0, 0, .string s0), (2, 2, .pointer (some s2)), (3, 3, .pointer (some s3)), (4, 4, .int .i64 s4)] [.code (B_r07_loose.r.r.r.l.l.l.l.l), .code (B_r07_loose.r.r.r.l.l.l.l.r), .code (B_r07_loose.r.r.r.l.l.l.r), .inLoop (B_r07_loose.r.r.r.l.l.l), .inBlock 0, .code (B_r07_loose.r.r.r.r)] w
noncomputable def N_r07_loose.j5 (Q : Value → World → Prop) (s0 : ByteArray) (s2 : Addr) (s3 : Addr) (s4 : Int) (w : World) : Prop := Nd X_r07_loose Q [(0, 0, .string s0), (2, 2, .pointer (some s2)), (3, 3, .pointer (some s3)), (4, 4, .int .i64 s4)] [.code (B_r07_loose.r.r.r.r.l), .code (B_r07_loose.r.r.r.r.r)] w
noncomputable def N_r07_loose.j6 (Q : Value → World → Prop) (s0 : ByteArray) (s2 : Addr) (s3 : Addr) (s4 : Int) (s5 : Int) (w : World) : Prop := Nd X_r07_loose Q [(0, 0, .string s0), (2, 2, .pointer (some s2)), (3, 3, .pointer (some s3)), (4, 4, .int .i64 s4), (5, 5, .int .i64 s5)] [.code (B_r07_loose.r.r.r.r.r.l.l.l.l.l), .code (B_r07_loose.r.r.r.r.r.l.l.l.l.r), .code (B_r07_loose.r.r.r.r.r.l.l.l.r), .inLoop (B_r07_loose.r.r.r.r.r.l.l.l), .inBlock 2, .code (B_r07_loose.r.r.r.r.r.r)] w
noncomputable def N_r07_loose.j8 (Q : Value → World → Prop) (s0 : ByteArray) (s2 : Addr) (s3 : Addr) (s4 : Int) (s5 : Int) (w : World) : Prop := Nd X_r07_loose Q [(0, 0, .string s0), (2, 2, .pointer (some s2)), (3, 3, .pointer (some s3)), (4, 4, .int .i64 s4), (5, 5, .int .i64 s5)] [.code (B_r07_loose.r.r.r.r.r.r.l.l), .code (B_r07_loose.r.r.r.r.r.r.l.r), .code (B_r07_loose.r.r.r.r.r.r.r)] w
noncomputable def N_r07_loose.j9 (Q : Value → World → Prop) (s2 : Addr) (s3 : Addr) (w : World) : Prop := Nd X_r07_loose Q [(2, 2, .pointer (some s2)), (3, 3, .pointer (some s3))] [.code (B_r07_loose.r.r.r.r.r.r.l.r.l.l), .code (B_r07_loose.r.r.r.r.r.r.l.r.l.r), .code (B_r07_loose.r.r.r.r.r.r.r)] w
noncomputable def N_r07_loose.j10 (Q : Value → World → Prop) (s0 : ByteArray) (s2 : Addr) (s3 : Addr) (s4 : Int) (s5 : Int) (w : World) : Prop := Nd X_r07_loose Q [(0, 0, .string s0), (2, 2, .pointer (some s2)), (3, 3, .pointer (some s3)), (4, 4, .int .i64 s4), (5, 5, .int .i64 s5)] [.code (B_r07_loose.r.r.r.r.r.r.r.l), .code (B_r07_loose.r.r.r.r.r.r.r.r)] w
noncomputable def N_r07_loose.j11 (Q : Value → World → Prop) (s0 : ByteArray) (s2 : Addr) (s3 : Addr) (s5 : Int) (w : World) : Prop := Nd X_r07_loose Q [(0, 0, .string s0), (2, 2, .pointer (some s2)), (3, 3, .pointer (some s3)), (5, 5, .int .i64 s5)] [.code (B_r07_loose.r.r.r.r.r.r.r.r.l), .code (B_r07_loose.r.r.r.r.r.r.r.r.r)] w
noncomputable def N_r07_loose.j12 (Q : Value → World → Prop) (s2 : Addr) (s3 : Addr) (s6 : Option Addr) (s6n : Nat) (s6c : Nat) (s7 : Int) (w : World) : Prop := Nd X_r07_loose Q [(2, 2, .pointer (some s2)), (3, 3, .pointer (some s3)), (6, 6, .slice s6 s6n s6c), (7, 7, .int .i64 s7)] [.code (B_r07_loose.r.r.r.r.r.r.r.r.r.l.l), .code (B_r07_loose.r.r.r.r.r.r.r.r.r.l.r), .code (B_r07_loose.r.r.r.r.r.r.r.r.r.r)] w
noncomputable def N_r07_loose.j13 (Q : Value → World → Prop) (s2 : Addr) (s3 : Addr) (w : World) : Prop := Nd X_r07_loose Q [(2, 2, .pointer (some s2)), (3, 3, .pointer (some s3))] [.code (B_r07_loose.r.r.r.r.r.r.r.r.r.l.r.l.l), .code (B_r07_loose.r.r.r.r.r.r.r.r.r.l.r.l.r), .code (B_r07_loose.r.r.r.r.r.r.r.r.r.r)] w
noncomputable def N_r07_loose.j14 (Q : Value → World → Prop) (s2 : Addr) (s3 : Addr) (s6 : Option Addr) (s6n : Nat) (s6c : Nat) (w : World) : Prop := Nd X_r07_loose Q [(2, 2, .pointer (some s2)), (3, 3, .pointer (some s3)), (6, 6, .slice s6 s6n s6c)] [.code (B_r07_loose.r.r.r.r.r.r.r.r.r.r.l), .code (B_r07_loose.r.r.r.r.r.r.r.r.r.r.r)] w
noncomputable def N_r07_loose.j15 (Q : Value → World → Prop) (s2 : Addr) (s3 : Addr) (s6 : Option Addr) (s6n : Nat) (s6c : Nat) (w : World) : Prop := Nd X_r07_loose Q [(2, 2, .pointer (some s2)), (3, 3, .pointer (some s3)), (6, 6, .slice s6 s6n s6c)] [.code (B_r07_loose.r.r.r.r.r.r.r.r.r.r.r.l), .code (B_r07_loose.r.r.r.r.r.r.r.r.r.r.r.r)] w
noncomputable def N_r07_loose.j16 (Q : Value → World → Prop) (s2 : Addr) (s3 : Addr) (w : World) : Prop := Nd X_r07_loose Q [(2, 2, .pointer (some s2)), (3, 3, .pointer (some s3))] [.code (B_r07_loose.r.r.r.r.r.r.r.r.r.r.r.r.l), .code (B_r07_loose.r.r.r.r.r.r.r.r.r.r.r.r.r)] w
theorem N_r07_loose.j3_eq (Q : Value → World → Prop) (s0 : ByteArray) (s2 : Addr) (s3 : Addr) (s4 : Int) (w : World) (h :
  cond (decide (s4 < ((s0.size : Nat) : Int)))
  ((0 : Int) ≤ s4 ∧
  s4 < ((s0.size : Nat) : Int) ∧
  cond ((bt s0 (Int.toNat s4)) != 32)
  (N_r07_loose.j3 Q s0 s2 s3 (IntKind.wrap .i64 (s4 + 1)) w)
  (N_r07_loose.j5 Q s0 s2 s3 s4 w))
  (N_r07_loose.j5 Q s0 s2 s3 s4 w)) :
N_r07_loose.j3 Q s0 s2 s3 s4 w := Nd_fold K_r07_loose (by kernel_rfl) h
theorem N_r07_loose.j5_eq (Q : Value → World → Prop) (s0 : ByteArray) (s2 : Addr) (s3 : Addr) (s4 : Int) (w : World) (h :
  N_r07_loose.j6 Q s0 s2 s3 s4 (IntKind.wrap .i64 (s4 + 1)) w) :
N_r07_loose.j5 Q s0 s2 s3 s4 w := Nd_fold K_r07_loose (by kernel_rfl) h
theorem N_r07_loose.j6_eq (Q : Value → World → Prop) (s0 : ByteArray) (s2 : Addr) (s3 : Addr) (s4 : Int) (s5 : Int) (w : World) (h :
  cond (decide (s5 < ((s0.size : Nat) : Int)))
  ((0 : Int) ≤ s5 ∧
  s5 < ((s0.size : Nat) : Int) ∧
  cond ((bt s0 (Int.toNat s5)) != 32)
  (N_r07_loose.j6 Q s0 s2 s3 s4 (IntKind.wrap .i64 (s5 + 1)) w)
  (N_r07_loose.j8 Q s0 s2 s3 s4 s5 w))
  (N_r07_loose.j8 Q s0 s2 s3 s4 s5 w)) :
N_r07_loose.j6 Q s0 s2 s3 s4 s5 w := Nd_fold K_r07_loose (by kernel_rfl) h
theorem N_r07_loose.j8_eq (Q : Value → World → Prop) (s0 : ByteArray) (s2 : Addr) (s3 : Addr) (s4 : Int) (s5 : Int) (w : World) (h :
  cond (decide (s5 ≥ ((s0.size : Nat) : Int)))
  (N_r07_loose.j9 Q s2 s3 w)
  (N_r07_loose.j10 Q s0 s2 s3 s4 s5 w)) :
N_r07_loose.j8 Q s0 s2 s3 s4 s5 w := Nd_fold K_r07_loose (by kernel_rfl) h
theorem N_r07_loose.j9_eq (Q : Value → World → Prop) (s2 : Addr) (s3 : Addr) (w : World) (h :
  opnS (w.cell? (s3.add 0)) fun x1 =>
  opnI .u32 (w.cell? (s3.add 1)) fun x2 =>
  opnL (w.cell? (s3.add 2)) fun x3 x3n x3c =>
  Array.size (#[.string x1, .int .u32 x2, .slice x3 x3n x3c] : Array Value) = 3 ∧
  stC (s2.add 0) (.string x1) w fun w4 =>
  stC (s2.add 1) (.int .u32 x2) w4 fun w5 =>
  stC (s2.add 2) (.slice x3 x3n x3c) w5 fun w6 =>
  opnS (w6.cell? (s2.add 0)) fun x7 =>
  opnI .u32 (w6.cell? (s2.add 1)) fun x8 =>
  opnL (w6.cell? (s2.add 2)) fun x9 x9n x9c =>
  Q (.agg #[.string x7, .int .u32 x8, .slice x9 x9n x9c]) w6) :
N_r07_loose.j9 Q s2 s3 w := Nd_fold K_r07_loose (by kernel_rfl) h
theorem N_r07_loose.j10_eq (Q : Value → World → Prop) (s0 : ByteArray) (s2 : Addr) (s3 : Addr) (s4 : Int) (s5 : Int) (w : World) (h :
  (0 : Int) ≤ s5 ∧
  s5 ≤ ((s0.size : Nat) : Int) ∧
  (0 : Int) ≤ (IntKind.wrap .i64 (s4 + 1)) ∧
  (IntKind.wrap .i64 (s4 + 1)) ≤ s5 ∧
  stC (s3.add 0) (.string (s0.extract (Int.toNat (IntKind.wrap .i64 (s4 + 1))) (Int.toNat s5))) w fun w1 =>
  N_r07_loose.j11 Q s0 s2 s3 s5 w1) :
N_r07_loose.j10 Q s0 s2 s3 s4 s5 w := Nd_fold K_r07_loose (by kernel_rfl) h
theorem N_r07_loose.j11_eq (Q : Value → World → Prop) (s0 : ByteArray) (s2 : Addr) (s3 : Addr) (s5 : Int) (w : World) (h :
  (0 : Int) ≤ (IntKind.wrap .i64 (s5 + 1)) ∧
  (IntKind.wrap .i64 (s5 + 1)) ≤ ((s0.size : Nat) : Int) ∧
  C_r06_DecodeBase64 #[.string (s0.extract (Int.toNat (IntKind.wrap .i64 (s5 + 1))) s0.size)] w fun v1 w2 =>
  opnT (some v1) fun x3 =>
  x3.size = 2 ∧
  opnL (x3[0]?) fun x4 x4n x4c =>
  opnI .i64 (x3[1]?) fun x5 =>
  N_r07_loose.j12 Q s2 s3 x4 x4n x4c x5 w2) :
N_r07_loose.j11 Q s0 s2 s3 s5 w := Nd_fold K_r07_loose (by kernel_rfl) h
theorem N_r07_loose.j12_eq (Q : Value → World → Prop) (s2 : Addr) (s3 : Addr) (s6 : Option Addr) (s6n : Nat) (s6c : Nat) (s7 : Int) (w : World) (h :
  cond (s7 != 0)
  (N_r07_loose.j13 Q s2 s3 w)
  (cond (decide (((s6n : Nat) : Int) < 4))
  (N_r07_loose.j13 Q s2 s3 w)
  (N_r07_loose.j14 Q s2 s3 s6 s6n s6c w))) :
N_r07_loose.j12 Q s2 s3 s6 s6n s6c s7 w := Nd_fold K_r07_loose (by kernel_rfl) h
theorem N_r07_loose.j13_eq (Q : Value → World → Prop) (s2 : Addr) (s3 : Addr) (w : World) (h :
  opnS (w.cell? (s3.add 0)) fun x1 =>
  opnI .u32 (w.cell? (s3.add 1)) fun x2 =>
  opnL (w.cell? (s3.add 2)) fun x3 x3n x3c =>
  Array.size (#[.string x1, .int .u32 x2, .slice x3 x3n x3c] : Array Value) = 3 ∧
  stC (s2.add 0) (.string x1) w fun w4 =>
  stC (s2.add 1) (.int .u32 x2) w4 fun w5 =>
  stC (s2.add 2) (.slice x3 x3n x3c) w5 fun w6 =>
  opnS (w6.cell? (s2.add 0)) fun x7 =>
  opnI .u32 (w6.cell? (s2.add 1)) fun x8 =>
  opnL (w6.cell? (s2.add 2)) fun x9 x9n x9c =>
  Q (.agg #[.string x7, .int .u32 x8, .slice x9 x9n x9c]) w6) :
N_r07_loose.j13 Q s2 s3 w := Nd_fold K_r07_loose (by kernel_rfl) h
theorem N_r07_loose.j14_eq (Q : Value → World → Prop) (s2 : Addr) (s3 : Addr) (s6 : Option Addr) (s6n : Nat) (s6c : Nat) (w : World) (h :
  drw w fun w1 =>
  (0 : Int) ≤ 0 ∧
  0 < ((s6n : Nat) : Int) ∧
  opnA s6 fun ad2 =>
  (0 : Int) ≤ 1 ∧
  1 < ((s6n : Nat) : Int) ∧
  opnA s6 fun ad3 =>
  (0 : Int) ≤ 2 ∧
  2 < ((s6n : Nat) : Int) ∧
  opnA s6 fun ad4 =>
  (0 : Int) ≤ 3 ∧
  3 < ((s6n : Nat) : Int) ∧
  opnA s6 fun ad5 =>
  opnI .u8 (w1.cell? (ad2.add (Int.toNat 0 * 1))) fun x6 =>
  opnI .u8 (w1.cell? (ad3.add (Int.toNat 1 * 1))) fun x7 =>
  opnI .u8 (w1.cell? (ad4.add (Int.toNat 2 * 1))) fun x8 =>
  opnI .u8 (w1.cell? (ad5.add (Int.toNat 3 * 1))) fun x9 =>
  stC (s3.add 1) (.int .u32 (IntKind.wrap .u32 ((IntKind.wrap .u32 ((IntKind.wrap .u32 ((shlI .u32 (IntKind.wrap .u32 x6) 24) + (shlI .u32 (IntKind.wrap .u32 x7) 16))) + (shlI .u32 (IntKind.wrap .u32 x8) 8))) + (IntKind.wrap .u32 x9)))) w1 fun w10 =>
  N_r07_loose.j15 Q s2 s3 s6 s6n s6c w10) :
N_r07_loose.j14 Q s2 s3 s6 s6n s6c w := Nd_fold K_r07_loose (by kernel_rfl) h
theorem N_r07_loose.j15_eq (Q : Value → World → Prop) (s2 : Addr) (s3 : Addr) (s6 : Option Addr) (s6n : Nat) (s6c : Nat) (w : World) (h :
  drw w fun w1 =>
  (0 : Int) ≤ 4 ∧
  4 ≤ ((s6n : Nat) : Int) ∧
  opnL (w1.cell? (s3.add 2)) fun x2 x2n x2c =>
  sem PP (Builtin.append_ #[23, 23] 23 #[.slice x2 x2n x2c, .slice (slA s6 (Int.toNat 4) s6c 1) (s6n - (Int.toNat 4)) (s6c - (Int.toNat 4))]) w1 fun v3 w4 =>
  opnL (some v3) fun x5 x5n x5c =>
  stC (s3.add 2) (.slice x5 x5n x5c) w4 fun w6 =>
  N_r07_loose.j16 Q s2 s3 w6) :
N_r07_loose.j15 Q s2 s3 s6 s6n s6c w := Nd_fold K_r07_loose (by kernel_rfl) h
theorem N_r07_loose.j16_eq (Q : Value → World → Prop) (s2 : Addr) (s3 : Addr) (w : World) (h :
  opnS (w.cell? (s3.add 0)) fun x1 =>
  opnI .u32 (w.cell? (s3.add 1)) fun x2 =>
  opnL (w.cell? (s3.add 2)) fun x3 x3n x3c =>
  Array.size (#[.string x1, .int .u32 x2, .slice x3 x3n x3c] : Array Value) = 3 ∧
  stC (s2.add 0) (.string x1) w fun w4 =>
  stC (s2.add 1) (.int .u32 x2) w4 fun w5 =>
  stC (s2.add 2) (.slice x3 x3n x3c) w5 fun w6 =>
  opnS (w6.cell? (s2.add 0)) fun x7 =>
  opnI .u32 (w6.cell? (s2.add 1)) fun x8 =>
  opnL (w6.cell? (s2.add 2)) fun x9 x9n x9c =>
  Q (.agg #[.string x7, .int .u32 x8, .slice x9 x9n x9c]) w6) :
N_r07_loose.j16 Q s2 s3 w := Nd_fold K_r07_loose (by kernel_rfl) h
theorem C_r07_loose_eq (Q : Value → World → Prop) (a0 : ByteArray) (w : World) (h :
  alC #[.string (⟨#[]⟩ : ByteArray), .int .u32 0, .slice none 0 0] 85 w fun p1 w2 =>
  alC #[.string (⟨#[]⟩ : ByteArray), .int .u32 0, .slice none 0 0] 85 w2 fun p3 w4 =>
  N_r07_loose.j3 Q a0 p1 p3 0 w4) :
C_r07_loose #[.string a0] w Q := C_fold K_r07_loose (by kernel_rfl) h
/-! ### ledger/ledgerref07.Format -/
noncomputable def B_r07_Format : Code := match Tryz.f36.body with | some c => c | _ => .skip
noncomputable def X_r07_Format : Cx := { P := PP, fn := 36, N := 93, tab := tab, results := [.tmp 4, .tmp 5], iter := fun _ => (.none, .none), dyn := fun _ => false, live := fun r => cond (Nat.beq r 2) (some []) (cond (Nat.beq r 5) (some [0, 1, 6, 7]) (cond (Nat.beq r 11) (some []) (cond (Nat.beq r 14) (some [1, 8, 9]) (cond (Nat.beq r 17) (some []) (none))))) }
theorem K_r07_Format : OkF X_r07_Format B_r07_Format Tryz.f36 := ⟨⟨tab_ok, mix_ok⟩, Tryz.func36, by kernel_rfl, by kernel_rfl, by kernel_rfl, by kernel_rfl⟩
noncomputable def N_r07_Format.j2 (Q : Value → World → Prop) (w : World) : Prop := Nd X_r07_Format Q [] [.code (B_r07_Format.r.l.r.l.l), .code (B_r07_Format.r.l.r.l.r), .code (B_r07_Format.r.r)] w
noncomputable def N_r07_Format.j5 (Q : Value → World → Prop) (s0 : ByteArray) (s1 : Option Addr) (s1n : Nat) (s1c : Nat) (s6 : Int) (s7 : Int) (w : World) : Prop := Nd X_r07_Format Q [(0, 0, .string s0), (1, 1, .slice s1 s1n s1c), (6, 6, .int .i64 s6), (7, 7, .int .i64 s7)] [.code (B_r07_Format.r.r.r.l.r.l.l.l.l), .code (B_r07_Format.r.r.r.l.r.l.l.l.r), .code (B_r07_Format.r.r.r.l.r.l.l.r), .inLoop (B_r07_Format.r.r.r.l.r.l.l), .inBlock 0, .code (B_r07_Format.r.r.r.r)] w
noncomputable def N_r07_Format.j11 (Q : Value → World → Prop) (w : World) : Prop := Nd X_r07_Format Q [] [.code (B_r07_Format.r.r.r.r.r.l.r.l.l), .code (B_r07_Format.r.r.r.r.r.l.r.l.r), .code (B_r07_Format.r.r.r.r.r.r)] w
noncomputable def N_r07_Format.j14 (Q : Value → World → Prop) (s1 : Option Addr) (s1n : Nat) (s1c : Nat) (s8 : ByteArray) (s9 : Int) (w : World) : Prop := Nd X_r07_Format Q [(1, 1, .slice s1 s1n s1c), (8, 8, .string s8), (9, 9, .int .i64 s9)] [.code (B_r07_Format.r.r.r.r.r.r.r.l.r.l.l.l.l), .code (B_r07_Format.r.r.r.r.r.r.r.l.r.l.l.l.r), .code (B_r07_Format.r.r.r.r.r.r.r.l.r.l.l.r), .inLoop (B_r07_Format.r.r.r.r.r.r.r.l.r.l.l), .inBlock 2, .code (B_r07_Format.r.r.r.r.r.r.r.r)] w
noncomputable def N_r07_Format.j17 (Q : Value → World → Prop) (w : World) : Prop := Nd X_r07_Format Q [] [.code (B_r07_Format.r.r.r.r.r.r.r.l.r.l.l.r.l.l.l.r.l.l), .code (B_r07_Format.r.r.r.r.r.r.r.l.r.l.l.r.l.l.l.r.l.r), .code (B_r07_Format.r.r.r.r.r.r.r.l.r.l.l.r.l.l.r), .inBlock 3, .code (B_r07_Format.r.r.r.r.r.r.r.l.r.l.l.r.r), .inLoop (B_r07_Format.r.r.r.r.r.r.r.l.r.l.l), .inBlock 2, .code (B_r07_Format.r.r.r.r.r.r.r.r)] w
theorem N_r07_Format.j2_eq (Q : Value → World → Prop) (w : World) (h :
  Q (.tuple #[.slice none 0 0, .int .i64 2]) w) :
N_r07_Format.j2 Q w := Nd_fold K_r07_Format (by kernel_rfl) h
theorem N_r07_Format.j5_eq (Q : Value → World → Prop) (s0 : ByteArray) (s1 : Option Addr) (s1n : Nat) (s1c : Nat) (s6 : Int) (s7 : Int) (w : World) (h :
  cond (decide (s7 < ((s1n : Nat) : Int)))
  (drw w fun w1 =>
  (0 : Int) ≤ s7 ∧
  s7 < ((s1n : Nat) : Int) ∧
  opnA s1 fun ad2 =>
  (0 : Int) ≤ s7 ∧
  s7 < ((s1n : Nat) : Int) ∧
  opnA s1 fun ad3 =>
  opnS (w1.cell? ((ad2.add (Int.toNat s7 * 3)).add 0)) fun x4 =>
  opnL (w1.cell? ((ad3.add (Int.toNat s7 * 3)).add 2)) fun x5 x5n x5c =>
  3 ≠ (0 : Int) ∧
  N_r07_Format.j5 Q s0 s1 s1n s1c (IntKind.wrap .i64 ((IntKind.wrap .i64 ((IntKind.wrap .i64 ((IntKind.wrap .i64 ((IntKind.wrap .i64 ((IntKind.wrap .i64 (s6 + 3)) + 1)) + ((x4.size : Nat) : Int))) + 1)) + (IntKind.wrap .i64 ((IntKind.wrap .i64 (Int.tdiv (IntKind.wrap .i64 ((IntKind.wrap .i64 (((x5n : Nat) : Int) + 4)) + 2)) 3)) * 4)))) + 1)) (IntKind.wrap .i64 (s7 + 1)) w1)
  (cond (decide (s6 > 65536))
  (Q (.tuple #[.slice none 0 0, .int .i64 2]) w)
  (C_r07_fit #[.string s0] w fun v6 w7 =>
  opnB (some v6) fun x8 =>
  cond (!x8)
  (N_r07_Format.j11 Q w7)
  (cond (((s1n : Nat) : Int) == 0)
  (N_r07_Format.j11 Q w7)
  (s0.size + (⟨#[10]⟩ : ByteArray).size ≤ 9223372036854775807 ∧
  N_r07_Format.j14 Q s1 s1n s1c (s0 ++ (⟨#[10]⟩ : ByteArray)) 0 w7))))) :
N_r07_Format.j5 Q s0 s1 s1n s1c s6 s7 w := Nd_fold K_r07_Format (by kernel_rfl) h
theorem N_r07_Format.j11_eq (Q : Value → World → Prop) (w : World) (h :
  Q (.tuple #[.slice none 0 0, .int .i64 74]) w) :
N_r07_Format.j11 Q w := Nd_fold K_r07_Format (by kernel_rfl) h
theorem N_r07_Format.j14_eq (Q : Value → World → Prop) (s1 : Option Addr) (s1n : Nat) (s1c : Nat) (s8 : ByteArray) (s9 : Int) (w : World) (h :
  cond (decide (s9 < ((s1n : Nat) : Int)))
  ((0 : Int) ≤ s9 ∧
  s9 < ((s1n : Nat) : Int) ∧
  opnA s1 fun ad1 =>
  opnS (w.cell? ((ad1.add (Int.toNat s9 * 3)).add 0)) fun x2 =>
  C_r07_CheckName #[.string x2] w fun v3 w4 =>
  opnI .i64 (some v3) fun x5 =>
  cond (x5 != 0)
  (N_r07_Format.j17 Q w4)
  ((0 : Int) ≤ s9 ∧
  s9 < ((s1n : Nat) : Int) ∧
  opnA s1 fun ad6 =>
  opnL (w4.cell? ((ad6.add (Int.toNat s9 * 3)).add 2)) fun x7 x7n x7c =>
  cond (((x7n : Nat) : Int) == 0)
  (N_r07_Format.j17 Q w4)
  ((0 : Int) ≤ s9 ∧
  s9 < ((s1n : Nat) : Int) ∧
  opnA s1 fun ad8 =>
  opnS (w4.cell? ((ad8.add (Int.toNat s9 * 3)).add 0)) fun x9 =>
  opnI .u32 (w4.cell? ((ad8.add (Int.toNat s9 * 3)).add 1)) fun x10 =>
  opnL (w4.cell? ((ad8.add (Int.toNat s9 * 3)).add 2)) fun x11 x11n x11c =>
  C_r07_line #[.agg #[.string x9, .int .u32 x10, .slice x11 x11n x11c]] w4 fun v12 w13 =>
  opnS (some v12) fun x14 =>
  s8.size + x14.size ≤ 9223372036854775807 ∧
  N_r07_Format.j14 Q s1 s1n s1c (s8 ++ x14) (IntKind.wrap .i64 (s9 + 1)) w13)))
  (sem PP (convert 9 23 (.string s8)) w fun v15 w16 =>
  opnL (some v15) fun x17 x17n x17c =>
  Q (.tuple #[.slice x17 x17n x17c, .int .i64 0]) w16)) :
N_r07_Format.j14 Q s1 s1n s1c s8 s9 w := Nd_fold K_r07_Format (by kernel_rfl) h
theorem N_r07_Format.j17_eq (Q : Value → World → Prop) (w : World) (h :
  Q (.tuple #[.slice none 0 0, .int .i64 74]) w) :
N_r07_Format.j17 Q w := Nd_fold K_r07_Format (by kernel_rfl) h
theorem C_r07_Format_eq (Q : Value → World → Prop) (a0 : ByteArray) (a1 : Option Addr) (a1n : Nat) (a1c : Nat) (w : World) (h :
  cond (decide (((a0.size : Nat) : Int) > 65536))
  (N_r07_Format.j2 Q w)
  (cond (decide (((a1n : Nat) : Int) > 16))
  (N_r07_Format.j2 Q w)
  (N_r07_Format.j5 Q a0 a1 a1n a1c (IntKind.wrap .i64 (((a0.size : Nat) : Int) + 1)) 0 w))) :
C_r07_Format #[.string a0, .slice a1 a1n a1c] w Q := C_fold K_r07_Format (by kernel_rfl) h
/-! ### ledger/ledgerref06.bits -/
noncomputable def B_r06_bits : Code := match Tryz.f37.body with | some c => c | _ => .skip
noncomputable def X_r06_bits : Cx := { P := PP, fn := 37, N := 29, tab := tab, results := [.tmp 2], iter := fun _ => (.none, .none), dyn := fun _ => false, live := fun r => cond (Nat.beq r 3) (some [0, 3, 4]) (cond (Nat.beq r 6) (some [0, 3, 4, 5]) (none)) }
theorem K_r06_bits : OkF X_r06_bits B_r06_bits Tryz.f37 := ⟨⟨tab_ok, mix_ok⟩, Tryz.func37, by kernel_rfl, by kernel_rfl, by kernel_rfl, by kernel_rfl⟩
noncomputable def N_r06_bits.j3 (Q : Value → World → Prop) (s0 : Option Addr) (s0n : Nat) (s0c : Nat) (s3 : Option Addr) (s3n : Nat) (s3c : Nat) (s4 : Int) (w : World) : Prop := Nd X_r06_bits Q [(0, 0, .slice s0 s0n s0c), (3, 3, .slice s3 s3n s3c), (4, 4, .int .i64 s4)] [.code (B_r06_bits.r.r.l.r.l.l.l.l), .code (B_r06_bits.r.r.l.r.l.l.l.r), .code (B_r06_bits.r.r.l.r.l.l.r), .inLoop (B_r06_bits.r.r.l.r.l.l), .inBlock 0, .code (B_r06_bits.r.r.r)] w
noncomputable def N_r06_bits.j6 (Q : Value → World → Prop) (s0 : Option Addr) (s0n : Nat) (s0c : Nat) (s3 : Option Addr) (s3n : Nat) (s3c : Nat) (s4 : Int) (s5 : Int) (w : World) : Prop := Nd X_r06_bits Q [(0, 0, .slice s0 s0n s0c), (3, 3, .slice s3 s3n s3c), (4, 4, .int .i64 s4), (5, 5, .int .i64 s5)] [.code (B_r06_bits.r.r.l.r.l.l.r.l.l.r.l.l.l.l), .code (B_r06_bits.r.r.l.r.l.l.r.l.l.r.l.l.l.r), .code (B_r06_bits.r.r.l.r.l.l.r.l.l.r.l.l.r), .inLoop (B_r06_bits.r.r.l.r.l.l.r.l.l.r.l.l), .inBlock 2, .inBlock 1, .code (B_r06_bits.r.r.l.r.l.l.r.r), .inLoop (B_r06_bits.r.r.l.r.l.l), .inBlock 0, .code (B_r06_bits.r.r.r)] w
theorem N_r06_bits.j3_eq (Q : Value → World → Prop) (s0 : Option Addr) (s0n : Nat) (s0c : Nat) (s3 : Option Addr) (s3n : Nat) (s3c : Nat) (s4 : Int) (w : World) (h :
  cond (decide (s4 < ((s0n : Nat) : Int)))
  (N_r06_bits.j6 Q s0 s0n s0c s3 s3n s3c s4 7 w)
  (Q (.slice s3 s3n s3c) w)) :
N_r06_bits.j3 Q s0 s0n s0c s3 s3n s3c s4 w := Nd_fold K_r06_bits (by kernel_rfl) h
theorem N_r06_bits.j6_eq (Q : Value → World → Prop) (s0 : Option Addr) (s0n : Nat) (s0c : Nat) (s3 : Option Addr) (s3n : Nat) (s3c : Nat) (s4 : Int) (s5 : Int) (w : World) (h :
  cond (decide (s5 ≥ 0))
  ((0 : Int) ≤ s4 ∧
  s4 < ((s0n : Nat) : Int) ∧
  opnA s0 fun ad1 =>
  opnI .u8 (w.cell? (ad1.add (Int.toNat s4 * 1))) fun x2 =>
  nn (IntKind.wrap .u64 s5) (
  2 ≠ (0 : Int) ∧
  alC #[.int .i64 (Int.tmod (IntKind.wrap .i64 (shrI .u8 x2 (IntKind.wrap .u64 s5))) 2)] 3 w fun p3 w4 =>
  sem PP (Builtin.append_ #[88, 88] 88 #[.slice s3 s3n s3c, .slice (some p3) 1 1]) w4 fun v5 w6 =>
  opnL (some v5) fun x7 x7n x7c =>
  N_r06_bits.j6 Q s0 s0n s0c x7 x7n x7c s4 (IntKind.wrap .i64 (s5 - 1)) w6))
  (N_r06_bits.j3 Q s0 s0n s0c s3 s3n s3c (IntKind.wrap .i64 (s4 + 1)) w)) :
N_r06_bits.j6 Q s0 s0n s0c s3 s3n s3c s4 s5 w := Nd_fold K_r06_bits (by kernel_rfl) h
theorem C_r06_bits_eq (Q : Value → World → Prop) (a0 : Option Addr) (a0n : Nat) (a0c : Nat) (w : World) (h :
  N_r06_bits.j3 Q a0 a0n a0c none 0 0 0 w) :
C_r06_bits #[.slice a0 a0n a0c] w Q := C_fold K_r06_bits (by kernel_rfl) h
/-! ### ledger/text.Cut -/
noncomputable def B_text_Cut : Code := match Tryz.f38.body with | some c => c | _ => .skip
noncomputable def X_text_Cut : Cx := { P := PP, fn := 38, N := 21, tab := tab, results := [.tmp 2, .tmp 3, .tmp 4], iter := fun _ => (.none, .none), dyn := fun _ => false, live := fun _ => none }
theorem K_text_Cut : OkF X_text_Cut B_text_Cut Tryz.f38 := ⟨⟨tab_ok, mix_ok⟩, Tryz.func38, by kernel_rfl, by kernel_rfl, by kernel_rfl, by kernel_rfl⟩
theorem C_text_Cut_eq (Q : Value → World → Prop) (a0 : ByteArray) (w : World) (h :
  cond (decide (((a0.size : Nat) : Int) > 1048576))
  (Q (.tuple #[.string (⟨#[]⟩ : ByteArray), .string (⟨#[]⟩ : ByteArray), .bool false]) w)
  (C_strings_LastIndex #[.string a0, .string (⟨#[10, 10]⟩ : ByteArray)] w fun v1 w2 =>
  opnI .i64 (some v1) fun x3 =>
  cond (decide (x3 < 0))
  (Q (.tuple #[.string (⟨#[]⟩ : ByteArray), .string (⟨#[]⟩ : ByteArray), .bool false]) w2)
  (drw w2 fun w4 =>
  (0 : Int) ≤ (IntKind.wrap .i64 (x3 + 1)) ∧
  (IntKind.wrap .i64 (x3 + 1)) ≤ ((a0.size : Nat) : Int) ∧
  (0 : Int) ≤ (IntKind.wrap .i64 (x3 + 2)) ∧
  (IntKind.wrap .i64 (x3 + 2)) ≤ ((a0.size : Nat) : Int) ∧
  Q (.tuple #[.string (a0.extract 0 (Int.toNat (IntKind.wrap .i64 (x3 + 1)))), .string (a0.extract (Int.toNat (IntKind.wrap .i64 (x3 + 2))) a0.size), .bool true]) w4))) :
C_text_Cut #[.string a0] w Q := C_fold K_text_Cut (by kernel_rfl) h
/-! ### ledger/note.isText -/
noncomputable def B_note_isText : Code := match Tryz.f39.body with | some c => c | _ => .skip
noncomputable def X_note_isText : Cx := { P := PP, fn := 39, N := 10, tab := tab, results := [.tmp 2], iter := fun _ => (.none, .none), dyn := fun _ => false, live := fun _ => none }
theorem K_note_isText : OkF X_note_isText B_note_isText Tryz.f39 := ⟨⟨tab_ok, mix_ok⟩, Tryz.func39, by kernel_rfl, by kernel_rfl, by kernel_rfl, by kernel_rfl⟩
theorem C_note_isText_eq (Q : Value → World → Prop) (a0 : ByteArray) (w : World) (h :
  C_strings_HasSuffix #[.string a0, .string (⟨#[10]⟩ : ByteArray)] w fun v1 w2 =>
  opnB (some v1) fun x3 =>
  cond x3
  (C_text_Plain #[.string a0] w2 fun v4 w5 =>
  opnI .i64 (some v4) fun x6 =>
  Q (.bool (x6 == 0)) w5)
  (Q (.bool false) w2)) :
C_note_isText #[.string a0] w Q := C_fold K_note_isText (by kernel_rfl) h
/-! ### ledger/note.line -/
noncomputable def B_note_line : Code := match Tryz.f41.body with | some c => c | _ => .skip
noncomputable def X_note_line : Cx := { P := PP, fn := 41, N := 74, tab := tab, results := [.cell 2 94, .tmp 3], iter := fun _ => (.none, .none), dyn := fun _ => false, live := fun r => cond (Nat.beq r 6) (some [2]) (cond (Nat.beq r 9) (some [2]) (none)) }
theorem K_note_line : OkF X_note_line B_note_line Tryz.f41 := ⟨⟨tab_ok, mix_ok⟩, Tryz.func41, by kernel_rfl, by kernel_rfl, by kernel_rfl, by kernel_rfl⟩
noncomputable def N_note_line.j6 (Q : Value → World → Prop) (s2 : Addr) (w : World) : Prop := Nd X_note_line Q [(2, 2, .pointer (some s2))] [.code (B_note_line.r.r.r.r.l.r.l.l), .code (B_note_line.r.r.r.r.l.r.l.r), .code (B_note_line.r.r.r.r.r)] w
noncomputable def N_note_line.j9 (Q : Value → World → Prop) (s2 : Addr) (w : World) : Prop := Nd X_note_line Q [(2, 2, .pointer (some s2))] [.code (B_note_line.r.r.r.r.r.r.l.r.l.l), .code (B_note_line.r.r.r.r.r.r.l.r.l.r), .code (B_note_line.r.r.r.r.r.r.r)] w
theorem N_note_line.j6_eq (Q : Value → World → Prop) (s2 : Addr) (w : World) (h :
  Array.size (#[.string (⟨#[]⟩ : ByteArray), .int .u32 0, .slice none 0 0] : Array Value) = 3 ∧
  stC (s2.add 0) (.string (⟨#[]⟩ : ByteArray)) w fun w1 =>
  stC (s2.add 1) (.int .u32 0) w1 fun w2 =>
  stC (s2.add 2) (.slice none 0 0) w2 fun w3 =>
  opnS (w3.cell? (s2.add 0)) fun x4 =>
  opnI .u32 (w3.cell? (s2.add 1)) fun x5 =>
  opnL (w3.cell? (s2.add 2)) fun x6 x6n x6c =>
  Q (.tuple #[.agg #[.string x4, .int .u32 x5, .slice x6 x6n x6c], .bool false]) w3) :
N_note_line.j6 Q s2 w := Nd_fold K_note_line (by kernel_rfl) h
theorem N_note_line.j9_eq (Q : Value → World → Prop) (s2 : Addr) (w : World) (h :
  Array.size (#[.string (⟨#[]⟩ : ByteArray), .int .u32 0, .slice none 0 0] : Array Value) = 3 ∧
  stC (s2.add 0) (.string (⟨#[]⟩ : ByteArray)) w fun w1 =>
  stC (s2.add 1) (.int .u32 0) w1 fun w2 =>
  stC (s2.add 2) (.slice none 0 0) w2 fun w3 =>
  opnS (w3.cell? (s2.add 0)) fun x4 =>
  opnI .u32 (w3.cell? (s2.add 1)) fun x5 =>
  opnL (w3.cell? (s2.add 2)) fun x6 x6n x6c =>
  Q (.tuple #[.agg #[.string x4, .int .u32 x5, .slice x6 x6n x6c], .bool false]) w3) :
N_note_line.j9 Q s2 w := Nd_fold K_note_line (by kernel_rfl) h
theorem C_note_line_eq (Q : Value → World → Prop) (a0 : ByteArray) (w : World) (h :
  alC #[.string (⟨#[]⟩ : ByteArray), .int .u32 0, .slice none 0 0] 94 w fun p1 w2 =>
  C_strings_CutPrefix #[.string a0, .string (⟨#[226, 128, 148, 32]⟩ : ByteArray)] w2 fun v3 w4 =>
  opnT (some v3) fun x5 =>
  x5.size = 2 ∧
  opnS (x5[0]?) fun x6 =>
  opnB (x5[1]?) fun x7 =>
  cond (!x7)
  (Array.size (#[.string (⟨#[]⟩ : ByteArray), .int .u32 0, .slice none 0 0] : Array Value) = 3 ∧
  stC (p1.add 0) (.string (⟨#[]⟩ : ByteArray)) w4 fun w8 =>
  stC (p1.add 1) (.int .u32 0) w8 fun w9 =>
  stC (p1.add 2) (.slice none 0 0) w9 fun w10 =>
  opnS (w10.cell? (p1.add 0)) fun x11 =>
  opnI .u32 (w10.cell? (p1.add 1)) fun x12 =>
  opnL (w10.cell? (p1.add 2)) fun x13 x13n x13c =>
  Q (.tuple #[.agg #[.string x11, .int .u32 x12, .slice x13 x13n x13c], .bool false]) w10)
  (C_strings_Cut #[.string x6, .string (⟨#[32]⟩ : ByteArray)] w4 fun v14 w15 =>
  opnT (some v14) fun x16 =>
  x16.size = 3 ∧
  opnS (x16[0]?) fun x17 =>
  opnS (x16[1]?) fun x18 =>
  opnB (x16[2]?) fun x19 =>
  cond (!x19)
  (N_note_line.j6 Q p1 w15)
  (C_note_CheckName #[.string x17] w15 fun v20 w21 =>
  opnI .i64 (some v20) fun x22 =>
  cond (x22 != 0)
  (N_note_line.j6 Q p1 w21)
  (C_text_DecodeBase64 #[.string x18] w21 fun v23 w24 =>
  opnT (some v23) fun x25 =>
  x25.size = 2 ∧
  opnL (x25[0]?) fun x26 x26n x26c =>
  opnI .i64 (x25[1]?) fun x27 =>
  cond (x27 != 0)
  (N_note_line.j9 Q p1 w24)
  (cond (decide (((x26n : Nat) : Int) < 5))
  (N_note_line.j9 Q p1 w24)
  (drw w24 fun w28 =>
  (0 : Int) ≤ 0 ∧
  0 < ((x26n : Nat) : Int) ∧
  opnA x26 fun ad29 =>
  (0 : Int) ≤ 1 ∧
  1 < ((x26n : Nat) : Int) ∧
  opnA x26 fun ad30 =>
  (0 : Int) ≤ 2 ∧
  2 < ((x26n : Nat) : Int) ∧
  opnA x26 fun ad31 =>
  (0 : Int) ≤ 3 ∧
  3 < ((x26n : Nat) : Int) ∧
  opnA x26 fun ad32 =>
  opnI .u8 (w28.cell? (ad29.add (Int.toNat 0 * 1))) fun x33 =>
  opnI .u8 (w28.cell? (ad30.add (Int.toNat 1 * 1))) fun x34 =>
  opnI .u8 (w28.cell? (ad31.add (Int.toNat 2 * 1))) fun x35 =>
  opnI .u8 (w28.cell? (ad32.add (Int.toNat 3 * 1))) fun x36 =>
  (0 : Int) ≤ 4 ∧
  4 ≤ ((x26n : Nat) : Int) ∧
  sem PP (Builtin.append_ #[23, 23] 23 #[.slice none 0 0, .slice (slA x26 (Int.toNat 4) x26c 1) (x26n - (Int.toNat 4)) (x26c - (Int.toNat 4))]) w28 fun v37 w38 =>
  opnL (some v37) fun x39 x39n x39c =>
  Array.size (#[.string x17, .int .u32 (bits .or .u32 (bits .or .u32 (bits .or .u32 (shlI .u32 (IntKind.wrap .u32 x33) 24) (shlI .u32 (IntKind.wrap .u32 x34) 16)) (shlI .u32 (IntKind.wrap .u32 x35) 8)) (IntKind.wrap .u32 x36)), .slice x39 x39n x39c] : Array Value) = 3 ∧
  stC (p1.add 0) (.string x17) w38 fun w40 =>
  stC (p1.add 1) (.int .u32 (bits .or .u32 (bits .or .u32 (bits .or .u32 (shlI .u32 (IntKind.wrap .u32 x33) 24) (shlI .u32 (IntKind.wrap .u32 x34) 16)) (shlI .u32 (IntKind.wrap .u32 x35) 8)) (IntKind.wrap .u32 x36))) w40 fun w41 =>
  stC (p1.add 2) (.slice x39 x39n x39c) w41 fun w42 =>
  opnS (w42.cell? (p1.add 0)) fun x43 =>
  opnI .u32 (w42.cell? (p1.add 1)) fun x44 =>
  opnL (w42.cell? (p1.add 2)) fun x45 x45n x45c =>
  Q (.tuple #[.agg #[.string x43, .int .u32 x44, .slice x45 x45n x45c], .bool true]) w42)))))) :
C_note_line #[.string a0] w Q := C_fold K_note_line (by kernel_rfl) h
/-! ### ledger/ledgerref06.place -/
noncomputable def B_r06_place : Code := match Tryz.f44.body with | some c => c | _ => .skip
noncomputable def X_r06_place : Cx := { P := PP, fn := 44, N := 18, tab := tab, results := [.tmp 4], iter := fun _ => (.none, .none), dyn := fun _ => false, live := fun r => cond (Nat.beq r 2) (some [0, 1, 5]) (none) }
theorem K_r06_place : OkF X_r06_place B_r06_place Tryz.f44 := ⟨⟨tab_ok, mix_ok⟩, Tryz.func44, by kernel_rfl, by kernel_rfl, by kernel_rfl, by kernel_rfl⟩
noncomputable def N_r06_place.j2 (Q : Value → World → Prop) (s0 : ByteArray) (s1 : Int) (s5 : Int) (w : World) : Prop := Nd X_r06_place Q [(0, 0, .string s0), (1, 1, .int .u8 s1), (5, 5, .int .i64 s5)] [.code (B_r06_place.r.l.r.l.l.l.l), .code (B_r06_place.r.l.r.l.l.l.r), .code (B_r06_place.r.l.r.l.l.r), .inLoop (B_r06_place.r.l.r.l.l), .inBlock 0, .code (B_r06_place.r.r)] w
theorem N_r06_place.j2_eq (Q : Value → World → Prop) (s0 : ByteArray) (s1 : Int) (s5 : Int) (w : World) (h :
  cond (decide (s5 < ((s0.size : Nat) : Int)))
  ((0 : Int) ≤ s5 ∧
  s5 < ((s0.size : Nat) : Int) ∧
  cond ((bt s0 (Int.toNat s5)) == s1)
  (Q (.int .i64 s5) w)
  (N_r06_place.j2 Q s0 s1 (IntKind.wrap .i64 (s5 + 1)) w))
  (Q (.int .i64 (-1)) w)) :
N_r06_place.j2 Q s0 s1 s5 w := Nd_fold K_r06_place (by kernel_rfl) h
theorem C_r06_place_eq (Q : Value → World → Prop) (a0 : ByteArray) (a1 : Int) (w : World) (h :
  N_r06_place.j2 Q a0 a1 0 w) :
C_r06_place #[.string a0, .int .u8 a1] w Q := C_fold K_r06_place (by kernel_rfl) h
/-! ### ledger/text.value -/
noncomputable def B_text_value : Code := match Tryz.f50.body with | some c => c | _ => .skip
noncomputable def X_text_value : Cx := { P := PP, fn := 50, N := 41, tab := tab, results := [.tmp 2], iter := fun _ => (.none, .none), dyn := fun _ => false, live := fun r => cond (Nat.beq r 3) (some [0]) (cond (Nat.beq r 4) (some [0]) (cond (Nat.beq r 5) (some [0]) (cond (Nat.beq r 6) (some [0]) (cond (Nat.beq r 7) (some [0]) (cond (Nat.beq r 8) (some []) (cond (Nat.beq r 9) (some [0]) (cond (Nat.beq r 10) (some []) (cond (Nat.beq r 11) (some []) (none))))))))) }
theorem K_text_value : OkF X_text_value B_text_value Tryz.f50 := ⟨⟨tab_ok, mix_ok⟩, Tryz.func50, by kernel_rfl, by kernel_rfl, by kernel_rfl, by kernel_rfl⟩
noncomputable def N_text_value.j3 (Q : Value → World → Prop) (s0 : Int) (w : World) : Prop := Nd X_text_value Q [(0, 0, .int .u8 s0)] [.code (B_text_value.r.l.l.r.r.l), .code (B_text_value.r.l.l.r.r.r), .inBlock 0, .code (B_text_value.r.r)] w
noncomputable def N_text_value.j4 (Q : Value → World → Prop) (s0 : Int) (w : World) : Prop := Nd X_text_value Q [(0, 0, .int .u8 s0)] [.code (B_text_value.r.l.l.r.r.r.l.l), .code (B_text_value.r.l.l.r.r.r.l.r), .inBlock 0, .code (B_text_value.r.r)] w
noncomputable def N_text_value.j5 (Q : Value → World → Prop) (s0 : Int) (w : World) : Prop := Nd X_text_value Q [(0, 0, .int .u8 s0)] [.code (B_text_value.r.l.l.r.r.r.r.l), .code (B_text_value.r.l.l.r.r.r.r.r), .inBlock 0, .code (B_text_value.r.r)] w
noncomputable def N_text_value.j6 (Q : Value → World → Prop) (s0 : Int) (w : World) : Prop := Nd X_text_value Q [(0, 0, .int .u8 s0)] [.code (B_text_value.r.l.l.r.r.r.r.r.l.l), .code (B_text_value.r.l.l.r.r.r.r.r.l.r), .inBlock 0, .code (B_text_value.r.r)] w
noncomputable def N_text_value.j7 (Q : Value → World → Prop) (s0 : Int) (w : World) : Prop := Nd X_text_value Q [(0, 0, .int .u8 s0)] [.code (B_text_value.r.l.l.r.r.r.r.r.r.l), .code (B_text_value.r.l.l.r.r.r.r.r.r.r), .inBlock 0, .code (B_text_value.r.r)] w
noncomputable def N_text_value.j8 (Q : Value → World → Prop) (w : World) : Prop := Nd X_text_value Q [] [.code (B_text_value.r.l.l.r.r.r.r.r.r.r.l.l), .code (B_text_value.r.l.l.r.r.r.r.r.r.r.l.r), .inBlock 0, .code (B_text_value.r.r)] w
noncomputable def N_text_value.j9 (Q : Value → World → Prop) (s0 : Int) (w : World) : Prop := Nd X_text_value Q [(0, 0, .int .u8 s0)] [.code (B_text_value.r.l.l.r.r.r.r.r.r.r.r.l), .code (B_text_value.r.l.l.r.r.r.r.r.r.r.r.r), .inBlock 0, .code (B_text_value.r.r)] w
noncomputable def N_text_value.j10 (Q : Value → World → Prop) (w : World) : Prop := Nd X_text_value Q [] [.code (B_text_value.r.l.l.r.r.r.r.r.r.r.r.r.l.l), .code (B_text_value.r.l.l.r.r.r.r.r.r.r.r.r.l.r), .inBlock 0, .code (B_text_value.r.r)] w
noncomputable def N_text_value.j11 (Q : Value → World → Prop) (w : World) : Prop := Nd X_text_value Q [] [.code (B_text_value.r.r.l), .code (B_text_value.r.r.r)] w
theorem N_text_value.j3_eq (Q : Value → World → Prop) (s0 : Int) (w : World) (h :
  cond (decide (s0 ≥ 97))
  (cond (decide (s0 ≤ 122))
  (N_text_value.j4 Q s0 w)
  (N_text_value.j5 Q s0 w))
  (N_text_value.j5 Q s0 w)) :
N_text_value.j3 Q s0 w := Nd_fold K_text_value (by kernel_rfl) h
theorem N_text_value.j4_eq (Q : Value → World → Prop) (s0 : Int) (w : World) (h :
  Q (.int .i64 (IntKind.wrap .i64 ((IntKind.wrap .i64 (IntKind.wrap .u8 (s0 - 97))) + 26))) w) :
N_text_value.j4 Q s0 w := Nd_fold K_text_value (by kernel_rfl) h
theorem N_text_value.j5_eq (Q : Value → World → Prop) (s0 : Int) (w : World) (h :
  cond (decide (s0 ≥ 48))
  (cond (decide (s0 ≤ 57))
  (N_text_value.j6 Q s0 w)
  (N_text_value.j7 Q s0 w))
  (N_text_value.j7 Q s0 w)) :
N_text_value.j5 Q s0 w := Nd_fold K_text_value (by kernel_rfl) h
theorem N_text_value.j6_eq (Q : Value → World → Prop) (s0 : Int) (w : World) (h :
  Q (.int .i64 (IntKind.wrap .i64 ((IntKind.wrap .i64 (IntKind.wrap .u8 (s0 - 48))) + 52))) w) :
N_text_value.j6 Q s0 w := Nd_fold K_text_value (by kernel_rfl) h
theorem N_text_value.j7_eq (Q : Value → World → Prop) (s0 : Int) (w : World) (h :
  cond (s0 == 43)
  (N_text_value.j8 Q w)
  (N_text_value.j9 Q s0 w)) :
N_text_value.j7 Q s0 w := Nd_fold K_text_value (by kernel_rfl) h
theorem N_text_value.j8_eq (Q : Value → World → Prop) (w : World) (h :
  Q (.int .i64 62) w) :
N_text_value.j8 Q w := Nd_fold K_text_value (by kernel_rfl) h
theorem N_text_value.j9_eq (Q : Value → World → Prop) (s0 : Int) (w : World) (h :
  cond (s0 == 47)
  (N_text_value.j10 Q w)
  (N_text_value.j11 Q w)) :
N_text_value.j9 Q s0 w := Nd_fold K_text_value (by kernel_rfl) h
theorem N_text_value.j10_eq (Q : Value → World → Prop) (w : World) (h :
  Q (.int .i64 63) w) :
N_text_value.j10 Q w := Nd_fold K_text_value (by kernel_rfl) h
theorem N_text_value.j11_eq (Q : Value → World → Prop) (w : World) (h :
  Q (.int .i64 (-1)) w) :
N_text_value.j11 Q w := Nd_fold K_text_value (by kernel_rfl) h
theorem C_text_value_eq (Q : Value → World → Prop) (a0 : Int) (w : World) (h :
  cond (decide (a0 ≥ 65))
  (cond (decide (a0 ≤ 90))
  (Q (.int .i64 (IntKind.wrap .i64 (IntKind.wrap .u8 (a0 - 65)))) w)
  (N_text_value.j3 Q a0 w))
  (N_text_value.j3 Q a0 w)) :
C_text_value #[.int .u8 a0] w Q := C_fold K_text_value (by kernel_rfl) h
/-! ### ledger/ledgerref07.fit -/
noncomputable def B_r07_fit : Code := match Tryz.f51.body with | some c => c | _ => .skip
noncomputable def X_r07_fit : Cx := { P := PP, fn := 51, N := 18, tab := tab, results := [.tmp 2], iter := fun _ => (.none, .none), dyn := fun _ => false, live := fun _ => none }
theorem K_r07_fit : OkF X_r07_fit B_r07_fit Tryz.f51 := ⟨⟨tab_ok, mix_ok⟩, Tryz.func51, by kernel_rfl, by kernel_rfl, by kernel_rfl, by kernel_rfl⟩
theorem C_r07_fit_eq (Q : Value → World → Prop) (a0 : ByteArray) (w : World) (h :
  cond (!(a0.toList == (⟨#[]⟩ : ByteArray).toList))
  ((0 : Int) ≤ IntKind.wrap .i64 (((a0.size : Nat) : Int) - 1) ∧
  (IntKind.wrap .i64 (((a0.size : Nat) : Int) - 1)) < ((a0.size : Nat) : Int) ∧
  cond ((bt a0 (Int.toNat (IntKind.wrap .i64 (((a0.size : Nat) : Int) - 1)))) == 10)
  (C_r06_Plain #[.string a0] w fun v1 w2 =>
  opnI .i64 (some v1) fun x3 =>
  Q (.bool (x3 == 0)) w2)
  (Q (.bool false) w))
  (Q (.bool false) w)) :
C_r07_fit #[.string a0] w Q := C_fold K_r07_fit (by kernel_rfl) h
/-! ### ledger/ledgerref07.CheckName -/
noncomputable def B_r07_CheckName : Code := match Tryz.f52.body with | some c => c | _ => .skip
noncomputable def X_r07_CheckName : Cx := { P := PP, fn := 52, N := 49, tab := tab, results := [.tmp 2], iter := fun _ => (.none, .none), dyn := fun _ => false, live := fun r => cond (Nat.beq r 2) (some []) (cond (Nat.beq r 4) (some [0, 3]) (cond (Nat.beq r 7) (some []) (cond (Nat.beq r 9) (some [0, 4]) (none)))) }
theorem K_r07_CheckName : OkF X_r07_CheckName B_r07_CheckName Tryz.f52 := ⟨⟨tab_ok, mix_ok⟩, Tryz.func52, by kernel_rfl, by kernel_rfl, by kernel_rfl, by kernel_rfl⟩
noncomputable def N_r07_CheckName.j2 (Q : Value → World → Prop) (w : World) : Prop := Nd X_r07_CheckName Q [] [.code (B_r07_CheckName.r.l.r.l.l), .code (B_r07_CheckName.r.l.r.l.r), .code (B_r07_CheckName.r.r)] w
noncomputable def N_r07_CheckName.j4 (Q : Value → World → Prop) (s0 : ByteArray) (s3 : Int) (w : World) : Prop := Nd X_r07_CheckName Q [(0, 0, .string s0), (3, 3, .int .i64 s3)] [.code (B_r07_CheckName.r.r.l.r.l.l.l.l), .code (B_r07_CheckName.r.r.l.r.l.l.l.r), .code (B_r07_CheckName.r.r.l.r.l.l.r), .inLoop (B_r07_CheckName.r.r.l.r.l.l), .inBlock 0, .code (B_r07_CheckName.r.r.r)] w
noncomputable def N_r07_CheckName.j7 (Q : Value → World → Prop) (w : World) : Prop := Nd X_r07_CheckName Q [] [.code (B_r07_CheckName.r.r.l.r.l.l.r.l.l.r.l.l), .code (B_r07_CheckName.r.r.l.r.l.l.r.l.l.r.l.r), .inBlock 1, .code (B_r07_CheckName.r.r.l.r.l.l.r.r), .inLoop (B_r07_CheckName.r.r.l.r.l.l), .inBlock 0, .code (B_r07_CheckName.r.r.r)] w
noncomputable def N_r07_CheckName.j9 (Q : Value → World → Prop) (s0 : ByteArray) (s4 : Int) (w : World) : Prop := Nd X_r07_CheckName Q [(0, 0, .string s0), (4, 4, .int .i64 s4)] [.code (B_r07_CheckName.r.r.r.l.r.l.l.l.l), .code (B_r07_CheckName.r.r.r.l.r.l.l.l.r), .code (B_r07_CheckName.r.r.r.l.r.l.l.r), .inLoop (B_r07_CheckName.r.r.r.l.r.l.l), .inBlock 2, .code (B_r07_CheckName.r.r.r.r)] w
theorem N_r07_CheckName.j2_eq (Q : Value → World → Prop) (w : World) (h :
  Q (.int .i64 70) w) :
N_r07_CheckName.j2 Q w := Nd_fold K_r07_CheckName (by kernel_rfl) h
theorem N_r07_CheckName.j4_eq (Q : Value → World → Prop) (s0 : ByteArray) (s3 : Int) (w : World) (h :
  cond (decide (s3 < ((s0.size : Nat) : Int)))
  ((0 : Int) ≤ s3 ∧
  s3 < ((s0.size : Nat) : Int) ∧
  cond (decide ((bt s0 (Int.toNat s3)) ≤ 32))
  (N_r07_CheckName.j7 Q w)
  ((0 : Int) ≤ s3 ∧
  s3 < ((s0.size : Nat) : Int) ∧
  cond ((bt s0 (Int.toNat s3)) == 43)
  (N_r07_CheckName.j7 Q w)
  ((0 : Int) ≤ s3 ∧
  s3 < ((s0.size : Nat) : Int) ∧
  cond ((bt s0 (Int.toNat s3)) == 127)
  (N_r07_CheckName.j7 Q w)
  (N_r07_CheckName.j4 Q s0 (IntKind.wrap .i64 (s3 + 1)) w))))
  (N_r07_CheckName.j9 Q s0 0 w)) :
N_r07_CheckName.j4 Q s0 s3 w := Nd_fold K_r07_CheckName (by kernel_rfl) h
theorem N_r07_CheckName.j7_eq (Q : Value → World → Prop) (w : World) (h :
  Q (.int .i64 70) w) :
N_r07_CheckName.j7 Q w := Nd_fold K_r07_CheckName (by kernel_rfl) h
theorem N_r07_CheckName.j9_eq (Q : Value → World → Prop) (s0 : ByteArray) (s4 : Int) (w : World) (h :
  cond (decide (s4 < 19))
  ((0 : Int) ≤ s4 ∧
  s4 < ((19 : Nat) : Int) ∧
  opnS (w.cell? ((⟨0, 0, none⟩ : Addr).add (Int.toNat s4 * 1))) fun x1 =>
  C_r07_holds #[.string s0, .string x1] w fun v2 w3 =>
  opnB (some v2) fun x4 =>
  cond x4
  (Q (.int .i64 70) w3)
  (N_r07_CheckName.j9 Q s0 (IntKind.wrap .i64 (s4 + 1)) w3))
  (Q (.int .i64 0) w)) :
N_r07_CheckName.j9 Q s0 s4 w := Nd_fold K_r07_CheckName (by kernel_rfl) h
theorem C_r07_CheckName_eq (Q : Value → World → Prop) (a0 : ByteArray) (w : World) (h :
  cond (decide (((a0.size : Nat) : Int) < 1))
  (N_r07_CheckName.j2 Q w)
  (cond (decide (((a0.size : Nat) : Int) > 100))
  (N_r07_CheckName.j2 Q w)
  (C_r06_Plain #[.string a0] w fun v1 w2 =>
  opnI .i64 (some v1) fun x3 =>
  cond (x3 != 0)
  (N_r07_CheckName.j2 Q w2)
  (N_r07_CheckName.j4 Q a0 0 w2)))) :
C_r07_CheckName #[.string a0] w Q := C_fold K_r07_CheckName (by kernel_rfl) h
end Go.Proofs.YtedioondfbnfjaaGreatDoor
/-! ## ShF2 -/
set_option maxRecDepth 100000
namespace Go.Proofs.YtedioondfbnfjaaGreatDoor
open Go.Sh
/-! ### ledger/ledgerref07.line -/
noncomputable def B_r07_line : Code := match Tryz.f53.body with | some c => c | _ => .skip
noncomputable def X_r07_line : Cx := { P := PP, fn := 53, N := 19, tab := tab, results := [.tmp 2], iter := fun _ => (.none, .none), dyn := fun _ => false, live := fun _ => none }
theorem K_r07_line : OkF X_r07_line B_r07_line Tryz.f53 := ⟨⟨tab_ok, mix_ok⟩, Tryz.func53, by kernel_rfl, by kernel_rfl, by kernel_rfl, by kernel_rfl⟩
theorem C_r07_line_eq (Q : Value → World → Prop) (a0_0 : ByteArray) (a0_1 : Int) (a0_2 : Option Addr) (a0_2n : Nat) (a0_2c : Nat) (w : World) (h :
  alC #[.string a0_0, .int .u32 a0_1, .slice a0_2 a0_2n a0_2c] 85 w fun p1 w2 =>
  opnI .u32 (w2.cell? (p1.add 1)) fun x3 =>
  C_r07_four #[.int .u32 x3] w2 fun v4 w5 =>
  opnL (some v4) fun x6 x6n x6c =>
  opnL (w5.cell? (p1.add 2)) fun x7 x7n x7c =>
  sem PP (Builtin.append_ #[23, 23] 23 #[.slice x6 x6n x6c, .slice x7 x7n x7c]) w5 fun v8 w9 =>
  opnL (some v8) fun x10 x10n x10c =>
  drw w9 fun w11 =>
  opnS (w11.cell? (p1.add 0)) fun x12 =>
  (⟨#[226, 128, 148, 32]⟩ : ByteArray).size + x12.size ≤ 9223372036854775807 ∧
  ((⟨#[226, 128, 148, 32]⟩ : ByteArray) ++ x12).size + (⟨#[32]⟩ : ByteArray).size ≤ 9223372036854775807 ∧
  C_r06_EncodeBase64 #[.slice x10 x10n x10c] w11 fun v13 w14 =>
  opnS (some v13) fun x15 =>
  (opnS (w14.cell? (p1.add 0)) fun x16 =>
  ((.string x16) : Value) = .string x12) ∧
  (((⟨#[226, 128, 148, 32]⟩ : ByteArray) ++ x12) ++ (⟨#[32]⟩ : ByteArray)).size + x15.size ≤ 9223372036854775807 ∧
  ((((⟨#[226, 128, 148, 32]⟩ : ByteArray) ++ x12) ++ (⟨#[32]⟩ : ByteArray)) ++ x15).size + (⟨#[10]⟩ : ByteArray).size ≤ 9223372036854775807 ∧
  Q (.string (((((⟨#[226, 128, 148, 32]⟩ : ByteArray) ++ x12) ++ (⟨#[32]⟩ : ByteArray)) ++ x15) ++ (⟨#[10]⟩ : ByteArray))) w14) :
C_r07_line #[.agg #[.string a0_0, .int .u32 a0_1, .slice a0_2 a0_2n a0_2c]] w Q := C_fold K_r07_line (by kernel_rfl) h
/-! ### ledger/text.Plain -/
noncomputable def B_text_Plain : Code := match Tryz.f56.body with | some c => c | _ => .skip
noncomputable def X_text_Plain : Cx := { P := PP, fn := 56, N := 37, tab := tab, results := [.tmp 2], iter := fun r => cond (Nat.beq r 11) (.one (.int .i64), .one (.int .i32)) ((.none, .none)), dyn := fun _ => false, live := fun r => cond (Nat.beq r 4) (some [0, 11]) (cond (Nat.beq r 10) (some [0, 4, 11]) (cond (Nat.beq r 11) (some []) (none))) }
theorem K_text_Plain : OkF X_text_Plain B_text_Plain Tryz.f56 := ⟨⟨tab_ok, mix_ok⟩, Tryz.func56, by kernel_rfl, by kernel_rfl, by kernel_rfl, by kernel_rfl⟩
noncomputable def N_text_Plain.j4 (Q : Value → World → Prop) (s0 : ByteArray) (s11 : Addr) (w : World) : Prop := Nd X_text_Plain Q [(0, 0, .string s0), (11, 11, .pointer (some s11))] [.code (B_text_Plain.r.r.l.r.l.l.l), .code (B_text_Plain.r.r.l.r.l.l.r), .inLoop (B_text_Plain.r.r.l.r.l.l), .inBlock 0, .code (B_text_Plain.r.r.r)] w
noncomputable def N_text_Plain.j10 (Q : Value → World → Prop) (s0 : ByteArray) (s4 : Int) (s11 : Addr) (w : World) : Prop := Nd X_text_Plain Q [(0, 0, .string s0), (4, 4, .int .i32 s4), (11, 11, .pointer (some s11))] [.code (B_text_Plain.r.r.l.r.l.l.r.r.l.r.r.l), .code (B_text_Plain.r.r.l.r.l.l.r.r.l.r.r.r), .inBlock 1, .inLoop (B_text_Plain.r.r.l.r.l.l), .inBlock 0, .code (B_text_Plain.r.r.r)] w
noncomputable def N_text_Plain.j11 (Q : Value → World → Prop) (w : World) : Prop := Nd X_text_Plain Q [] [.code (B_text_Plain.r.r.l.r.l.l.r.r.l.r.r.r.l.l), .code (B_text_Plain.r.r.l.r.l.l.r.r.l.r.r.r.l.r), .inBlock 1, .inLoop (B_text_Plain.r.r.l.r.l.l), .inBlock 0, .code (B_text_Plain.r.r.r)] w
theorem N_text_Plain.j4_eq (Q : Value → World → Prop) (s0 : ByteArray) (s11 : Addr) (w : World) (h :
  sem PP (Instr.next (.pointer (some s11)) true 0) w fun v1 w2 =>
  opnN v1
  (Q (.int .i64 0) w2)
  fun k3 x4 =>
  opnI .i64 (some k3) fun x5 =>
  opnI .i32 (some x4) fun x6 =>
  cond (x6 == 65533)
  ((0 : Int) ≤ x5 ∧
  x5 ≤ ((s0.size : Nat) : Int) ∧
  C_unicode_utf8_DecodeRuneInString #[.string (s0.extract (Int.toNat x5) s0.size)] w2 fun v7 w8 =>
  opnT (some v7) fun x9 =>
  x9.size = 2 ∧
  opnI .i32 (x9[0]?) fun x10 =>
  opnI .i64 (x9[1]?) fun x11 =>
  cond (x11 == 1)
  (Q (.int .i64 65) w8)
  (N_text_Plain.j10 Q s0 x6 s11 w8))
  (N_text_Plain.j10 Q s0 x6 s11 w2)) :
N_text_Plain.j4 Q s0 s11 w := Nd_fold K_text_Plain (by kernel_rfl) h
theorem N_text_Plain.j10_eq (Q : Value → World → Prop) (s0 : ByteArray) (s4 : Int) (s11 : Addr) (w : World) (h :
  cond (decide (s4 < 32))
  (cond (s4 != 10)
  (N_text_Plain.j11 Q w)
  (cond (s4 == 127)
  (N_text_Plain.j11 Q w)
  (N_text_Plain.j4 Q s0 s11 w)))
  (cond (s4 == 127)
  (N_text_Plain.j11 Q w)
  (N_text_Plain.j4 Q s0 s11 w))) :
N_text_Plain.j10 Q s0 s4 s11 w := Nd_fold K_text_Plain (by kernel_rfl) h
theorem N_text_Plain.j11_eq (Q : Value → World → Prop) (w : World) (h :
  Q (.int .i64 65) w) :
N_text_Plain.j11 Q w := Nd_fold K_text_Plain (by kernel_rfl) h
theorem C_text_Plain_eq (Q : Value → World → Prop) (a0 : ByteArray) (w : World) (h :
  cond (decide (((a0.size : Nat) : Int) > 1048576))
  (Q (.int .i64 2) w)
  (sem PP (Instr.range 9 (.string a0)) w fun v1 w2 =>
  opnP (some v1) fun x3 =>
  opnA x3 fun ad4 =>
  N_text_Plain.j4 Q a0 ad4 w2)) :
C_text_Plain #[.string a0] w Q := C_fold K_text_Plain (by kernel_rfl) h
/-! ### ledger/note.CheckName -/
noncomputable def B_note_CheckName : Code := match Tryz.f58.body with | some c => c | _ => .skip
noncomputable def X_note_CheckName : Cx := { P := PP, fn := 58, N := 28, tab := tab, results := [.tmp 2], iter := fun r => cond (Nat.beq r 22) (.one (.int .i64), .one (.int .i32)) ((.none, .none)), dyn := fun _ => false, live := fun r => cond (Nat.beq r 2) (some []) (cond (Nat.beq r 4) (some [22]) (none)) }
theorem K_note_CheckName : OkF X_note_CheckName B_note_CheckName Tryz.f58 := ⟨⟨tab_ok, mix_ok⟩, Tryz.func58, by kernel_rfl, by kernel_rfl, by kernel_rfl, by kernel_rfl⟩
noncomputable def N_note_CheckName.j2 (Q : Value → World → Prop) (w : World) : Prop := Nd X_note_CheckName Q [] [.code (B_note_CheckName.r.l.r.l.l), .code (B_note_CheckName.r.l.r.l.r), .code (B_note_CheckName.r.r)] w
noncomputable def N_note_CheckName.j4 (Q : Value → World → Prop) (s22 : Addr) (w : World) : Prop := Nd X_note_CheckName Q [(22, 22, .pointer (some s22))] [.code (B_note_CheckName.r.r.l.r.l.l.l), .code (B_note_CheckName.r.r.l.r.l.l.r), .inLoop (B_note_CheckName.r.r.l.r.l.l), .inBlock 0, .code (B_note_CheckName.r.r.r)] w
theorem N_note_CheckName.j2_eq (Q : Value → World → Prop) (w : World) (h :
  Q (.int .i64 70) w) :
N_note_CheckName.j2 Q w := Nd_fold K_note_CheckName (by kernel_rfl) h
theorem N_note_CheckName.j4_eq (Q : Value → World → Prop) (s22 : Addr) (w : World) (h :
  sem PP (Instr.next (.pointer (some s22)) true 0) w fun v1 w2 =>
  opnN v1
  (Q (.int .i64 0) w2)
  fun k3 x4 =>
  opnI .i64 (some k3) fun x5 =>
  opnI .i32 (some x4) fun x6 =>
  C_unicode_IsSpace #[.int .i32 x6] w2 fun v7 w8 =>
  opnB (some v7) fun x9 =>
  cond x9
  (Q (.int .i64 70) w8)
  (N_note_CheckName.j4 Q s22 w8)) :
N_note_CheckName.j4 Q s22 w := Nd_fold K_note_CheckName (by kernel_rfl) h
theorem C_note_CheckName_eq (Q : Value → World → Prop) (a0 : ByteArray) (w : World) (h :
  cond (a0.toList == (⟨#[]⟩ : ByteArray).toList)
  (N_note_CheckName.j2 Q w)
  (cond (decide (((a0.size : Nat) : Int) > 100))
  (N_note_CheckName.j2 Q w)
  (C_text_Plain #[.string a0] w fun v1 w2 =>
  opnI .i64 (some v1) fun x3 =>
  cond (x3 != 0)
  (N_note_CheckName.j2 Q w2)
  (C_strings_Contains #[.string a0, .string (⟨#[43]⟩ : ByteArray)] w2 fun v4 w5 =>
  opnB (some v4) fun x6 =>
  cond x6
  (N_note_CheckName.j2 Q w5)
  (sem PP (Instr.range 9 (.string a0)) w5 fun v7 w8 =>
  opnP (some v7) fun x9 =>
  opnA x9 fun ad10 =>
  N_note_CheckName.j4 Q ad10 w8))))) :
C_note_CheckName #[.string a0] w Q := C_fold K_note_CheckName (by kernel_rfl) h
/-! ### ledger/ledgerref06.Plain -/
noncomputable def B_r06_Plain : Code := match Tryz.f69.body with | some c => c | _ => .skip
noncomputable def X_r06_Plain : Cx := { P := PP, fn := 69, N := 39, tab := tab, results := [.tmp 2], iter := fun _ => (.none, .none), dyn := fun _ => false, live := fun r => cond (Nat.beq r 4) (some [0, 3]) (cond (Nat.beq r 7) (some []) (cond (Nat.beq r 8) (some [0, 3, 4]) (none))) }
theorem K_r06_Plain : OkF X_r06_Plain B_r06_Plain Tryz.f69 := ⟨⟨tab_ok, mix_ok⟩, Tryz.func69, by kernel_rfl, by kernel_rfl, by kernel_rfl, by kernel_rfl⟩
noncomputable def N_r06_Plain.j4 (Q : Value → World → Prop) (s0 : ByteArray) (s3 : Int) (w : World) : Prop := Nd X_r06_Plain Q [(0, 0, .string s0), (3, 3, .int .i64 s3)] [.code (B_r06_Plain.r.r.r.l.l.l.l.l), .code (B_r06_Plain.r.r.r.l.l.l.l.r), .code (B_r06_Plain.r.r.r.l.l.l.r), .inLoop (B_r06_Plain.r.r.r.l.l.l), .inBlock 0, .code (B_r06_Plain.r.r.r.r)] w
noncomputable def N_r06_Plain.j7 (Q : Value → World → Prop) (w : World) : Prop := Nd X_r06_Plain Q [] [.code (B_r06_Plain.r.r.r.l.l.l.r.l.r.l.r.l.l), .code (B_r06_Plain.r.r.r.l.l.l.r.l.r.l.r.l.r), .code (B_r06_Plain.r.r.r.l.l.l.r.l.r.r), .inBlock 1, .inLoop (B_r06_Plain.r.r.r.l.l.l), .inBlock 0, .code (B_r06_Plain.r.r.r.r)] w
noncomputable def N_r06_Plain.j8 (Q : Value → World → Prop) (s0 : ByteArray) (s3 : Int) (s4 : Int) (w : World) : Prop := Nd X_r06_Plain Q [(0, 0, .string s0), (3, 3, .int .i64 s3), (4, 4, .int .i64 s4)] [.code (B_r06_Plain.r.r.r.l.l.l.r.l.r.r), .inBlock 1, .inLoop (B_r06_Plain.r.r.r.l.l.l), .inBlock 0, .code (B_r06_Plain.r.r.r.r)] w
theorem N_r06_Plain.j4_eq (Q : Value → World → Prop) (s0 : ByteArray) (s3 : Int) (w : World) (h :
  cond (decide (s3 < ((s0.size : Nat) : Int)))
  ((0 : Int) ≤ s3 ∧
  s3 ≤ ((s0.size : Nat) : Int) ∧
  C_r06_letter #[.string (s0.extract (Int.toNat s3) s0.size)] w fun v1 w2 =>
  opnI .i64 (some v1) fun x3 =>
  cond (x3 == 0)
  (N_r06_Plain.j7 Q w2)
  ((0 : Int) ≤ s3 ∧
  s3 < ((s0.size : Nat) : Int) ∧
  cond ((bt s0 (Int.toNat s3)) == 127)
  (N_r06_Plain.j7 Q w2)
  ((0 : Int) ≤ s3 ∧
  s3 < ((s0.size : Nat) : Int) ∧
  cond (decide ((bt s0 (Int.toNat s3)) < 32))
  ((0 : Int) ≤ s3 ∧
  s3 < ((s0.size : Nat) : Int) ∧
  cond ((bt s0 (Int.toNat s3)) != 10)
  (N_r06_Plain.j7 Q w2)
  (N_r06_Plain.j8 Q s0 s3 x3 w2))
  (N_r06_Plain.j8 Q s0 s3 x3 w2))))
  (Q (.int .i64 0) w)) :
N_r06_Plain.j4 Q s0 s3 w := Nd_fold K_r06_Plain (by kernel_rfl) h
theorem N_r06_Plain.j7_eq (Q : Value → World → Prop) (w : World) (h :
  Q (.int .i64 65) w) :
N_r06_Plain.j7 Q w := Nd_fold K_r06_Plain (by kernel_rfl) h
theorem N_r06_Plain.j8_eq (Q : Value → World → Prop) (s0 : ByteArray) (s3 : Int) (s4 : Int) (w : World) (h :
  N_r06_Plain.j4 Q s0 (IntKind.wrap .i64 (s3 + s4)) w) :
N_r06_Plain.j8 Q s0 s3 s4 w := Nd_fold K_r06_Plain (by kernel_rfl) h
theorem C_r06_Plain_eq (Q : Value → World → Prop) (a0 : ByteArray) (w : World) (h :
  cond (decide (((a0.size : Nat) : Int) > 1048576))
  (Q (.int .i64 2) w)
  (N_r06_Plain.j4 Q a0 0 w)) :
C_r06_Plain #[.string a0] w Q := C_fold K_r06_Plain (by kernel_rfl) h
/-! ### ledger/ledgerref07.holds -/
noncomputable def B_r07_holds : Code := match Tryz.f70.body with | some c => c | _ => .skip
noncomputable def X_r07_holds : Cx := { P := PP, fn := 70, N := 24, tab := tab, results := [.tmp 4], iter := fun _ => (.none, .none), dyn := fun _ => false, live := fun r => cond (Nat.beq r 2) (some [0, 1, 5]) (none) }
theorem K_r07_holds : OkF X_r07_holds B_r07_holds Tryz.f70 := ⟨⟨tab_ok, mix_ok⟩, Tryz.func70, by kernel_rfl, by kernel_rfl, by kernel_rfl, by kernel_rfl⟩
noncomputable def N_r07_holds.j2 (Q : Value → World → Prop) (s0 : ByteArray) (s1 : ByteArray) (s5 : Int) (w : World) : Prop := Nd X_r07_holds Q [(0, 0, .string s0), (1, 1, .string s1), (5, 5, .int .i64 s5)] [.code (B_r07_holds.r.l.r.l.l.l.l), .code (B_r07_holds.r.l.r.l.l.l.r), .code (B_r07_holds.r.l.r.l.l.r), .inLoop (B_r07_holds.r.l.r.l.l), .inBlock 0, .code (B_r07_holds.r.r)] w
theorem N_r07_holds.j2_eq (Q : Value → World → Prop) (s0 : ByteArray) (s1 : ByteArray) (s5 : Int) (w : World) (h :
  cond (decide ((IntKind.wrap .i64 (s5 + ((s1.size : Nat) : Int))) ≤ ((s0.size : Nat) : Int)))
  ((0 : Int) ≤ (IntKind.wrap .i64 (s5 + ((s1.size : Nat) : Int))) ∧
  (IntKind.wrap .i64 (s5 + ((s1.size : Nat) : Int))) ≤ ((s0.size : Nat) : Int) ∧
  (0 : Int) ≤ s5 ∧
  s5 ≤ (IntKind.wrap .i64 (s5 + ((s1.size : Nat) : Int))) ∧
  cond ((s0.extract (Int.toNat s5) (Int.toNat (IntKind.wrap .i64 (s5 + ((s1.size : Nat) : Int))))).toList == s1.toList)
  (Q (.bool true) w)
  (N_r07_holds.j2 Q s0 s1 (IntKind.wrap .i64 (s5 + 1)) w))
  (Q (.bool false) w)) :
N_r07_holds.j2 Q s0 s1 s5 w := Nd_fold K_r07_holds (by kernel_rfl) h
theorem C_r07_holds_eq (Q : Value → World → Prop) (a0 : ByteArray) (a1 : ByteArray) (w : World) (h :
  N_r07_holds.j2 Q a0 a1 0 w) :
C_r07_holds #[.string a0, .string a1] w Q := C_fold K_r07_holds (by kernel_rfl) h
/-! ### ledger/ledgerref07.four -/
noncomputable def B_r07_four : Code := match Tryz.f71.body with | some c => c | _ => .skip
noncomputable def X_r07_four : Cx := { P := PP, fn := 71, N := 15, tab := tab, results := [.tmp 2], iter := fun _ => (.none, .none), dyn := fun _ => false, live := fun _ => none }
theorem K_r07_four : OkF X_r07_four B_r07_four Tryz.f71 := ⟨⟨tab_ok, mix_ok⟩, Tryz.func71, by kernel_rfl, by kernel_rfl, by kernel_rfl, by kernel_rfl⟩
theorem C_r07_four_eq (Q : Value → World → Prop) (a0 : Int) (w : World) (h :
  alC #[.int .u8 (IntKind.wrap .u8 (shrI .u32 a0 24)), .int .u8 (IntKind.wrap .u8 (shrI .u32 a0 16)), .int .u8 (IntKind.wrap .u8 (shrI .u32 a0 8)), .int .u8 (IntKind.wrap .u8 a0)] 5 w fun p1 w2 =>
  Q (.slice (some p1) 4 4) w2) :
C_r07_four #[.int .u32 a0] w Q := C_fold K_r07_four (by kernel_rfl) h
/-! ### ledger/ledgerref06.letter -/
noncomputable def B_r06_letter : Code := match Tryz.f94.body with | some c => c | _ => .skip
noncomputable def X_r06_letter : Cx := { P := PP, fn := 94, N := 81, tab := tab, results := [.tmp 2], iter := fun _ => (.none, .none), dyn := fun _ => false, live := fun r => cond (Nat.beq r 5) (some []) (cond (Nat.beq r 12) (some [0, 3]) (cond (Nat.beq r 13) (some [0, 3]) (cond (Nat.beq r 14) (some [0, 3, 4]) (cond (Nat.beq r 15) (some [0, 4, 5]) (cond (Nat.beq r 16) (some [0, 3]) (cond (Nat.beq r 17) (some [0, 3]) (cond (Nat.beq r 18) (some [0, 3, 4]) (cond (Nat.beq r 19) (some [0, 4, 5]) (cond (Nat.beq r 20) (some [0, 4, 5, 6]) (cond (Nat.beq r 21) (some []) (cond (Nat.beq r 22) (some [0, 4, 5, 6]) (cond (Nat.beq r 23) (some [0, 4, 5, 6, 7]) (cond (Nat.beq r 29) (some []) (cond (Nat.beq r 30) (some [4]) (none))))))))))))))) }
theorem K_r06_letter : OkF X_r06_letter B_r06_letter Tryz.f94 := ⟨⟨tab_ok, mix_ok⟩, Tryz.func94, by kernel_rfl, by kernel_rfl, by kernel_rfl, by kernel_rfl⟩
noncomputable def N_r06_letter.j5 (Q : Value → World → Prop) (w : World) : Prop := Nd X_r06_letter Q [] [.code (B_r06_letter.r.r.r.r.r.l.l.r.r.r.r.r.r.r.r.l), .code (B_r06_letter.r.r.r.r.r.l.l.r.r.r.r.r.r.r.r.r), .inBlock 0, .code (B_r06_letter.r.r.r.r.r.r)] w
noncomputable def N_r06_letter.j12 (Q : Value → World → Prop) (s0 : ByteArray) (s3 : Int) (w : World) : Prop := Nd X_r06_letter Q [(0, 0, .string s0), (3, 3, .int .i64 s3)] [.code (B_r06_letter.r.r.r.r.r.l.l.r.r.r.r.l), .code (B_r06_letter.r.r.r.r.r.l.l.r.r.r.r.r), .inBlock 0, .code (B_r06_letter.r.r.r.r.r.r)] w
noncomputable def N_r06_letter.j13 (Q : Value → World → Prop) (s0 : ByteArray) (s3 : Int) (w : World) : Prop := Nd X_r06_letter Q [(0, 0, .string s0), (3, 3, .int .i64 s3)] [.code (B_r06_letter.r.r.r.r.r.l.l.r.r.r.r.r.l.l), .code (B_r06_letter.r.r.r.r.r.l.l.r.r.r.r.r.l.r), .inBlock 0, .code (B_r06_letter.r.r.r.r.r.r)] w
noncomputable def N_r06_letter.j14 (Q : Value → World → Prop) (s0 : ByteArray) (s3 : Int) (s4 : Int) (w : World) : Prop := Nd X_r06_letter Q [(0, 0, .string s0), (3, 3, .int .i64 s3), (4, 4, .int .i64 s4)] [.code (B_r06_letter.r.r.r.r.r.l.l.r.r.r.r.r.l.r.l), .code (B_r06_letter.r.r.r.r.r.l.l.r.r.r.r.r.l.r.r), .inBlock 0, .code (B_r06_letter.r.r.r.r.r.r)] w
noncomputable def N_r06_letter.j15 (Q : Value → World → Prop) (s0 : ByteArray) (s4 : Int) (s5 : Int) (w : World) : Prop := Nd X_r06_letter Q [(0, 0, .string s0), (4, 4, .int .i64 s4), (5, 5, .int .i64 s5)] [.code (B_r06_letter.r.r.r.r.r.l.l.r.r.r.r.r.l.r.r), .inBlock 0, .code (B_r06_letter.r.r.r.r.r.r)] w
noncomputable def N_r06_letter.j16 (Q : Value → World → Prop) (s0 : ByteArray) (s3 : Int) (w : World) : Prop := Nd X_r06_letter Q [(0, 0, .string s0), (3, 3, .int .i64 s3)] [.code (B_r06_letter.r.r.r.r.r.l.l.r.r.r.r.r.r.l), .code (B_r06_letter.r.r.r.r.r.l.l.r.r.r.r.r.r.r), .inBlock 0, .code (B_r06_letter.r.r.r.r.r.r)] w
noncomputable def N_r06_letter.j17 (Q : Value → World → Prop) (s0 : ByteArray) (s3 : Int) (w : World) : Prop := Nd X_r06_letter Q [(0, 0, .string s0), (3, 3, .int .i64 s3)] [.code (B_r06_letter.r.r.r.r.r.l.l.r.r.r.r.r.r.r.l.l), .code (B_r06_letter.r.r.r.r.r.l.l.r.r.r.r.r.r.r.l.r), .inBlock 0, .code (B_r06_letter.r.r.r.r.r.r)] w
noncomputable def N_r06_letter.j18 (Q : Value → World → Prop) (s0 : ByteArray) (s3 : Int) (s4 : Int) (w : World) : Prop := Nd X_r06_letter Q [(0, 0, .string s0), (3, 3, .int .i64 s3), (4, 4, .int .i64 s4)] [.code (B_r06_letter.r.r.r.r.r.l.l.r.r.r.r.r.r.r.l.r.l), .code (B_r06_letter.r.r.r.r.r.l.l.r.r.r.r.r.r.r.l.r.r), .inBlock 0, .code (B_r06_letter.r.r.r.r.r.r)] w
noncomputable def N_r06_letter.j19 (Q : Value → World → Prop) (s0 : ByteArray) (s4 : Int) (s5 : Int) (w : World) : Prop := Nd X_r06_letter Q [(0, 0, .string s0), (4, 4, .int .i64 s4), (5, 5, .int .i64 s5)] [.code (B_r06_letter.r.r.r.r.r.l.l.r.r.r.r.r.r.r.l.r.r), .inBlock 0, .code (B_r06_letter.r.r.r.r.r.r)] w
noncomputable def N_r06_letter.j20 (Q : Value → World → Prop) (s0 : ByteArray) (s4 : Int) (s5 : Int) (s6 : Int) (w : World) : Prop := Nd X_r06_letter Q [(0, 0, .string s0), (4, 4, .int .i64 s4), (5, 5, .int .i64 s5), (6, 6, .int .i64 s6)] [.code (B_r06_letter.r.r.r.r.r.r.l.l), .code (B_r06_letter.r.r.r.r.r.r.l.r), .code (B_r06_letter.r.r.r.r.r.r.r)] w
noncomputable def N_r06_letter.j21 (Q : Value → World → Prop) (w : World) : Prop := Nd X_r06_letter Q [] [.code (B_r06_letter.r.r.r.r.r.r.l.r.l.l), .code (B_r06_letter.r.r.r.r.r.r.l.r.l.r), .code (B_r06_letter.r.r.r.r.r.r.r)] w
noncomputable def N_r06_letter.j22 (Q : Value → World → Prop) (s0 : ByteArray) (s4 : Int) (s5 : Int) (s6 : Int) (w : World) : Prop := Nd X_r06_letter Q [(0, 0, .string s0), (4, 4, .int .i64 s4), (5, 5, .int .i64 s5), (6, 6, .int .i64 s6)] [.code (B_r06_letter.r.r.r.r.r.r.r.l.l), .code (B_r06_letter.r.r.r.r.r.r.r.l.r), .code (B_r06_letter.r.r.r.r.r.r.r.r)] w
noncomputable def N_r06_letter.j23 (Q : Value → World → Prop) (s0 : ByteArray) (s4 : Int) (s5 : Int) (s6 : Int) (s7 : Int) (w : World) : Prop := Nd X_r06_letter Q [(0, 0, .string s0), (4, 4, .int .i64 s4), (5, 5, .int .i64 s5), (6, 6, .int .i64 s6), (7, 7, .int .i64 s7)] [.code (B_r06_letter.r.r.r.r.r.r.r.l.r.l.l.l.l), .code (B_r06_letter.r.r.r.r.r.r.r.l.r.l.l.l.r), .code (B_r06_letter.r.r.r.r.r.r.r.l.r.l.l.r), .inLoop (B_r06_letter.r.r.r.r.r.r.r.l.r.l.l), .inBlock 1, .code (B_r06_letter.r.r.r.r.r.r.r.r)] w
noncomputable def N_r06_letter.j29 (Q : Value → World → Prop) (w : World) : Prop := Nd X_r06_letter Q [] [.code (B_r06_letter.r.r.r.r.r.r.r.r.l.r.l.l), .code (B_r06_letter.r.r.r.r.r.r.r.r.l.r.l.r), .code (B_r06_letter.r.r.r.r.r.r.r.r.r)] w
noncomputable def N_r06_letter.j30 (Q : Value → World → Prop) (s4 : Int) (w : World) : Prop := Nd X_r06_letter Q [(4, 4, .int .i64 s4)] [.code (B_r06_letter.r.r.r.r.r.r.r.r.r.l), .code (B_r06_letter.r.r.r.r.r.r.r.r.r.r)] w
theorem N_r06_letter.j5_eq (Q : Value → World → Prop) (w : World) (h :
  Q (.int .i64 0) w) :
N_r06_letter.j5 Q w := Nd_fold K_r06_letter (by kernel_rfl) h
theorem N_r06_letter.j12_eq (Q : Value → World → Prop) (s0 : ByteArray) (s3 : Int) (w : World) (h :
  cond (decide (s3 ≥ 224))
  (cond (decide (s3 < 240))
  (N_r06_letter.j13 Q s0 s3 w)
  (N_r06_letter.j16 Q s0 s3 w))
  (N_r06_letter.j16 Q s0 s3 w)) :
N_r06_letter.j12 Q s0 s3 w := Nd_fold K_r06_letter (by kernel_rfl) h
theorem N_r06_letter.j13_eq (Q : Value → World → Prop) (s0 : ByteArray) (s3 : Int) (w : World) (h :
  N_r06_letter.j14 Q s0 s3 2 w) :
N_r06_letter.j13 Q s0 s3 w := Nd_fold K_r06_letter (by kernel_rfl) h
theorem N_r06_letter.j14_eq (Q : Value → World → Prop) (s0 : ByteArray) (s3 : Int) (s4 : Int) (w : World) (h :
  16 ≠ (0 : Int) ∧
  N_r06_letter.j15 Q s0 s4 (Int.tmod s3 16) w) :
N_r06_letter.j14 Q s0 s3 s4 w := Nd_fold K_r06_letter (by kernel_rfl) h
theorem N_r06_letter.j15_eq (Q : Value → World → Prop) (s0 : ByteArray) (s4 : Int) (s5 : Int) (w : World) (h :
  N_r06_letter.j20 Q s0 s4 s5 2048 w) :
N_r06_letter.j15 Q s0 s4 s5 w := Nd_fold K_r06_letter (by kernel_rfl) h
theorem N_r06_letter.j16_eq (Q : Value → World → Prop) (s0 : ByteArray) (s3 : Int) (w : World) (h :
  cond (decide (s3 ≥ 240))
  (cond (decide (s3 < 248))
  (N_r06_letter.j17 Q s0 s3 w)
  (N_r06_letter.j5 Q w))
  (N_r06_letter.j5 Q w)) :
N_r06_letter.j16 Q s0 s3 w := Nd_fold K_r06_letter (by kernel_rfl) h
theorem N_r06_letter.j17_eq (Q : Value → World → Prop) (s0 : ByteArray) (s3 : Int) (w : World) (h :
  N_r06_letter.j18 Q s0 s3 3 w) :
N_r06_letter.j17 Q s0 s3 w := Nd_fold K_r06_letter (by kernel_rfl) h
theorem N_r06_letter.j18_eq (Q : Value → World → Prop) (s0 : ByteArray) (s3 : Int) (s4 : Int) (w : World) (h :
  8 ≠ (0 : Int) ∧
  N_r06_letter.j19 Q s0 s4 (Int.tmod s3 8) w) :
N_r06_letter.j18 Q s0 s3 s4 w := Nd_fold K_r06_letter (by kernel_rfl) h
theorem N_r06_letter.j19_eq (Q : Value → World → Prop) (s0 : ByteArray) (s4 : Int) (s5 : Int) (w : World) (h :
  N_r06_letter.j20 Q s0 s4 s5 65536 w) :
N_r06_letter.j19 Q s0 s4 s5 w := Nd_fold K_r06_letter (by kernel_rfl) h
theorem N_r06_letter.j20_eq (Q : Value → World → Prop) (s0 : ByteArray) (s4 : Int) (s5 : Int) (s6 : Int) (w : World) (h :
  cond (decide (((s0.size : Nat) : Int) ≤ s4))
  (N_r06_letter.j21 Q w)
  (N_r06_letter.j22 Q s0 s4 s5 s6 w)) :
N_r06_letter.j20 Q s0 s4 s5 s6 w := Nd_fold K_r06_letter (by kernel_rfl) h
theorem N_r06_letter.j21_eq (Q : Value → World → Prop) (w : World) (h :
  Q (.int .i64 0) w) :
N_r06_letter.j21 Q w := Nd_fold K_r06_letter (by kernel_rfl) h
theorem N_r06_letter.j22_eq (Q : Value → World → Prop) (s0 : ByteArray) (s4 : Int) (s5 : Int) (s6 : Int) (w : World) (h :
  N_r06_letter.j23 Q s0 s4 s5 s6 1 w) :
N_r06_letter.j22 Q s0 s4 s5 s6 w := Nd_fold K_r06_letter (by kernel_rfl) h
theorem N_r06_letter.j23_eq (Q : Value → World → Prop) (s0 : ByteArray) (s4 : Int) (s5 : Int) (s6 : Int) (s7 : Int) (w : World) (h :
  cond (decide (s7 ≤ s4))
  ((0 : Int) ≤ s7 ∧
  s7 < ((s0.size : Nat) : Int) ∧
  64 ≠ (0 : Int) ∧
  cond ((IntKind.wrap .u8 (Int.tdiv (bt s0 (Int.toNat s7)) 64)) != 2)
  (Q (.int .i64 0) w)
  ((0 : Int) ≤ s7 ∧
  s7 < ((s0.size : Nat) : Int) ∧
  64 ≠ (0 : Int) ∧
  N_r06_letter.j23 Q s0 s4 (IntKind.wrap .i64 ((IntKind.wrap .i64 (64 * s5)) + (IntKind.wrap .i64 (Int.tmod (bt s0 (Int.toNat s7)) 64)))) s6 (IntKind.wrap .i64 (s7 + 1)) w))
  (cond (decide (s5 < s6))
  (N_r06_letter.j29 Q w)
  (cond (decide (s5 > 1114111))
  (N_r06_letter.j29 Q w)
  (cond (decide (s5 ≥ 55296))
  (cond (decide (s5 ≤ 57343))
  (N_r06_letter.j29 Q w)
  (N_r06_letter.j30 Q s4 w))
  (N_r06_letter.j30 Q s4 w))))) :
N_r06_letter.j23 Q s0 s4 s5 s6 s7 w := Nd_fold K_r06_letter (by kernel_rfl) h
theorem N_r06_letter.j29_eq (Q : Value → World → Prop) (w : World) (h :
  Q (.int .i64 0) w) :
N_r06_letter.j29 Q w := Nd_fold K_r06_letter (by kernel_rfl) h
theorem N_r06_letter.j30_eq (Q : Value → World → Prop) (s4 : Int) (w : World) (h :
  Q (.int .i64 (IntKind.wrap .i64 (s4 + 1))) w) :
N_r06_letter.j30 Q s4 w := Nd_fold K_r06_letter (by kernel_rfl) h
theorem C_r06_letter_eq (Q : Value → World → Prop) (a0 : ByteArray) (w : World) (h :
  (0 : Int) ≤ 0 ∧
  0 < ((a0.size : Nat) : Int) ∧
  cond (decide ((IntKind.wrap .i64 (bt a0 (Int.toNat 0))) < 128))
  (Q (.int .i64 1) w)
  (cond (decide ((IntKind.wrap .i64 (bt a0 (Int.toNat 0))) ≥ 192))
  (cond (decide ((IntKind.wrap .i64 (bt a0 (Int.toNat 0))) < 224))
  (32 ≠ (0 : Int) ∧
  N_r06_letter.j20 Q a0 1 (Int.tmod (IntKind.wrap .i64 (bt a0 (Int.toNat 0))) 32) 128 w)
  (N_r06_letter.j12 Q a0 (IntKind.wrap .i64 (bt a0 (Int.toNat 0))) w))
  (N_r06_letter.j12 Q a0 (IntKind.wrap .i64 (bt a0 (Int.toNat 0))) w))) :
C_r06_letter #[.string a0] w Q := C_fold K_r06_letter (by kernel_rfl) h
end Go.Proofs.YtedioondfbnfjaaGreatDoor
/-! ## NameWalk -/
set_option maxRecDepth 10000
namespace Go.Proofs.YtedioondfbnfjaaGreatDoor
open Go.Sh Go.RowKit
theorem chg_below {w w' : World} (h : Below w.heap.size w w') : Chg None w w' := ⟨h.os, h.tape, h.output, h.size, fun k hk _ => h.block k hk⟩
theorem below_chg {w w' : World} (h : Chg None w w') : Below w.heap.size w w' := ⟨h.os, h.tape, h.output, h.size, fun k hk => h.block k hk id⟩
theorem cell_chg {w w' : World} {a : Addr} {v : Value} (h : w.cell? a = some v) (k : Chg None w w') : w'.cell? a = some v := by
  rw [World.cell?_of_block (w := w) (k.block _ (World.block_lt_of_cell? _ _ h) id)]; exact h
/-- what names ask of the package variables -/
structure Nst (w : World) : Prop where
  tabs : Lib.Utf8Tabs 6 7 w
  white : Lib.WhiteTab 2 w
theorem Nst.chg {w w' : World} (h : Nst w) (k : Chg None w w') : Nst w' := ⟨Utf8Tabs_below h.tabs (below_chg k), WhiteTab_below h.white (below_chg k)⟩
/-- the document's blanks -/
def Blanks (w : World) : Prop := ∀ i l, blanks[i]? = some l → w.cell? ⟨0, i, none⟩ = some (.string (sb l))
theorem Blanks.chg {w w' : World} (h : Blanks w) (k : Chg None w w') : Blanks w' := fun i l e => cell_chg (h i l e) k

section
variable {Q : Value → World → Prop} {w w0 : World}
theorem num_word {n : Int} (h : Q (.int .i64 n) w) : C_l21_num #[.int .i64 n] w Q := C_l21_num_eq _ _ _ h
theorem contains_word {l : List UInt8} {c : UInt8} (hQ : Q (.bool (l.contains c)) w) : C_strings_Contains #[.string (sb l), .string (sb [c])] w Q := by
  refine C_calls Tryz.func77 (by rfl) (by decide) ((strings_Contains_one (sb l) c w).mono ?_)
  rintro e w' ⟨rfl, rfl⟩
  rw [sb_list, ← Lib.contains_iff_indexByte]
  exact hQ
theorem space_word {r : Nat} (hr : r ≤ 1114111) (st : Nst w) (hQ : ∀ w', Chg None w w' → Q (.bool (Lib.isSpaceR r)) w') : C_unicode_IsSpace #[.int .i32 (r : Int)] w Q := by
  refine C_calls Tryz.func78 (by rfl) (by decide) ((unicode_IsSpace_any (r : Int) w (by omega) (by omega) st.white).mono ?_)
  rintro e w' ⟨rfl, hb⟩
  rw [Lib.isSpaceZ_nat]
  exact hQ _ (chg_below hb)
theorem decode_word {l : List UInt8} (hl : l ≠ []) (st : Nst w) (hQ : ∀ w', Chg None w w' → Q (.tuple #[.int .i32 ((decN l).1 : Int), .int .i64 ((decN l).2 : Int)]) w') : C_unicode_utf8_DecodeRuneInString #[.string (sb l)] w Q := by
  refine C_calls Tryz.func75 (by rfl) (by decide) ((utf8_DecodeRuneInString (sb l) w st.tabs).mono ?_)
  rintro e w' ⟨rfl, hb⟩
  have e : Lib.decodeGo (sb l) = decN l := by
    unfold Lib.decodeGo
    rw [if_neg (by rw [sb_size]; exact fun h => hl (List.eq_nil_of_length_eq_zero h))]
    exact decode_drop l 0
  rw [e]
  exact hQ _ (chg_below hb)
theorem decN_lim (l : List UInt8) : (decN l).1 ≤ 1114111 := by
  have hb := nb_lt l 0
  by_cases g : (decN l).1 = 0xFFFD ∧ (decN l).2 = 1
  · omega
  · unfold decN
    repeat' split
    all_goals simp only
    all_goals first | omega | skip
    · rename_i h
      rw [Bool.and_eq_true, valid_iff] at h
      exact h.2.1

/-! ### the program's Plain -/
theorem pl_loop {l : List UInt8} (hl : l.length ≤ 1048576) (st : Nst w0) (hQ : ∀ w', Chg None w0 w' → Q (.int .i64 (if plain l = true then 0 else 65)) w') :
    ∀ (m pos : Nat) (b : Nat) (w : World), l.length - pos ≤ m → pos ≤ l.length → StrIt w l b pos → w0.heap.size ≤ b → Chg None w0 w → plain l = plain (l.drop pos) → N_text_Plain.j4 Q (sb l) ⟨b, 0, none⟩ w := by
  intro m
  induction m with
  | zero =>
    intro pos b w hm hp hit hb k hpl
    refine N_text_Plain.j4_eq (h := str_next hit (fun _ => ?_) (fun h => absurd h (by omega)))
    rw [opnN_end]
    have := hQ w k
    rw [hpl, List.drop_eq_nil_of_le (by omega), plain_nil, if_pos rfl] at this
    exact this
  | succ m ih =>
    intro pos b w hm hp hit hb k hpl
    refine N_text_Plain.j4_eq (h := str_next hit (fun hend => ?_) (fun hlt w' hit' k' => ?_))
    · rw [opnN_end]
      have := hQ w k
      rw [hpl, List.drop_eq_nil_of_le (by omega), plain_nil, if_pos rfl] at this
      exact this
    · rw [opnN_more]
      have kk : Chg None w0 w' := k.trans k' (fun _ _ h => h) (fun x hx hd => absurd hx (by rw [hd]; omega))
      have hne : l.drop pos ≠ [] := fun e => by have := congrArg List.length e; rw [List.length_drop] at this; simp at this; omega
      have hpos := decN_pos (l.drop pos)
      have hle := decN_le hne
      rw [List.length_drop] at hle
      rw [plain_cons hne, List.drop_drop] at hpl
      have hbad : goodL (l.drop pos) = false → plain l = false := fun h => by rw [hpl, h]; rfl
      have q65 : goodL (l.drop pos) = false → ∀ w2, Chg None w0 w2 → Q (.int .i64 65) w2 := fun h w2 k2 => by
        have := hQ w2 k2
        rw [hbad h, if_neg Bool.false_ne_true] at this
        exact this
      refine opnI_s (opnI_s ?_)
      have rest : ¬ ((decN (l.drop pos)).1 = 0xFFFD ∧ (decN (l.drop pos)).2 = 1) → ∀ w2, Chg None w0 w2 → StrIt w2 l b (pos + (decN (l.drop pos)).2) → N_text_Plain.j10 Q (sb l) ((decN (l.drop pos)).1 : Int) ⟨b, 0, none⟩ w2 := by
        intro hok w2 k2 hit2
        have hgood : goodL (l.drop pos) = !decide ((decN (l.drop pos)).1 < 32 ∧ (decN (l.drop pos)).1 ≠ 10 ∨ (decN (l.drop pos)).1 = 127) := by
          unfold goodL; rw [decide_eq_false hok]; rfl
        generalize hr : (decN (l.drop pos)).1 = r at *
        have next : ¬ (r < 32 ∧ r ≠ 10 ∨ r = 127) → N_text_Plain.j4 Q (sb l) ⟨b, 0, none⟩ w2 := fun h => by
          rw [decide_eq_false h] at hgood
          rw [hgood] at hpl
          exact ih _ b w2 (by omega) (by omega) hit2 hb k2 hpl
        have bad : (r < 32 ∧ r ≠ 10 ∨ r = 127) → N_text_Plain.j11 Q w2 := fun h => N_text_Plain.j11_eq (h := q65 (by rw [hgood, decide_eq_true h]; rfl) w2 k2)
        refine N_text_Plain.j10_eq (h := ?_)
        by_cases g : r < 32
        · refine c_lt (by omega) ?_
          by_cases g2 : r = 10
          · refine c_nne (by omega) (c_neq (by omega) (next (by omega)))
          · exact c_ne (by omega) (bad (by omega))
        · refine c_nlt (by omega) ?_
          by_cases g2 : r = 127
          · exact c_eq (by omega) (bad (by omega))
          · exact c_neq (by omega) (next (by omega))
      by_cases g : (decN (l.drop pos)).1 = 65533
      · refine c_eq (by omega) ⟨by omega, by rw [sb_size]; omega, ?_⟩
        rw [sb_ext, sb_size, Int.toNat_natCast, List.take_of_length_le (by rw [List.length_drop]; omega)]
        refine decode_word hne (st.chg kk) fun w2 k2 => ?_
        have kk2 := kk.none_trans k2
        refine (show opnT _ _ = _ from opnT_s).mpr ⟨rfl, opnI_s (opnI_s ?_)⟩
        by_cases g2 : (decN (l.drop pos)).2 = 1
        · refine c_eq (by omega) (q65 ?_ w2 kk2)
          unfold goodL; rw [decide_eq_true ⟨g, g2⟩]; rfl
        · exact c_neq (by omega) (rest (fun h => g2 h.2) w2 kk2 (hit'.chg k2 (fun h => h)))
      · exact c_neq (by omega) (rest (fun h => g h.1) w' kk hit')
def plainE (l : List UInt8) : Int := if l.length > 1048576 then 2 else if plain l = true then 0 else 65
theorem plain_word {l : List UInt8} (st : Nst w) (hQ : ∀ w', Chg None w w' → Q (.int .i64 (plainE l)) w') : C_text_Plain #[.string (sb l)] w Q := by
  refine C_text_Plain_eq _ _ _ ?_
  rw [sb_size]
  unfold plainE at hQ
  by_cases h : l.length > 1048576
  · rw [if_pos h] at hQ
    exact c_gt (by omega) (hQ w (Chg.refl _ _))
  · rw [if_neg h] at hQ
    refine c_ngt (by omega) (str_range Tryz.underlying9 fun b w' hit k hb => ?_)
    exact pl_loop (by omega) st hQ _ 0 b w' (Nat.le_refl _) (Nat.zero_le _) hit hb k rfl

/-! ### the program's CheckName -/
def nameE (l : List UInt8) : Int := if l.length = 0 ∨ l.length > 100 ∨ plain l = false ∨ l.contains 43 = true ∨ spaced l = true then 70 else 0
theorem nm_loop {l : List UInt8} (st : Nst w0) (hQ : ∀ w', Chg None w0 w' → Q (.int .i64 (if spaced l = true then 70 else 0)) w') :
    ∀ (m pos : Nat) (b : Nat) (w : World), l.length - pos ≤ m → pos ≤ l.length → StrIt w l b pos → w0.heap.size ≤ b → Chg None w0 w → spaced l = spaced (l.drop pos) → N_note_CheckName.j4 Q ⟨b, 0, none⟩ w := by
  intro m
  induction m with
  | zero =>
    intro pos b w hm hp hit hb k hpl
    refine N_note_CheckName.j4_eq (h := str_next hit (fun _ => ?_) (fun h => absurd h (by omega)))
    rw [opnN_end]
    have := hQ w k
    rw [hpl, List.drop_eq_nil_of_le (by omega)] at this
    exact this
  | succ m ih =>
    intro pos b w hm hp hit hb k hpl
    refine N_note_CheckName.j4_eq (h := str_next hit (fun hend => ?_) (fun hlt w' hit' k' => ?_))
    · rw [opnN_end]
      have := hQ w k
      rw [hpl, List.drop_eq_nil_of_le (by omega)] at this
      exact this
    · rw [opnN_more]
      have kk : Chg None w0 w' := k.trans k' (fun _ _ h => h) (fun x hx hd => absurd hx (by rw [hd]; omega))
      have hne : l.drop pos ≠ [] := fun e => by have := congrArg List.length e; rw [List.length_drop] at this; simp at this; omega
      have hpos := decN_pos (l.drop pos)
      have hle := decN_le hne
      rw [List.length_drop] at hle
      rw [spaced_cons hne, List.drop_drop] at hpl
      refine opnI_s (opnI_s (space_word (decN_lim _) (st.chg kk) fun w2 k2 => ?_))
      have kk2 := kk.none_trans k2
      rw [opnB_s]
      cases hs : Lib.isSpaceR (decN (l.drop pos)).1 with
      | true =>
        rw [hs, Bool.true_or] at hpl
        have := hQ w2 kk2
        rw [hpl, if_pos rfl] at this
        exact this
      | false =>
        rw [hs, Bool.false_or] at hpl
        exact ih _ b w2 (by omega) (by omega) (hit'.chg k2 (fun h => h)) hb kk2 hpl
theorem nil_eq (l : List UInt8) : ((sb l).toList == (⟨#[]⟩ : ByteArray).toList) = decide (l.length = 0) := by
  rw [show (⟨#[]⟩ : ByteArray) = sb [] from rfl, sb_toList, sb_toList]
  cases l <;> simp
theorem name_word {l : List UInt8} (st : Nst w) (hQ : ∀ w', Chg None w w' → Q (.int .i64 (nameE l)) w') : C_note_CheckName #[.string (sb l)] w Q := by
  refine C_note_CheckName_eq _ _ _ ?_
  rw [nil_eq, sb_size]
  have q70 : (l.length = 0 ∨ l.length > 100 ∨ plain l = false ∨ l.contains 43 = true ∨ spaced l = true) → ∀ w', Chg None w w' → N_note_CheckName.j2 Q w' := fun h w' k => by
    have := hQ w' k
    unfold nameE at this
    rw [if_pos h] at this
    exact N_note_CheckName.j2_eq (h := this)
  by_cases h0 : l.length = 0
  · rw [decide_eq_true h0]; exact q70 (.inl h0) w (Chg.refl _ _)
  rw [decide_eq_false h0]
  show cond _ _ _
  by_cases h1 : l.length > 100
  · exact c_gt (by omega) (q70 (.inr (.inl h1)) w (Chg.refl _ _))
  refine c_ngt (by omega) (plain_word st fun w2 k2 => opnI_s ?_)
  unfold plainE
  rw [if_neg (by omega)]
  cases hp : plain l with
  | false =>
    rw [if_neg Bool.false_ne_true]
    exact c_ne (by decide) (q70 (.inr (.inr (.inl hp))) w2 k2)
  | true =>
    rw [if_pos rfl]
    refine c_nne rfl (contains_word ?_)
    rw [opnB_s]
    cases hc : l.contains 43 with
    | true => exact q70 (.inr (.inr (.inr (.inl hc)))) w2 k2
    | false =>
      refine c_f rfl (str_range Tryz.underlying9 fun b w' hit k hb => ?_)
      have hq : ∀ w', Chg None w2 w' → Q (.int .i64 (if spaced l = true then 70 else 0)) w' := fun w' k' => by
        have := hQ w' (k2.none_trans k')
        unfold nameE at this
        by_cases g : spaced l = true
        · rw [if_pos (.inr (.inr (.inr (.inr g))))] at this; rw [if_pos g]; exact this
        · rw [if_neg (by rw [hp, hc]; simp only [Bool.true_eq_false, Bool.false_eq_true, false_or]; exact fun h => h.elim h0 fun h => h.elim h1 g)] at this; rw [if_neg g]; exact this
      exact nm_loop (st.chg k2) hq _ 0 b w' (Nat.le_refl _) (Nat.zero_le _) hit hb k rfl
end
end Go.Proofs.YtedioondfbnfjaaGreatDoor
/-! ## ShL8 -/
namespace Go.Sh
open Go.ChangeShapes
variable {P : Program}

/-! ### structs of plain cells, compared -/
inductive EqF (P : Program) (xs ys : Array Value) : List (Nat × Nat) → Bool → Prop
  | nil : EqF P xs ys [] true
  | int {t o : Nat} {k k' : IntKind} {a b : Int} {r : List (Nat × Nat)} {q : Bool} : P.underlying t = some (.int k') → xs[o]? = some (.int k a) → ys[o]? = some (.int k b) → EqF P xs ys r q → EqF P xs ys ((t, o) :: r) ((a == b) && q)
  | bool {t o : Nat} {a b : Bool} {r : List (Nat × Nat)} {q : Bool} : P.underlying t = some .bool → xs[o]? = some (.bool a) → ys[o]? = some (.bool b) → EqF P xs ys r q → EqF P xs ys ((t, o) :: r) ((a == b) && q)
  | str {t o : Nat} {a b : ByteArray} {r : List (Nat × Nat)} {q : Bool} : P.underlying t = some .string → xs[o]? = some (.string a) → ys[o]? = some (.string b) → EqF P xs ys r q → EqF P xs ys ((t, o) :: r) ((a.toList == b.toList) && q)
theorem eqF_run (w : World) (d : Nat) {xs ys : Array Value} : ∀ {fs : List Field} {tb : List (Nat × Nat)} {q : Bool}, fs.map (fun f => (f.name != "_", f.type, f.offset)) = tb.map (fun x => (true, x.1, x.2)) → EqF P xs ys tb q → (Op.eqFields (d + 1) xs ys fs).run P w = .ok q w
  | [], _, _, h, .nil => by simp [Op.eqFields]
  | f :: fs, (t, o) :: tb, _, h, e => by
    simp only [List.map_cons, List.cons.injEq, Prod.mk.injEq, bne_iff_ne] at h
    obtain ⟨⟨hn, rfl, rfl⟩, h⟩ := h
    have pk : ∀ {k}, P.underlying f.type = some (.int k) → P.plainKey f.type = true := fun hu => by unfold Program.plainKey; rw [hu]
    have pb : P.underlying f.type = some .bool → P.plainKey f.type = true := fun hu => by unfold Program.plainKey; rw [hu]
    have ps : P.underlying f.type = some .string → P.plainKey f.type = true := fun hu => by unfold Program.plainKey; rw [hu]
    cases e with
    | @int _ _ k k' a b _ q hu hx hy e =>
      have ih := eqF_run w d h e
      simp only [Op.eqFields, hn, ne_eq, not_false_eq_true, if_true, Sem.run_bind, run_part_plain w (pk hu) hx, run_part_plain w (pk hu) hy, run_equalIn_int w d _ _ _ _ _ hu, Result.andThen_ok]
      cases h1 : (a == b) <;> simp [ih]
    | @bool _ _ a b _ q hu hx hy e =>
      have ih := eqF_run w d h e
      simp only [Op.eqFields, hn, ne_eq, not_false_eq_true, if_true, Sem.run_bind, run_part_plain w (pb hu) hx, run_part_plain w (pb hu) hy, run_equalIn_bool' w d _ _ _ hu, Result.andThen_ok]
      cases h1 : (a == b) <;> simp [ih]
    | @str _ _ a b _ q hu hx hy e =>
      have ih := eqF_run w d h e
      simp only [Op.eqFields, hn, ne_eq, not_false_eq_true, if_true, Sem.run_bind, run_part_plain w (ps hu) hx, run_part_plain w (ps hu) hy, run_equalIn_string w d _ _ _ hu, Result.andThen_ok]
      cases h1 : (a.toList == b.toList) <;> simp [ih]
  | [], _ :: _, _, h, _ => by simp at h
  | _ :: _, [], _, h, _ => by simp at h
/-- A type whose values are compared field by field. -/
structure EqT (P : Program) (t : Nat) (tb : List (Nat × Nat)) : Prop where
  guard : P.eqGuardType P.depth t = false
  under : P.underlying t = some (.struct (P.fieldsOf t))
  held : P.stoodInHeld t = false
  tab : (P.fieldsOf t).toList.map (fun f => (f.name != "_", f.type, f.offset)) = tb.map (fun x => (true, x.1, x.2))
theorem struct_eql {t : Nat} {tb : List (Nat × Nat)} (T : EqT P t tb) {x y : Operand} {xs ys : Array Value} {q : Bool} (e : EqF P xs ys tb q) {w : World} {K : Value → Prop} (hK : K (.bool q)) : semR P (do eqGuard .eql t x y (.agg xs) (.agg ys); binOp .eql t (.agg xs) (.agg ys)) w K := by
  unfold semR
  have := eqF_run w 9998 T.tab e
  simp only [Sem.run_bind, run_eqGuard_agg w .eql t x y xs ys T.guard, Result.andThen_ok, run_eql_struct, run_equalIn_struct w 9999 t xs ys T.under T.held, this]
  exact ⟨trivial, hK⟩
theorem struct_neq {t : Nat} {tb : List (Nat × Nat)} (T : EqT P t tb) {x y : Operand} {xs ys : Array Value} {q : Bool} (e : EqF P xs ys tb q) {w : World} {K : Value → Prop} (hK : K (.bool (!q))) : semR P (do eqGuard .neq t x y (.agg xs) (.agg ys); binOp .neq t (.agg xs) (.agg ys)) w K := by
  unfold semR
  have := eqF_run w 9998 T.tab e
  simp only [Sem.run_bind, run_eqGuard_agg w .neq t x y xs ys T.guard, Result.andThen_ok, run_neq_struct, run_equalIn_struct w 9999 t xs ys T.under T.held, this]
  exact ⟨trivial, hK⟩

/-! ### make with a capacity, elements of any size -/
theorem make_empty {t e sz by_ : Nat} (T : SlT P t e sz by_) {w : World} {c : Nat} (hb : by_ * c ≤ 281474976710656) (h63 : c ≤ 9223372036854775807) {K : Value → World → Prop}
    (hK : ∀ b w', Own w' e sz (some ⟨b, 0, .none⟩) 0 c [] → Chg None w w' → w.heap.size ≤ b → K (.slice (some ⟨b, 0, .none⟩) 0 c) w') : sem P (Instr.makeSlice t (.int .i64 0) (.int .i64 (c : Int))) w K := by
  obtain ⟨i, z, hi, hz, rfl, rfl, hzs⟩ := T.get
  have hb' : (i.bytes : Int) * (c : Int) ≤ 281474976710656 := by
    have h : ((i.bytes * c : Nat) : Int) ≤ 281474976710656 := by omega
    rwa [Int.natCast_mul] at h
  unfold sem
  rw [run_make (P := P) w t e i z T.ht hi hz .i64 .i64 0 c (by omega) (by omega) hb' (by omega)]
  simp only [Int.toNat_natCast]
  refine hK _ _ ⟨by simp, .inr ⟨w.heap.size, (madeCells z.cells (c * i.size)).toList, rfl, ?_, by simp [size_madeCells], Nat.zero_le _⟩⟩ (chg_alloc w _) (Nat.le_refl _)
  simpa using blk_alloc (w := w) (t := e) (cs := madeCells z.cells (c * i.size))

/-! ### lists of structs -/
theorem flat_get {α : Type} (enc : α → List Value) (sz : Nat) (hs : ∀ x, (enc x).length = sz) : ∀ (l : List α) (i j : Nat) (x : α), l[i]? = some x → j < sz → (l.flatMap enc)[i * sz + j]? = (enc x)[j]?
  | [], i, _, _, h, _ => by simp at h
  | y :: l, 0, j, x, h, hj => by
    simp only [List.getElem?_cons_zero, Option.some.injEq] at h; subst h
    rw [List.flatMap_cons, Nat.zero_mul, Nat.zero_add, List.getElem?_append_left (by rw [hs]; exact hj)]
  | y :: l, i + 1, j, x, h, hj => by
    simp only [List.getElem?_cons_succ] at h
    rw [List.flatMap_cons, List.getElem?_append_right (by rw [hs, Nat.add_mul]; omega), hs, show (i + 1) * sz + j - sz = i * sz + j by rw [Nat.add_mul]; omega]
    exact flat_get enc sz hs l i j x h hj
theorem flat_len {α : Type} (enc : α → List Value) (sz : Nat) (hs : ∀ x, (enc x).length = sz) (l : List α) : (l.flatMap enc).length = l.length * sz := by
  induction l with
  | nil => simp
  | cons x l ih => rw [List.flatMap_cons, List.length_append, ih, hs, List.length_cons, Nat.add_mul]; omega
/-- field j of element i -/
theorem rd_fld {α : Type} {enc : α → List Value} {sz : Nat} (hs : ∀ x, (enc x).length = sz) {w : World} {S : Nat → Prop} {p : Addr} {l : List α} (h : Lies w S (some p) (l.flatMap enc)) {i : Int} {x : α} (hx : l[i.toNat]? = some x) {j : Nat} {v : Value} (hv : (enc x)[j]? = some v) : w.cell? ((p.add (Int.toNat i * sz)).add j) = some v := by
  have hj : j < sz := by have := (List.getElem?_eq_some_iff.1 hv).1; rwa [hs] at this
  obtain ⟨q, hq, _, hc⟩ := h (i.toNat * sz + j) v (by rw [flat_get enc sz hs l _ j x hx hj]; exact hv)
  cases hq
  rw [add_add']; exact hc
theorem lies_flat_some {α : Type} {enc : α → List Value} {sz : Nat} (hs : ∀ x, (enc x).length = sz) (h0 : 0 < sz) {w : World} {S : Nat → Prop} {a : Option Addr} {l : List α} (h : Lies w S a (l.flatMap enc)) {i : Nat} (hi : i < l.length) : ∃ p, a = some p := by
  refine h.some (j := i * sz) ?_
  rw [flat_len enc sz hs]
  exact Nat.mul_lt_mul_of_pos_right hi h0
end Go.Sh
/-! ## ShL10 -/
namespace Go.Sh
open Go.ChangeShapes
variable {P : Program}
/-- field j of element i, written -/
theorem st_fld {w : World} {e sz n c : Nat} {a : Option Addr} {l : List Value} (h : Own w e sz a n c l) {i : Int} {j : Nat} (hi : i.toNat < n) (hj : j < sz) {v : Value} (hv : v.oneCell' = true) {K : World → Prop} (hK : ∀ w', Own w' e sz a n c (l.set (i.toNat * sz + j) v) → Chg (At a) w w' → K w') :
    opnA a fun ad => stC ((ad.add (Int.toNat i * sz)).add j) v w K := by
  have hl := h.len
  have hlt : i.toNat * sz + j < n * sz := by
    have : (i.toNat + 1) * sz ≤ n * sz := Nat.mul_le_mul_right _ hi
    rw [Nat.add_mul] at this; omega
  rcases h.row with ⟨rfl, h2, h3⟩ | ⟨b, rest, rfl, h2, h3, h4⟩
  · omega
  · simp only [opnA, add_add', Addr.add_lit, Nat.zero_add]
    refine h2.store (by rw [List.length_append]; omega) hv fun b1 k1 => hK _ ⟨by simp [hl], .inr ⟨b, rest, rfl, ?_, by simpa using h3, h4⟩⟩ (k1.mono fun k _ hk => ⟨_, rfl, hk.symm⟩)
    rw [List.set_append_left _ _ (by omega)] at b1; exact b1
theorem flat_set {α : Type} (enc : α → List Value) (sz : Nat) (hs : ∀ x, (enc x).length = sz) (done rest : List α) (x y : α) {j : Nat} {v : Value} (hj : j < sz) (hy : enc y = (enc x).set j v) : ((done ++ x :: rest).flatMap enc).set (done.length * sz + j) v = (done ++ y :: rest).flatMap enc := by
  rw [List.flatMap_append, List.flatMap_append, List.flatMap_cons, List.flatMap_cons, ← flat_len enc sz hs done, List.set_append_right _ _ (by omega), Nat.add_sub_cancel_left, List.set_append_left _ _ (by rw [hs]; exact hj), hy]
/-- A list of slices: of each its length and its cells. -/
def LL (w : World) (S : Nat → Prop) (a : Option Addr) (ls : List (Nat × List Value)) : Prop :=
  ∀ (j : Nat) (x : Nat × List Value), ls[j]? = some x → ∃ p q c, a = some p ∧ S p.block ∧ w.cell? (p.add j) = some (.slice q x.1 c) ∧ x.1 ≤ c ∧ Lies w S q x.2
theorem LL.chg {w w' : World} {S D : Nat → Prop} {a : Option Addr} {ls : List (Nat × List Value)} (h : LL w S a ls) (k : Chg D w w') (hd : ∀ x, x < w.heap.size → S x → ¬ D x) : LL w' S a ls := fun j r hj => by
  obtain ⟨p, q, c, h1, h2, h3, h4, h5⟩ := h j r hj
  refine ⟨p, q, c, h1, h2, ?_, h4, h5.chg k hd⟩
  have hb := World.block_lt_of_cell? _ _ h3
  rw [block_add] at hb
  rw [World.cell?_of_block (w := w) (by rw [block_add]; exact k.block _ hb (hd _ hb h2))]
  exact h3
theorem LL.chg0 {w w' : World} {S : Nat → Prop} {a : Option Addr} {ls : List (Nat × List Value)} (h : LL w S a ls) (k : Chg None w w') : LL w' S a ls := h.chg k fun _ _ _ h => h
theorem rd_ll {w : World} {S : Nat → Prop} {a : Option Addr} {ls : List (Nat × List Value)} (h : LL w S a ls) {i : Int} {x : Nat × List Value} (hx : ls[i.toNat]? = some x) {K : Option Addr → Nat → Nat → Prop} (hK : ∀ q c, x.1 ≤ c → Lies w S q x.2 → K q x.1 c) : opnA a fun ad => opnL (w.cell? (ad.add (Int.toNat i * 1))) K := by
  obtain ⟨p, q, c, rfl, _, h3, h4, h5⟩ := h _ _ hx
  simp only [opnA, Nat.mul_one, h3, opnL]
  exact hK q c h4 h5
/-- one more struct behind a list of one's own -/
theorem push_struct {t e sz by_ : Nat} (T : SlT P t e sz by_) {w0 w : World} {a : Option Addr} {n c : Nat} {l : List Value} (h : Own w e sz a n c l) (f : ∀ k, At a k → w0.heap.size ≤ k) (k0 : Chg None w0 w) {cs : Array Value} (hcs : cs.size = sz) (h1 : cs.toList.all Value.oneCell' = true) (hn : (n + 1) * by_ ≤ 140737488355328) (hn2 : n < 140737488355328) {K : Option Addr → Nat → Nat → World → Prop}
    (hK : ∀ a' c' w', Own w' e sz a' (n + 1) c' (l ++ cs.toList) → (∀ k, At a' k → w0.heap.size ≤ k) → Chg None w0 w' → K a' (n + 1) c' w') :
    alC cs e w fun p w5 => sem P (Builtin.append_ #[t, t] t #[.slice a n c, .slice (some p) 1 1]) w5 fun v6 w7 => opnL (some v6) fun x xn xc => K x xn xc w7 := by
  unfold alC
  have ka : Chg None w (w.alloc (.cells cs e)) := chg_alloc w _
  have hsrc : Src P sz t (.slice (some ⟨w.heap.size, 0, none⟩) 1 1) 1 cs.toList (w.alloc (.cells cs e)) := src_two (vs := cs.toList) (t := e) (w := w) T.ht (by simpa using hcs) (fun u hu => List.all_eq_true.1 h1 u hu)
  refine append_own T (w := w.alloc (.cells cs e)) (h.chg0 ka) hsrc (by simp only [maxLen]; omega) hn fun a' c' w2 o2 k2 f2 => ?_
  refine hK a' c' w2 o2 ?_ (Chg.fresh (k0.none_trans ka) k2 f)
  rcases f2 with rfl | ⟨b, rfl, hb⟩
  · exact f
  · rintro k ⟨p, hp, rfl⟩; cases hp; exact Nat.le_trans (k0.none_trans ka).size hb
end Go.Sh
/-! ## ShL14 -/
namespace Go.Sh
open Go.ChangeShapes
variable {P : Program}
section
theorem opnI_e {k : IntKind} {n : Int} {K : Int → Prop} : opnI k (some (.int k n)) K = K n := propext ⟨fun h => h.2, fun h => ⟨rfl, h⟩⟩
theorem opnA_e {a : Addr} {K : Addr → Prop} : opnA (some a) K = K a := rfl
theorem opnV_e {v : Value} {K : Value → Prop} : opnV (some v) K = K v := rfl
theorem opnM_e {a : Option Nat} {K : Option Nat → Prop} : opnM (some (.map a)) K = K a := rfl
/-- a call's five fields, as they come back -/
theorem opnG5 {x0 x1 x2 x3 : Int} {x4 : Bool} {K : Int → Int → Int → Int → Bool → Prop} (h : K x0 x1 x2 x3 x4) : opnG (some (.agg #[.int .i64 x0, .int .i64 x1, .int .i64 x2, .int .i64 x3, .bool x4])) fun y => y.size = 5 ∧ opnI .i64 (y[0]?) fun a => opnI .i64 (y[1]?) fun b => opnI .i64 (y[2]?) fun c => opnI .i64 (y[3]?) fun d => opnB (y[4]?) fun e => K a b c d e :=
  ⟨rfl, ⟨rfl, ⟨rfl, ⟨rfl, ⟨rfl, h⟩⟩⟩⟩⟩
/-- a string and a number, as they come back -/
theorem opnT_SI {s : ByteArray} {n : Int} {K : ByteArray → Int → Prop} (h : K s n) : opnT (some (.tuple #[.string s, .int .i64 n])) fun y => y.size = 2 ∧ opnS (y[0]?) fun a => opnI .i64 (y[1]?) fun b => K a b := ⟨rfl, ⟨rfl, h⟩⟩
end
section
variable {w w' : World} {b t : Nat} {x0 x1 x2 x3 : Int} {x4 : Bool}
abbrev box5v (x0 x1 x2 x3 : Int) (x4 : Bool) : List Value := [.int .i64 x0, .int .i64 x1, .int .i64 x2, .int .i64 x3, .bool x4]
/-- a box of four numbers and a bool, read -/
theorem ld5 (h : Blk w b t (box5v x0 x1 x2 x3 x4)) {K : Int → Int → Int → Int → Bool → Prop} (hK : K x0 x1 x2 x3 x4) : opnI .i64 (w.cell? ((⟨b, 0, none⟩ : Addr).add 0)) fun a => opnI .i64 (w.cell? ((⟨b, 0, none⟩ : Addr).add 1)) fun b' => opnI .i64 (w.cell? ((⟨b, 0, none⟩ : Addr).add 2)) fun c => opnI .i64 (w.cell? ((⟨b, 0, none⟩ : Addr).add 3)) fun d => opnB (w.cell? ((⟨b, 0, none⟩ : Addr).add 4)) fun e => K a b' c d e :=
  opnI_c (h.rd 0 rfl) (opnI_c (h.rd 1 rfl) (opnI_c (h.rd 2 rfl) (opnI_c (h.rd 3 rfl) (opnB_c (h.rd 4 rfl) hK))))
/-- the box written over -/
theorem st5 {o0 o1 o2 o3 o4 : Value} (h : Blk w b t [o0, o1, o2, o3, o4]) {K : World → Prop} (hK : ∀ w', Blk w' b t (box5v x0 x1 x2 x3 x4) → Chg (fun k => k = b) w w' → K w') : Array.size (#[.int .i64 x0, .int .i64 x1, .int .i64 x2, .int .i64 x3, .bool x4] : Array Value) = 5 ∧ stC ((⟨b, 0, none⟩ : Addr).add 0) (.int .i64 x0) w fun w1 => stC ((⟨b, 0, none⟩ : Addr).add 1) (.int .i64 x1) w1 fun w2 => stC ((⟨b, 0, none⟩ : Addr).add 2) (.int .i64 x2) w2 fun w3 => stC ((⟨b, 0, none⟩ : Addr).add 3) (.int .i64 x3) w3 fun w4 => stC ((⟨b, 0, none⟩ : Addr).add 4) (.bool x4) w4 fun w5 => K w5 :=
  ⟨rfl, box5 h rfl rfl fun w2 hb2 k2 => hK w2 hb2 k2⟩
/-- made and filled -/
theorem mk5 {z0 z1 z2 z3 z4 : Value} {K : Addr → World → Prop} (hK : ∀ b w', Blk w' b t (box5v x0 x1 x2 x3 x4) → Chg None w w' → w.heap.size ≤ b → K ⟨b, 0, none⟩ w') : alC #[z0, z1, z2, z3, z4] t w fun p w0 => Array.size (#[.int .i64 x0, .int .i64 x1, .int .i64 x2, .int .i64 x3, .bool x4] : Array Value) = 5 ∧ stC (p.add 0) (.int .i64 x0) w0 fun w1 => stC (p.add 1) (.int .i64 x1) w1 fun w2 => stC (p.add 2) (.int .i64 x2) w2 fun w3 => stC (p.add 3) (.int .i64 x3) w3 fun w4 => stC (p.add 4) (.bool x4) w4 fun w5 => K p w5 :=
  mkbox5 rfl hK
end
/-! ### lists of strings -/
abbrev strv (l : List UInt8) : Value := .string ⟨l.toArray⟩
theorem rd_str {w : World} {e n c : Nat} {a : Option Addr} {ls : List (List UInt8)} (h : Own w e 1 a n c (ls.map strv)) {i : Int} {l : List UInt8} (hl : ls[i.toNat]? = some l) {K : ByteArray → Prop} (hK : K ⟨l.toArray⟩) : opnA a fun ad => opnS (w.cell? (ad.add (Int.toNat i * 1))) K := by
  obtain ⟨p, rfl, hc⟩ := h.cell (j := i.toNat) (v := strv l) (by rw [List.getElem?_map, hl]; rfl)
  rw [opnA_e, Nat.mul_one, hc]
  exact hK
/-- one string more -/
theorem push_str {t e by_ : Nat} (T : SlT P t e 1 by_) {w0 w : World} {a : Option Addr} {n c : Nat} {ls : List (List UInt8)} (h : Own w e 1 a n c (ls.map strv)) (f : ∀ k, At a k → w0.heap.size ≤ k) (k0 : Chg None w0 w) {l : List UInt8} (hn : (n + 1) * by_ ≤ 140737488355328) (hn2 : n < 140737488355328) {K : Option Addr → Nat → Nat → World → Prop}
    (hK : ∀ a' c' w', Own w' e 1 a' (n + 1) c' ((ls ++ [l]).map strv) → (∀ k, At a' k → w0.heap.size ≤ k) → Chg None w0 w' → K a' (n + 1) c' w') :
    alC #[.string ⟨l.toArray⟩] e w fun p w2 => sem P (Builtin.append_ #[t, t] t #[.slice a n c, .slice (some p) 1 1]) w2 fun v w3 => opnL (some v) fun x xn xc => K x xn xc w3 := by
  refine push_struct T (w0 := w0) h f k0 (cs := #[.string ⟨l.toArray⟩]) rfl rfl hn hn2 fun a' c' w' o g k => ?_
  exact hK a' c' w' (by simpa using o) g k
end Go.Sh
/-! ## RefName -/
set_option maxRecDepth 10000
namespace Go.Proofs.YtedioondfbnfjaaGreatDoor
open Go.Sh Go.RowKit
section
variable {Q : Value → World → Prop} {w w0 : World}
/-! ### how many bytes a letter takes -/
theorem bt0 (l : List UInt8) : IntKind.wrap .i64 (bt (sb l) (Int.toNat 0)) = (nb l 0 : Int) := by
  rw [bt_sb]; have := nb_lt l 0; exact wrap_n' (by show nb l 0 < _; omega)
theorem lt_no {l : List UInt8} {s4 s5 s6 : Int} {i : Nat} (h1 : (i : Int) ≤ s4) (h2 : i < l.length) (h3 : nb l i / 64 ≠ 2) (hQ : Q (.int .i64 0) w) : N_r06_letter.j23 Q (sb l) s4 s5 s6 (i : Int) w := by
  refine N_r06_letter.j23_eq (h := c_le h1 ⟨by omega, by rw [sb_size]; omega, by decide, ?_⟩)
  rw [bt_sb, Int.toNat_natCast]
  have hb := nb_lt l i
  have e : IntKind.wrap .u8 (Int.tdiv (nb l i : Int) 64) = ((nb l i / 64 : Nat) : Int) := by
    rw [show Int.tdiv (nb l i : Int) 64 = ((nb l i / 64 : Nat) : Int) from rfl]; exact wrap_u8 (by omega)
  rw [e]
  exact c_ne (by omega) hQ
theorem lt_yes {l : List UInt8} {s4 s6 : Int} {n i : Nat} (h1 : (i : Int) ≤ s4) (h2 : i < l.length) (h3 : nb l i / 64 = 2) (hn : n < 1000000) (hi : i < 1000) (hN : N_r06_letter.j23 Q (sb l) s4 ((64 * n + nb l i % 64 : Nat) : Int) s6 ((i + 1 : Nat) : Int) w) : N_r06_letter.j23 Q (sb l) s4 (n : Int) s6 (i : Int) w := by
  refine N_r06_letter.j23_eq (h := c_le h1 ⟨by omega, by rw [sb_size]; omega, by decide, ?_⟩)
  rw [bt_sb, Int.toNat_natCast]
  have hb := nb_lt l i
  have e : IntKind.wrap .u8 (Int.tdiv (nb l i : Int) 64) = ((nb l i / 64 : Nat) : Int) := by
    rw [show Int.tdiv (nb l i : Int) 64 = ((nb l i / 64 : Nat) : Int) from rfl]; exact wrap_u8 (by omega)
  rw [e]
  refine c_nne (by omega) ⟨by omega, by rw [sb_size]; omega, by decide, ?_⟩
  have e1 : IntKind.wrap .i64 (Int.tmod (nb l i : Int) 64) = ((nb l i % 64 : Nat) : Int) := by
    rw [show Int.tmod (nb l i : Int) 64 = ((nb l i % 64 : Nat) : Int) from rfl]; exact wrap_n' (by omega)
  have e2 : IntKind.wrap .i64 (64 * (n : Int)) = ((64 * n : Nat) : Int) := by
    rw [show 64 * (n : Int) = ((64 * n : Nat) : Int) by omega]; exact wrap_n' (by omega)
  rw [e1, e2, show (((64 * n : Nat) : Int) + ((nb l i % 64 : Nat) : Int)) = ((64 * n + nb l i % 64 : Nat) : Int) by omega, wrap_n' (by omega), wrap_nat (by omega)]
  exact hN
theorem lt_end {l : List UInt8} {k n least : Nat} (hk : k < 1000) (hQ : Q (.int .i64 ((if least ≤ n ∧ n ≤ 1114111 ∧ ¬ (55296 ≤ n ∧ n ≤ 57343) then k + 1 else 0 : Nat) : Int)) w) : N_r06_letter.j23 Q (sb l) (k : Int) (n : Int) (least : Int) ((k + 1 : Nat) : Int) w := by
  refine N_r06_letter.j23_eq (h := c_nle (by omega) ?_)
  have no : ¬ (least ≤ n ∧ n ≤ 1114111 ∧ ¬ (55296 ≤ n ∧ n ≤ 57343)) → N_r06_letter.j29 Q w := fun h => by
    rw [if_neg h] at hQ; exact N_r06_letter.j29_eq (h := hQ)
  have yes : (least ≤ n ∧ n ≤ 1114111 ∧ ¬ (55296 ≤ n ∧ n ≤ 57343)) → N_r06_letter.j30 Q (k : Int) w := fun h => by
    rw [if_pos h] at hQ
    refine N_r06_letter.j30_eq (h := ?_)
    rw [wrap_nat (by omega)]; exact hQ
  by_cases h1 : n < least
  · exact c_lt (by omega) (no (by omega))
  refine c_nlt (by omega) ?_
  by_cases h2 : n > 1114111
  · exact c_gt (by omega) (no (by omega))
  refine c_ngt (by omega) ?_
  by_cases h3 : 55296 ≤ n
  · refine c_ge (by omega) ?_
    by_cases h4 : n ≤ 57343
    · exact c_le (by omega) (no (by omega))
    · exact c_nle (by omega) (yes (by omega))
  · exact c_nge (by omega) (yes (by omega))
theorem ctB_iff {l : List UInt8} {k : Nat} : ctB l k = true ↔ k < l.length ∧ nb l k / 64 = 2 := by unfold ctB; rw [Bool.and_eq_true, decide_eq_true_eq, beq_iff_eq]
theorem letter_word {l : List UInt8} (hl : l ≠ []) (hQ : Q (.int .i64 (letN l : Int)) w) : C_r06_letter #[.string (sb l)] w Q := by
  have hlen : 0 < l.length := List.length_pos_iff.2 hl
  have hb := nb_lt l 0
  refine C_r06_letter_eq _ _ _ ⟨by decide, by rw [sb_size]; omega, ?_⟩
  rw [bt0]
  have q0 : letN l = 0 → Q (.int .i64 0) w := fun h => by rw [h] at hQ; exact hQ
  by_cases h1 : nb l 0 < 128
  · rw [letN_one h1] at hQ
    exact c_lt (by omega) hQ
  refine c_nlt (by omega) ?_
  have j5 : letN l = 0 → N_r06_letter.j5 Q w := fun h => N_r06_letter.j5_eq (h := q0 h)
  have t32 : Int.tmod (nb l 0 : Int) 32 = ((nb l 0 % 32 : Nat) : Int) := rfl
  have t16 : Int.tmod (nb l 0 : Int) 16 = ((nb l 0 % 16 : Nat) : Int) := rfl
  have t8 : Int.tmod (nb l 0 : Int) 8 = ((nb l 0 % 8 : Nat) : Int) := rfl
  have j16 : ¬ nb l 0 / 32 = 6 → ¬ nb l 0 / 16 = 14 → N_r06_letter.j16 Q (sb l) (nb l 0 : Int) w := by
    intro g1 g2
    refine N_r06_letter.j16_eq (h := ?_)
    by_cases g3 : nb l 0 / 8 = 30
    · rw [letN_four g3] at hQ q0
      refine c_ge (by omega) (c_lt (by omega) (N_r06_letter.j17_eq (h := N_r06_letter.j18_eq (h := ⟨by decide, N_r06_letter.j19_eq (h := N_r06_letter.j20_eq (h := ?_))⟩))))
      rw [sb_size, t8]
      by_cases hz : l.length ≤ 3
      · exact c_le (by omega) (N_r06_letter.j21_eq (h := q0 (if_neg fun h => by have := (ctB_iff.1 h.2.2.1).1; omega)))
      refine c_nle (by omega) (N_r06_letter.j22_eq (h := ?_))
      by_cases c1 : nb l 1 / 64 = 2
      · refine lt_yes (i := 1) (by decide) (by omega) c1 (by omega) (by decide) ?_
        by_cases c2 : nb l 2 / 64 = 2
        · refine lt_yes (i := 2) (by decide) (by omega) c2 (by omega) (by decide) ?_
          by_cases c3 : nb l 3 / 64 = 2
          · refine lt_yes (i := 3) (by decide) (by omega) c3 (by omega) (by decide) ?_
            refine lt_end (k := 3) (least := 65536) (by decide) ?_
            have ev : 64 * (64 * (64 * (nb l 0 % 8) + nb l 1 % 64) + nb l 2 % 64) + nb l 3 % 64 = val4 l := by unfold val4; omega
            rw [ev]
            by_cases g : 65536 ≤ val4 l ∧ val4 l ≤ 1114111 ∧ ¬ (55296 ≤ val4 l ∧ val4 l ≤ 57343)
            · rw [if_pos g]; rw [if_pos ⟨ctB_iff.2 ⟨by omega, c1⟩, ctB_iff.2 ⟨by omega, c2⟩, ctB_iff.2 ⟨by omega, c3⟩, g⟩] at hQ; exact hQ
            · rw [if_neg g]; exact q0 (if_neg fun h => g h.2.2.2)
          · exact lt_no (i := 3) (by decide) (by omega) c3 (q0 (if_neg fun h => c3 (ctB_iff.1 h.2.2.1).2))
        · exact lt_no (i := 2) (by decide) (by omega) c2 (q0 (if_neg fun h => c2 (ctB_iff.1 h.2.1).2))
      · exact lt_no (i := 1) (by decide) (by omega) c1 (q0 (if_neg fun h => c1 (ctB_iff.1 h.1).2))
    · have := letN_no (by omega) g1 g2 g3
      by_cases g4 : 240 ≤ nb l 0
      · exact c_ge (by omega) (c_nlt (by omega) (j5 this))
      · exact c_nge (by omega) (j5 this)
  have j12 : ¬ nb l 0 / 32 = 6 → N_r06_letter.j12 Q (sb l) (nb l 0 : Int) w := by
    intro g1
    refine N_r06_letter.j12_eq (h := ?_)
    by_cases g2 : nb l 0 / 16 = 14
    · rw [letN_three g2] at hQ q0
      refine c_ge (by omega) (c_lt (by omega) (N_r06_letter.j13_eq (h := N_r06_letter.j14_eq (h := ⟨by decide, N_r06_letter.j15_eq (h := N_r06_letter.j20_eq (h := ?_))⟩))))
      rw [sb_size, t16]
      by_cases hz : l.length ≤ 2
      · exact c_le (by omega) (N_r06_letter.j21_eq (h := q0 (if_neg fun h => by have := (ctB_iff.1 h.2.1).1; omega)))
      refine c_nle (by omega) (N_r06_letter.j22_eq (h := ?_))
      by_cases c1 : nb l 1 / 64 = 2
      · refine lt_yes (i := 1) (by decide) (by omega) c1 (by omega) (by decide) ?_
        by_cases c2 : nb l 2 / 64 = 2
        · refine lt_yes (i := 2) (by decide) (by omega) c2 (by omega) (by decide) ?_
          refine lt_end (k := 2) (least := 2048) (by decide) ?_
          have ev : 64 * (64 * (nb l 0 % 16) + nb l 1 % 64) + nb l 2 % 64 = val3 l := by unfold val3; omega
          rw [ev]
          by_cases g : 2048 ≤ val3 l ∧ val3 l ≤ 1114111 ∧ ¬ (55296 ≤ val3 l ∧ val3 l ≤ 57343)
          · rw [if_pos g]; rw [if_pos ⟨ctB_iff.2 ⟨by omega, c1⟩, ctB_iff.2 ⟨by omega, c2⟩, g⟩] at hQ; exact hQ
          · rw [if_neg g]; exact q0 (if_neg fun h => g h.2.2)
        · exact lt_no (i := 2) (by decide) (by omega) c2 (q0 (if_neg fun h => c2 (ctB_iff.1 h.2.1).2))
      · exact lt_no (i := 1) (by decide) (by omega) c1 (q0 (if_neg fun h => c1 (ctB_iff.1 h.1).2))
    · by_cases g3 : 224 ≤ nb l 0
      · exact c_ge (by omega) (c_nlt (by omega) (j16 g1 g2))
      · exact c_nge (by omega) (j16 g1 g2)
  by_cases g1 : nb l 0 / 32 = 6
  · rw [letN_two g1] at hQ q0
    refine c_ge (by omega) (c_lt (by omega) ⟨by decide, N_r06_letter.j20_eq (h := ?_)⟩)
    rw [sb_size, t32]
    by_cases hz : l.length ≤ 1
    · exact c_le (by omega) (N_r06_letter.j21_eq (h := q0 (if_neg fun h => by have := (ctB_iff.1 h.1).1; omega)))
    refine c_nle (by omega) (N_r06_letter.j22_eq (h := ?_))
    by_cases c1 : nb l 1 / 64 = 2
    · refine lt_yes (i := 1) (by decide) (by omega) c1 (by omega) (by decide) ?_
      refine lt_end (k := 1) (least := 128) (by decide) ?_
      have ev : 64 * (nb l 0 % 32) + nb l 1 % 64 = val2 l := by unfold val2; omega
      rw [ev]
      have hv : val2 l < 2048 := by unfold val2; omega
      by_cases g : 128 ≤ val2 l
      · rw [if_pos ⟨g, by omega, by omega⟩]; rw [if_pos ⟨ctB_iff.2 ⟨by omega, c1⟩, g⟩] at hQ; exact hQ
      · rw [if_neg (fun h => g h.1)]; exact q0 (if_neg fun h => g h.2)
    · exact lt_no (i := 1) (by decide) (by omega) c1 (q0 (if_neg fun h => c1 (ctB_iff.1 h.1).2))
  · by_cases g2 : 192 ≤ nb l 0
    · exact c_ge (by omega) (c_nlt (by omega) (j12 g1))
    · exact c_nge (by omega) (j12 g1)

/-! ### the document's Plain -/
theorem rpl_loop {l : List UInt8} (hl : l.length ≤ 1048576) (hQ : Q (.int .i64 (if plain l = true then 0 else 65)) w) :
    ∀ (m pos : Nat), l.length - pos ≤ m → pos ≤ l.length → plain l = plain (l.drop pos) → N_r06_Plain.j4 Q (sb l) (pos : Int) w := by
  intro m
  have stop : ∀ pos, l.length ≤ pos → plain l = plain (l.drop pos) → N_r06_Plain.j4 Q (sb l) (pos : Int) w := fun pos h hpl => by
    rw [hpl, List.drop_eq_nil_of_le h, plain_nil, if_pos rfl] at hQ
    refine N_r06_Plain.j4_eq (h := ?_)
    rw [sb_size]
    exact c_nlt (by omega) hQ
  induction m with
  | zero => intro pos hm hp hpl; exact stop pos (by omega) hpl
  | succ m ih =>
    intro pos hm hp hpl
    by_cases hlt : pos < l.length
    · have hne : l.drop pos ≠ [] := fun e => by have := congrArg List.length e; rw [List.length_drop] at this; simp at this; omega
      have hpos := decN_pos (l.drop pos)
      have hle := decN_le hne
      rw [List.length_drop] at hle
      have hpl0 := hpl
      rw [plain_cons hne, List.drop_drop, goodL_eq hne, nb_drop, Nat.add_zero] at hpl
      have bad : plain l = false → N_r06_Plain.j7 Q w := fun h => by
        rw [h, if_neg Bool.false_ne_true] at hQ
        exact N_r06_Plain.j7_eq (h := hQ)
      refine N_r06_Plain.j4_eq (h := ?_)
      rw [sb_size, sb_ext, Int.toNat_natCast, List.take_of_length_le (by rw [List.length_drop]; omega)]
      refine c_lt (by omega) ⟨by omega, by omega, letter_word hne (opnI_s ?_)⟩
      by_cases h0 : letN (l.drop pos) = 0
      · refine c_eq (by omega) (bad ?_)
        rw [hpl, decide_eq_true h0]; rfl
      rw [decide_eq_false h0] at hpl
      refine c_neq (by omega) ⟨by omega, by omega, ?_⟩
      rw [bt_sb]
      by_cases h1 : nb l pos = 127
      · refine c_eq (by omega) (bad ?_)
        rw [hpl, beq_iff_eq.2 h1]; rfl
      rw [beq_eq_false_iff_ne.2 h1] at hpl
      refine c_neq (by omega) ⟨by omega, by omega, ?_⟩
      have next : plain l = plain (l.drop (pos + (decN (l.drop pos)).2)) → N_r06_Plain.j8 Q (sb l) (pos : Int) (letN (l.drop pos) : Int) w := fun h => by
        refine N_r06_Plain.j8_eq (h := ?_)
        rw [letN_step h0, show ((pos : Int) + ((decN (l.drop pos)).2 : Int)) = ((pos + (decN (l.drop pos)).2 : Nat) : Int) by omega, wrap_n' (by omega)]
        exact ih _ (by omega) (by omega) h
      by_cases h2 : nb l pos < 32
      · rw [decide_eq_true h2] at hpl
        refine c_lt (by omega) ⟨by omega, by omega, ?_⟩
        by_cases h3 : nb l pos = 10
        · rw [beq_iff_eq.2 h3] at hpl
          exact c_nne (by omega) (next hpl)
        · rw [beq_eq_false_iff_ne.2 h3] at hpl
          exact c_ne (by omega) (bad hpl)
      · rw [decide_eq_false h2] at hpl
        exact c_nlt (by omega) (next hpl)
    · exact stop pos (by omega) hpl
theorem rplain_word {l : List UInt8} (hQ : Q (.int .i64 (plainE l)) w) : C_r06_Plain #[.string (sb l)] w Q := by
  refine C_r06_Plain_eq _ _ _ ?_
  rw [sb_size]
  unfold plainE at hQ
  by_cases h : l.length > 1048576
  · rw [if_pos h] at hQ
    exact c_gt (by omega) hQ
  · rw [if_neg h] at hQ
    exact c_ngt (by omega) (rpl_loop (by omega) hQ _ 0 (Nat.le_refl _) (Nat.zero_le _) rfl)

/-! ### holds -/
theorem pre_take (v : List UInt8) : ∀ (l : List UInt8), (l.take v.length == v) = v.isPrefixOf l := by
  intro l
  apply Bool.eq_iff_iff.2
  rw [beq_iff_eq, List.isPrefixOf_iff_prefix, List.prefix_iff_eq_take]
  exact eq_comm
theorem holdsB_short {v : List UInt8} : ∀ {l : List UInt8}, l.length < v.length → holdsB v l = false := by
  intro l
  induction l with
  | nil =>
    intro h
    cases v with
    | nil => simp at h
    | cons c r => rfl
  | cons c r ih =>
    intro h
    show (v.isPrefixOf (c :: r) || holdsB v r) = false
    rw [ih (by simp at h; omega), Bool.or_false]
    cases hp : v.isPrefixOf (c :: r) with
    | false => rfl
    | true =>
      have := (List.isPrefixOf_iff_prefix.1 hp).length_le
      omega
theorem hold_loop {l v : List UInt8} (hl : l.length ≤ 1048576) (hv : 0 < v.length ∧ v.length ≤ 100) (hQ : Q (.bool (holdsB v l)) w) :
    ∀ (m i : Nat), l.length - i ≤ m → i ≤ l.length → holdsB v l = holdsB v (l.drop i) → N_r07_holds.j2 Q (sb l) (sb v) (i : Int) w := by
  intro m
  have stop : ∀ i, l.length < i + v.length → i ≤ l.length → holdsB v l = holdsB v (l.drop i) → N_r07_holds.j2 Q (sb l) (sb v) (i : Int) w := fun i h hi hh => by
    rw [hh, holdsB_short (by rw [List.length_drop]; omega)] at hQ
    refine N_r07_holds.j2_eq (h := ?_)
    rw [sb_size, sb_size, show ((i : Int) + (v.length : Int)) = ((i + v.length : Nat) : Int) by omega, wrap_n' (by omega)]
    exact c_nle (by omega) hQ
  induction m with
  | zero => intro i hm hi hh; exact stop i (by omega) hi hh
  | succ m ih =>
    intro i hm hi hh
    by_cases hs : l.length < i + v.length
    · exact stop i hs hi hh
    · refine N_r07_holds.j2_eq (h := ?_)
      rw [sb_size, sb_size, show ((i : Int) + (v.length : Int)) = ((i + v.length : Nat) : Int) by omega, wrap_n' (by omega)]
      refine c_le (by omega) ⟨by omega, by omega, by omega, by omega, ?_⟩
      rw [sb_ext, sb_toList, sb_toList, Int.toNat_natCast, Int.toNat_natCast, show i + v.length - i = v.length by omega, pre_take]
      have hd : l.drop i = l[i] :: l.drop (i + 1) := (List.getElem_cons_drop (h := by omega)).symm
      have e : holdsB v (l.drop i) = (v.isPrefixOf (l.drop i) || holdsB v (l.drop (i + 1))) := by
        rw [hd]; rfl
      rw [e] at hh
      cases hp : v.isPrefixOf (l.drop i) with
      | true =>
        rw [hp, Bool.true_or] at hh
        rw [hh] at hQ
        exact hQ
      | false =>
        rw [hp, Bool.false_or] at hh
        show N_r07_holds.j2 Q _ _ _ w
        rw [wrap_nat (by omega)]
        exact ih (i + 1) (by omega) (by omega) hh
theorem holds_word {l v : List UInt8} (hl : l.length ≤ 1048576) (hv : 0 < v.length ∧ v.length ≤ 100) (hQ : Q (.bool (holdsB v l)) w) : C_r07_holds #[.string (sb l), .string (sb v)] w Q :=
  C_r07_holds_eq _ _ _ _ (hold_loop hl hv hQ _ 0 (Nat.le_refl _) (Nat.zero_le _) rfl)

/-! ### the document's CheckName -/
theorem blank_len : ∀ {i : Nat} {v : List UInt8}, blanks[i]? = some v → 0 < v.length ∧ v.length ≤ 100 := by
  intro i v h
  have hm := List.mem_of_getElem? h
  have hall : (blanks.all fun v => decide (0 < v.length ∧ v.length ≤ 100)) = true := by decide
  exact of_decide_eq_true (List.all_eq_true.1 hall v hm)
theorem bl_loop {l : List UInt8} (hl : l.length ≤ 100) (bl : Blanks w) (hQ : Q (.int .i64 (if blanks.any (holdsB · l) = true then 70 else 0)) w) :
    ∀ (m i : Nat), 19 - i ≤ m → i ≤ 19 → blanks.any (holdsB · l) = (blanks.drop i).any (holdsB · l) → N_r07_CheckName.j9 Q (sb l) (i : Int) w := by
  intro m
  have h19 : blanks.length = 19 := rfl
  induction m with
  | zero =>
    intro i hm hi hh
    obtain rfl : i = 19 := by omega
    rw [hh] at hQ
    exact N_r07_CheckName.j9_eq (h := c_nlt (by decide) hQ)
  | succ m ih =>
    intro i hm hi hh
    by_cases hs : i < 19
    · refine N_r07_CheckName.j9_eq (h := c_lt (by omega) ⟨by omega, by omega, ?_⟩)
      have hv : blanks[i]? = some blanks[i] := List.getElem?_eq_getElem (by omega)
      have hc := bl i _ hv
      have ha : (⟨0, 0, none⟩ : Addr).add (Int.toNat (i : Int) * 1) = ⟨0, i, none⟩ := by
        rw [Int.toNat_natCast, Nat.mul_one, Addr.add_lit, Nat.zero_add]
      rw [ha, hc, opnS_s]
      refine holds_word (by omega) (blank_len hv) ?_
      rw [opnB_s]
      have hd : blanks.drop i = blanks[i] :: blanks.drop (i + 1) := (List.getElem_cons_drop (h := by omega)).symm
      rw [hd, List.any_cons] at hh
      cases hp : holdsB blanks[i] l with
      | true =>
        rw [hp, Bool.true_or] at hh
        rw [hh, if_pos rfl] at hQ
        exact hQ
      | false =>
        rw [hp, Bool.false_or] at hh
        show N_r07_CheckName.j9 Q _ _ w
        rw [wrap_nat (by omega)]
        exact ih (i + 1) (by omega) (by omega) hh
    · obtain rfl : i = 19 := by omega
      rw [hh] at hQ
      exact N_r07_CheckName.j9_eq (h := c_nlt (by decide) hQ)
theorem by_loop {l : List UInt8} (hl : l.length ≤ 100) (bl : Blanks w) (hQ : Q (.int .i64 (if refused l = true then 70 else 0)) w) :
    ∀ (m i : Nat), l.length - i ≤ m → i ≤ l.length → l.any badByte = (l.drop i).any badByte → N_r07_CheckName.j4 Q (sb l) (i : Int) w := by
  intro m
  rw [refused_any] at hQ
  have stop : ∀ i, l.length ≤ i → l.any badByte = (l.drop i).any badByte → N_r07_CheckName.j4 Q (sb l) (i : Int) w := fun i h hh => by
    rw [hh, List.drop_eq_nil_of_le h] at hQ
    refine N_r07_CheckName.j4_eq (h := ?_)
    rw [sb_size]
    exact c_nlt (by omega) (bl_loop hl bl hQ _ 0 (Nat.le_refl _) (Nat.zero_le _) rfl)
  induction m with
  | zero => intro i hm hi hh; exact stop i (by omega) hh
  | succ m ih =>
    intro i hm hi hh
    by_cases hs : i < l.length
    · refine N_r07_CheckName.j4_eq (h := ?_)
      have hd : l.drop i = l[i] :: l.drop (i + 1) := (List.getElem_cons_drop (h := by omega)).symm
      have hn : nb l i = l[i].toNat := by unfold nb; rw [List.getD_eq_getElem?_getD, List.getElem?_eq_getElem hs]; rfl
      rw [hd, List.any_cons] at hh
      have bad : badByte l[i] = true → N_r07_CheckName.j7 Q w := fun h => by
        rw [h, Bool.true_or] at hh
        rw [hh, Bool.true_or, if_pos rfl] at hQ
        exact N_r07_CheckName.j7_eq (h := hQ)
      unfold badByte at bad hh
      rw [← hn] at bad hh
      rw [sb_size, bt_sb, Int.toNat_natCast]
      refine c_lt (by omega) ⟨by omega, by omega, ?_⟩
      by_cases h1 : nb l i ≤ 32
      · exact c_le (by omega) (bad (by rw [decide_eq_true h1]; rfl))
      refine c_nle (by omega) ⟨by omega, by omega, ?_⟩
      by_cases h2 : nb l i = 43
      · exact c_eq (by omega) (bad (by rw [beq_iff_eq.2 h2]; simp))
      refine c_neq (by omega) ⟨by omega, by omega, ?_⟩
      by_cases h3 : nb l i = 127
      · exact c_eq (by omega) (bad (by rw [beq_iff_eq.2 h3]; simp))
      refine c_neq (by omega) ?_
      rw [decide_eq_false h1, beq_eq_false_iff_ne.2 h2, beq_eq_false_iff_ne.2 h3] at hh
      rw [wrap_nat (by omega)]
      exact ih (i + 1) (by omega) (by omega) hh
    · exact stop i (by omega) hh
theorem rname_word {l : List UInt8} (bl : Blanks w) (hQ : Q (.int .i64 (nameE l)) w) : C_r07_CheckName #[.string (sb l)] w Q := by
  refine C_r07_CheckName_eq _ _ _ ?_
  rw [sb_size]
  have q70 : (l.length = 0 ∨ l.length > 100 ∨ plain l = false ∨ l.contains 43 = true ∨ spaced l = true) → N_r07_CheckName.j2 Q w := fun h => by
    unfold nameE at hQ
    rw [if_pos h] at hQ
    exact N_r07_CheckName.j2_eq (h := hQ)
  by_cases h0 : l.length = 0
  · exact c_lt (by omega) (q70 (.inl h0))
  refine c_nlt (by omega) ?_
  by_cases h1 : l.length > 100
  · exact c_gt (by omega) (q70 (.inr (.inl h1)))
  refine c_ngt (by omega) (rplain_word (opnI_s ?_))
  unfold plainE
  rw [if_neg (by omega)]
  cases hp : plain l with
  | false =>
    rw [if_neg Bool.false_ne_true]
    exact c_ne (by decide) (q70 (.inr (.inr (.inl hp))))
  | true =>
    rw [if_pos rfl]
    refine c_nne rfl (by_loop (by omega) bl ?_ _ 0 (Nat.le_refl _) (Nat.zero_le _) rfl)
    rw [refused_eq _ l (Nat.le_refl _) hp]
    unfold nameE at hQ
    rw [hp] at hQ
    cases hc : l.contains 43 <;> cases hs : spaced l <;> rw [hc, hs] at hQ <;> simpa [h0, h1] using hQ

/-! ### NoteNames -/
end
end Go.Proofs.YtedioondfbnfjaaGreatDoor
/-! ## ShU4 -/
set_option maxRecDepth 10000
namespace Go.Sh.B64
def lets : List UInt8 := [65, 66, 67, 68, 69, 70, 71, 72, 73, 74, 75, 76, 77, 78, 79, 80, 81, 82, 83, 84, 85, 86, 87, 88, 89, 90, 97, 98, 99, 100, 101, 102, 103, 104, 105, 106, 107, 108, 109, 110, 111, 112, 113, 114, 115, 116, 117, 118, 119, 120, 121, 122, 48, 49, 50, 51, 52, 53, 54, 55, 56, 57, 43, 47]
def L (n : Nat) : UInt8 := lets.getD n 0
/-- what a letter stands for -/
def V (c : UInt8) : Option Nat :=
  if 65 ≤ c.toNat ∧ c.toNat ≤ 90 then some (c.toNat - 65)
  else if 97 ≤ c.toNat ∧ c.toNat ≤ 122 then some (c.toNat - 97 + 26)
  else if 48 ≤ c.toNat ∧ c.toNat ≤ 57 then some (c.toNat - 48 + 52)
  else if c.toNat = 43 then some 62 else if c.toNat = 47 then some 63 else none
theorem V_L_all : ∀ n : _root_.Fin 64, V (L n.val) = some n.val := by decide
theorem V_L {n : Nat} (h : n < 64) : V (L n) = some n := V_L_all ⟨n, h⟩
theorem L_V_all : ∀ c : _root_.Fin 256, ∀ v, V (UInt8.ofNat c.val) = some v → v < 64 ∧ L v = UInt8.ofNat c.val := by
  have h : ∀ c : _root_.Fin 256, (match V (UInt8.ofNat c.val) with | some v => decide (v < 64 ∧ L v = UInt8.ofNat c.val) | none => true) = true := by decide
  intro c v hv
  have := h c
  rw [hv] at this
  exact of_decide_eq_true this
theorem L_V {c : UInt8} {v : Nat} (h : V c = some v) : v < 64 ∧ L v = c := by
  have := L_V_all ⟨c.toNat, c.toNat_lt⟩ v (by simpa using h)
  simpa using this
theorem V_pad : V 61 = none := rfl
def B (n : Nat) : UInt8 := UInt8.ofNat n
theorem B_nat {n : Nat} (h : n < 256) : (B n).toNat = n := by unfold B; rw [UInt8.toNat_ofNat']; omega
theorem B_of (c : UInt8) {n : Nat} (h : n = c.toNat) : B n = c := by subst h; unfold B; simp

def enc : List UInt8 → List UInt8
  | a :: b :: c :: r => L (a.toNat / 4) :: L (a.toNat % 4 * 16 + b.toNat / 16) :: L (b.toNat % 16 * 4 + c.toNat / 64) :: L (c.toNat % 64) :: enc r
  | [a, b] => [L (a.toNat / 4), L (a.toNat % 4 * 16 + b.toNat / 16), L (b.toNat % 16 * 4), 61]
  | [a] => [L (a.toNat / 4), L (a.toNat % 4 * 16), 61, 61]
  | [] => []
/-- the bytes of these values, and the bits left over -/
def decV : List Nat → List UInt8 × Nat
  | v1 :: v2 :: v3 :: v4 :: r => (B (v1 * 4 + v2 / 16) :: B (v2 % 16 * 16 + v3 / 4) :: B (v3 % 4 * 64 + v4) :: (decV r).1, (decV r).2)
  | [v1, v2, v3] => ([B (v1 * 4 + v2 / 16), B (v2 % 16 * 16 + v3 / 4)], v3 % 4)
  | [v1, v2] => ([B (v1 * 4 + v2 / 16)], v2 % 16)
  | [v1] => ([], v1)
  | [] => ([], 0)
theorem enc_len : ∀ (n : Nat) (l : List UInt8), l.length ≤ n → (enc l).length = (l.length + 2) / 3 * 4 := by
  intro n
  induction n with
  | zero => intro l h; have : l = [] := List.eq_nil_of_length_eq_zero (by omega); subst this; rfl
  | succ n ih =>
    intro l h
    match l, h with
    | [], _ => rfl
    | [a], _ => simp [enc]
    | [a, b], _ => simp [enc]
    | a :: b :: c :: r, h =>
      have := ih r (by simp at h; omega)
      simp only [enc, List.length_cons, this]
      omega
theorem filter4 {x y z t : UInt8} {a b c d : Nat} {l : List UInt8} (h1 : V x = some a) (h2 : V y = some b) (h3 : V z = some c) (h4 : V t = some d) : (x :: y :: z :: t :: l).filterMap V = a :: b :: c :: d :: l.filterMap V := by
  rw [List.filterMap_cons_some h1, List.filterMap_cons_some h2, List.filterMap_cons_some h3, List.filterMap_cons_some h4]
/-- the bytes come back -/
theorem dec_enc : ∀ (n : Nat) (l : List UInt8), l.length ≤ n → decV ((enc l).filterMap V) = (l, 0) := by
  intro n
  induction n with
  | zero => intro l h; have : l = [] := List.eq_nil_of_length_eq_zero (by omega); subst this; rfl
  | succ n ih =>
    intro l h
    match l, h with
    | [], _ => rfl
    | [a], _ =>
      have ha := a.toNat_lt
      show decV ([L (a.toNat / 4), L (a.toNat % 4 * 16), 61, 61].filterMap V) = _
      rw [List.filterMap_cons_some (V_L (by omega)), List.filterMap_cons_some (V_L (by omega)), List.filterMap_cons_none V_pad, List.filterMap_cons_none V_pad]
      show ([B _], _) = _
      rw [B_of a (by omega), show a.toNat % 4 * 16 % 16 = 0 by omega]
    | [a, b], _ =>
      have ha := a.toNat_lt; have hb := b.toNat_lt
      show decV ([L (a.toNat / 4), L (a.toNat % 4 * 16 + b.toNat / 16), L (b.toNat % 16 * 4), 61].filterMap V) = _
      rw [List.filterMap_cons_some (V_L (by omega)), List.filterMap_cons_some (V_L (by omega)), List.filterMap_cons_some (V_L (by omega)), List.filterMap_cons_none V_pad]
      show ([B _, B _], _) = _
      rw [B_of a (by omega), B_of b (by omega), show b.toNat % 16 * 4 % 4 = 0 by omega]
    | a :: b :: c :: r, h =>
      have ha := a.toNat_lt; have hb := b.toNat_lt; have hc := c.toNat_lt
      show decV ((L (a.toNat / 4) :: L (a.toNat % 4 * 16 + b.toNat / 16) :: L (b.toNat % 16 * 4 + c.toNat / 64) :: L (c.toNat % 64) :: enc r).filterMap V) = _
      rw [filter4 (V_L (by omega)) (V_L (by omega)) (V_L (by omega)) (V_L (by omega))]
      show (B _ :: B _ :: B _ :: (decV ((enc r).filterMap V)).1, (decV ((enc r).filterMap V)).2) = _
      rw [ih r (by simp at h; omega), B_of a (by omega), B_of b (by omega), B_of c (by omega)]
/-- and the letters -/
theorem enc_dec : ∀ (n : Nat) (vs : List Nat), vs.length ≤ n → (∀ v ∈ vs, v < 64) → vs.length % 4 ≠ 1 → (decV vs).2 = 0 → enc (decV vs).1 = vs.map L ++ List.replicate ((4 - vs.length % 4) % 4) 61 := by
  intro n
  induction n with
  | zero => intro vs h; have : vs = [] := List.eq_nil_of_length_eq_zero (by omega); subst this; intros; rfl
  | succ n ih =>
    intro vs h hv h1 h0
    match vs, h, hv, h1, h0 with
    | [], _, _, _, _ => rfl
    | [v], _, _, h1, _ => exact absurd rfl h1
    | [v1, v2], _, hv, _, h0 =>
      have g1 := hv v1 (by simp); have g2 := hv v2 (by simp)
      have h0' : v2 % 16 = 0 := h0
      show [L ((B (v1 * 4 + v2 / 16)).toNat / 4), L ((B (v1 * 4 + v2 / 16)).toNat % 4 * 16), 61, 61] = [L v1, L v2, 61, 61]
      rw [B_nat (by omega), show (v1 * 4 + v2 / 16) / 4 = v1 by omega, show (v1 * 4 + v2 / 16) % 4 * 16 = v2 by omega]
    | [v1, v2, v3], _, hv, _, h0 =>
      have g1 := hv v1 (by simp); have g2 := hv v2 (by simp); have g3 := hv v3 (by simp)
      have h0' : v3 % 4 = 0 := h0
      show [L ((B (v1 * 4 + v2 / 16)).toNat / 4), L ((B (v1 * 4 + v2 / 16)).toNat % 4 * 16 + (B (v2 % 16 * 16 + v3 / 4)).toNat / 16), L ((B (v2 % 16 * 16 + v3 / 4)).toNat % 16 * 4), 61] = [L v1, L v2, L v3, 61]
      rw [B_nat (by omega), B_nat (by omega), show (v1 * 4 + v2 / 16) / 4 = v1 by omega, show (v1 * 4 + v2 / 16) % 4 * 16 + (v2 % 16 * 16 + v3 / 4) / 16 = v2 by omega, show (v2 % 16 * 16 + v3 / 4) % 16 * 4 = v3 by omega]
    | v1 :: v2 :: v3 :: v4 :: r, h, hv, h1, h0 =>
      have g1 := hv v1 (by simp); have g2 := hv v2 (by simp); have g3 := hv v3 (by simp); have g4 := hv v4 (by simp)
      have IH := ih r (by simp at h; omega) (fun v h => hv v (by simp [h])) (by simp at h1; omega) h0
      show L ((B (v1 * 4 + v2 / 16)).toNat / 4) :: L ((B (v1 * 4 + v2 / 16)).toNat % 4 * 16 + (B (v2 % 16 * 16 + v3 / 4)).toNat / 16) :: L ((B (v2 % 16 * 16 + v3 / 4)).toNat % 16 * 4 + (B (v3 % 4 * 64 + v4)).toNat / 64) :: L ((B (v3 % 4 * 64 + v4)).toNat % 64) :: enc (decV r).1 = L v1 :: L v2 :: L v3 :: L v4 :: (r.map L ++ List.replicate ((4 - (r.length + 4) % 4) % 4) 61)
      rw [IH, B_nat (by omega), B_nat (by omega), B_nat (by omega), show (v1 * 4 + v2 / 16) / 4 = v1 by omega, show (v1 * 4 + v2 / 16) % 4 * 16 + (v2 % 16 * 16 + v3 / 4) / 16 = v2 by omega, show (v2 % 16 * 16 + v3 / 4) % 16 * 4 + (v3 % 4 * 64 + v4) / 64 = v3 by omega, show (v3 % 4 * 64 + v4) % 64 = v4 by omega, Nat.add_mod_right]
/-! ### taking it, strictly and loosely -/
abbrev trim (s : List UInt8) : List UInt8 := Lib.trimSuffix s [61]
theorem trim_pad (l : List UInt8) : trim (l ++ [61]) = l := by
  unfold trim Lib.trimSuffix Lib.hasSuffix
  rw [if_pos (List.isSuffixOf_iff_suffix.2 (List.suffix_append l [61]))]
  simp
theorem trim_no {l : List UInt8} (h : ∀ m, l ≠ m ++ [61]) : trim l = l := by
  unfold trim Lib.trimSuffix Lib.hasSuffix
  rw [if_neg]
  intro g
  obtain ⟨m, hm⟩ := List.isSuffixOf_iff_suffix.1 g
  exact h m hm.symm
theorem trim_two (s : List UInt8) : ∃ p, p ≤ 2 ∧ s = trim (trim s) ++ List.replicate p 61 := by
  by_cases h : ∃ m, s = m ++ [61]
  · obtain ⟨m, rfl⟩ := h
    rw [trim_pad]
    by_cases g : ∃ k, m = k ++ [61]
    · obtain ⟨k, rfl⟩ := g
      rw [trim_pad]
      exact ⟨2, by decide, by rw [List.append_assoc]; rfl⟩
    · rw [trim_no (fun k e => g ⟨k, e⟩)]
      exact ⟨1, by decide, rfl⟩
  · rw [trim_no (fun m e => h ⟨m, e⟩), trim_no (fun m e => h ⟨m, e⟩)]
    exact ⟨0, by decide, by simp⟩
theorem trim_form {vs : List Nat} (hv : ∀ v ∈ vs, v < 64) {q : Nat} (hq : q ≤ 2) : trim (trim (vs.map L ++ List.replicate q 61)) = vs.map L := by
  have no : ∀ m, vs.map L ≠ m ++ [61] := by
    intro m e
    have hm : (61 : UInt8) ∈ vs.map L := by rw [e]; simp
    obtain ⟨v, h1, h2⟩ := List.mem_map.1 hm
    have := V_L (hv v h1)
    rw [h2] at this
    cases this
  match q, hq with
  | 0, _ => rw [List.replicate_zero, List.append_nil, trim_no no, trim_no no]
  | 1, _ => rw [show List.replicate 1 (61 : UInt8) = [61] from rfl, trim_pad, trim_no no]
  | 2, _ => rw [show List.replicate 2 (61 : UInt8) = [61] ++ [61] from rfl, ← List.append_assoc, trim_pad, trim_pad]
theorem vals_map {vs : List Nat} (hv : ∀ v ∈ vs, v < 64) : (vs.map L).filterMap V = vs := by
  induction vs with
  | nil => rfl
  | cons v vs ih =>
    rw [List.map_cons, List.filterMap_cons_some (V_L (hv v (by simp))), ih (fun x h => hv x (by simp [h]))]
theorem vals_pad (l : List UInt8) (q : Nat) : (l ++ List.replicate q 61).filterMap V = l.filterMap V := by
  rw [List.filterMap_append]
  have : (List.replicate q (61 : UInt8)).filterMap V = [] := by
    induction q with
    | zero => rfl
    | succ q ih => rw [List.replicate_succ, List.filterMap_cons_none V_pad, ih]
  rw [this, List.append_nil]
theorem vals_lt (l : List UInt8) : ∀ v ∈ l.filterMap V, v < 64 := by
  intro v h
  obtain ⟨c, _, hc⟩ := List.mem_filterMap.1 h
  exact (L_V hc).1
/-- every byte is a letter -/
def allL (l : List UInt8) : Bool := l.all fun c => (V c).isSome
theorem map_vals {l : List UInt8} (h : allL l = true) : (l.filterMap V).map L = l := by
  induction l with
  | nil => rfl
  | cons c r ih =>
    unfold allL at h
    rw [List.all_cons, Bool.and_eq_true] at h
    obtain ⟨v, hv⟩ := Option.isSome_iff_exists.1 h.1
    rw [List.filterMap_cons_some hv, List.map_cons, (L_V hv).2, ih h.2]
theorem allL_map {vs : List Nat} (hv : ∀ v ∈ vs, v < 64) : allL (vs.map L) = true := by
  unfold allL
  rw [List.all_eq_true]
  intro c hc
  obtain ⟨v, h1, rfl⟩ := List.mem_map.1 hc
  rw [V_L (hv v h1)]; rfl
theorem enc_form : ∀ (n : Nat) (l : List UInt8), l.length ≤ n → ∃ (vs : List Nat) (q : Nat), (∀ v ∈ vs, v < 64) ∧ q ≤ 2 ∧ enc l = vs.map L ++ List.replicate q 61 := by
  intro n
  induction n with
  | zero => intro l h; have : l = [] := List.eq_nil_of_length_eq_zero (by omega); subst this; exact ⟨[], 0, by simp, by decide, rfl⟩
  | succ n ih =>
    intro l h
    match l, h with
    | [], _ => exact ⟨[], 0, by simp, by decide, rfl⟩
    | [a], _ =>
      have ha := a.toNat_lt
      exact ⟨[a.toNat / 4, a.toNat % 4 * 16], 2, by intro v hv; simp at hv; omega, by decide, rfl⟩
    | [a, b], _ =>
      have ha := a.toNat_lt; have hb := b.toNat_lt
      exact ⟨[a.toNat / 4, a.toNat % 4 * 16 + b.toNat / 16, b.toNat % 16 * 4], 1, by intro v hv; simp at hv; omega, by decide, rfl⟩
    | a :: b :: c :: r, h =>
      have ha := a.toNat_lt; have hb := b.toNat_lt; have hc := c.toNat_lt
      obtain ⟨vs, q, h1, h2, h3⟩ := ih r (by simp at h; omega)
      exact ⟨(a.toNat / 4) :: (a.toNat % 4 * 16 + b.toNat / 16) :: (b.toNat % 16 * 4 + c.toNat / 64) :: (c.toNat % 64) :: vs, q, by
        intro v hv
        simp only [List.mem_cons] at hv
        rcases hv with hv | hv | hv | hv | hv
        · omega
        · omega
        · omega
        · omega
        · exact h1 v hv, h2, by
        show _ :: _ :: _ :: _ :: enc r = _
        rw [h3]; rfl⟩
def strict (s : List UInt8) : Option (List UInt8) :=
  if s.length % 4 ≠ 0 then none
  else if allL (trim (trim s)) = true ∧ (decV ((trim (trim s)).filterMap V)).2 = 0 then some (decV ((trim (trim s)).filterMap V)).1 else none
def loose (s : List UInt8) : Option (List UInt8) :=
  if enc (decV (s.filterMap V)).1 = s then some (decV (s.filterMap V)).1 else none
theorem strict_enc (x : List UInt8) : strict (enc x) = some x := by
  unfold strict
  have hl := enc_len _ x (Nat.le_refl _)
  obtain ⟨vs, q, h1, h2, h3⟩ := enc_form _ x (Nat.le_refl _)
  have hd := dec_enc _ x (Nat.le_refl _)
  rw [h3, vals_pad, vals_map h1] at hd
  rw [if_neg (by omega), h3, trim_form h1 h2, vals_map h1, hd, if_pos ⟨allL_map h1, rfl⟩]
theorem strict_some {s x : List UInt8} (h : strict s = some x) : s = enc x := by
  unfold strict at h
  split at h
  · cases h
  · rename_i hl
    split at h
    · rename_i g
      cases h
      obtain ⟨p, hp, hs⟩ := trim_two s
      generalize trim (trim s) = body at *
      have hm := map_vals g.1
      have hlen : (body.filterMap V).length = body.length := by
        have := congrArg List.length hm
        rw [List.length_map] at this
        exact this
      have hsl : s.length = body.length + p := by rw [hs]; simp
      have he := enc_dec _ (body.filterMap V) (Nat.le_refl _) (vals_lt body) (by omega) g.2
      rw [he, hm, hlen, show (4 - body.length % 4) % 4 = p by omega]
      exact hs
    · cases h
theorem loose_eq (s : List UInt8) : loose s = strict s := by
  cases h : strict s with
  | some x =>
    have hs := strict_some h
    unfold loose
    rw [hs, dec_enc _ x (Nat.le_refl _), if_pos rfl]
  | none =>
    unfold loose
    split
    · rename_i g
      have := strict_enc (decV (s.filterMap V)).1
      rw [g, h] at this
      cases this
    · rfl
end Go.Sh.B64
/-! ## ShU5 -/
set_option maxRecDepth 10000
namespace Go.Sh.B64
def bits8 (n : Nat) : List Nat := [n / 128 % 2, n / 64 % 2, n / 32 % 2, n / 16 % 2, n / 8 % 2, n / 4 % 2, n / 2 % 2, n % 2]
def bitsL (l : List UInt8) : List Nat := l.flatMap fun c => bits8 c.toNat
def val6 : List Nat → Nat
  | [a, b, c, d, e, f] => 2 * (2 * (2 * (2 * (2 * a + b) + c) + d) + e) + f
  | _ => 0
def chunk : List Nat → List UInt8
  | a :: b :: c :: d :: e :: f :: r => L (2 * (2 * (2 * (2 * (2 * a + b) + c) + d) + e) + f) :: chunk r
  | _ => []
def pad6 (l : List Nat) : List Nat := l ++ List.replicate ((6 - l.length % 6) % 6) 0
def pad4 (l : List UInt8) : List UInt8 := l ++ List.replicate ((4 - l.length % 4) % 4) 61
theorem hi6 (a : Nat) (h : a < 256) : 2 * (2 * (2 * (2 * (2 * (a / 128 % 2) + a / 64 % 2) + a / 32 % 2) + a / 16 % 2) + a / 8 % 2) + a / 4 % 2 = a / 4 := by omega
theorem hi4 (b : Nat) (h : b < 256) : 8 * (b / 128 % 2) + 4 * (b / 64 % 2) + 2 * (b / 32 % 2) + b / 16 % 2 = b / 16 := by omega
theorem hi2 (c : Nat) (h : c < 256) : 2 * (c / 128 % 2) + c / 64 % 2 = c / 64 := by omega
theorem lo2 (a : Nat) : 2 * (a / 2 % 2) + a % 2 = a % 4 := by omega
theorem lo4 (b : Nat) : 8 * (b / 8 % 2) + 4 * (b / 4 % 2) + 2 * (b / 2 % 2) + b % 2 = b % 16 := by omega
theorem lo6 (c : Nat) : 2 * (2 * (2 * (2 * (2 * (c / 32 % 2) + c / 16 % 2) + c / 8 % 2) + c / 4 % 2) + c / 2 % 2) + c % 2 = c % 64 := by omega
theorem two6 (a b : Nat) (h : b < 256) : 2 * (2 * (2 * (2 * (2 * (a / 2 % 2) + a % 2) + b / 128 % 2) + b / 64 % 2) + b / 32 % 2) + b / 16 % 2 = a % 4 * 16 + b / 16 := by
  have := lo2 a; have := hi4 b h; omega
theorem four6 (b c : Nat) (h : c < 256) : 2 * (2 * (2 * (2 * (2 * (b / 8 % 2) + b / 4 % 2) + b / 2 % 2) + b % 2) + c / 128 % 2) + c / 64 % 2 = b % 16 * 4 + c / 64 := by
  have := lo4 b; have := hi2 c h; omega
theorem bitsL_len (l : List UInt8) : (bitsL l).length = 8 * l.length := by
  unfold bitsL
  induction l with
  | nil => rfl
  | cons c r ih => rw [List.flatMap_cons, List.length_append, ih, List.length_cons]; show 8 + _ = _; omega
theorem renc : ∀ (n : Nat) (l : List UInt8), l.length ≤ n → pad4 (chunk (pad6 (bitsL l))) = enc l := by
  intro n
  induction n with
  | zero => intro l h; have : l = [] := List.eq_nil_of_length_eq_zero (by omega); subst this; rfl
  | succ n ih =>
    intro l h
    match l, h with
    | [], _ => rfl
    | [a], _ =>
      have ha := a.toNat_lt
      have e1 : pad6 (bitsL [a]) = bits8 a.toNat ++ [0, 0, 0, 0] := by simp [pad6, bitsL, bits8]
      have e2 : chunk (bits8 a.toNat ++ [0, 0, 0, 0]) = [L (a.toNat / 4), L (a.toNat % 4 * 16)] := by
        simp only [bits8, List.cons_append, List.nil_append, chunk]
        rw [hi6 _ ha, show 2 * (2 * (2 * (2 * (2 * (a.toNat / 2 % 2) + a.toNat % 2) + 0) + 0) + 0) + 0 = a.toNat % 4 * 16 by have := lo2 a.toNat; omega]
      rw [e1, e2]
      simp [pad4, enc]
    | [a, b], _ =>
      have ha := a.toNat_lt; have hb := b.toNat_lt
      have e1 : pad6 (bitsL [a, b]) = bits8 a.toNat ++ (bits8 b.toNat ++ [0, 0]) := by simp [pad6, bitsL, bits8]
      have e2 : chunk (bits8 a.toNat ++ (bits8 b.toNat ++ [0, 0])) = [L (a.toNat / 4), L (a.toNat % 4 * 16 + b.toNat / 16), L (b.toNat % 16 * 4)] := by
        simp only [bits8, List.cons_append, List.nil_append, chunk]
        rw [hi6 _ ha, two6 _ _ hb, show 2 * (2 * (2 * (2 * (2 * (b.toNat / 8 % 2) + b.toNat / 4 % 2) + b.toNat / 2 % 2) + b.toNat % 2) + 0) + 0 = b.toNat % 16 * 4 by have := lo4 b.toNat; omega]
      rw [e1, e2]
      simp [pad4, enc]
    | a :: b :: c :: r, h =>
      have ha := a.toNat_lt; have hb := b.toNat_lt; have hc := c.toNat_lt
      have IH := ih r (by simp at h; omega)
      have hp : pad6 (bitsL (a :: b :: c :: r)) = bits8 a.toNat ++ (bits8 b.toNat ++ (bits8 c.toNat ++ pad6 (bitsL r))) := by
        unfold pad6
        rw [bitsL_len, bitsL_len, show (6 - 8 * (a :: b :: c :: r).length % 6) % 6 = (6 - 8 * r.length % 6) % 6 by simp only [List.length_cons]; omega]
        simp only [bitsL, List.flatMap_cons, List.append_assoc]
      rw [hp]
      have hk : chunk (bits8 a.toNat ++ (bits8 b.toNat ++ (bits8 c.toNat ++ pad6 (bitsL r)))) = L (a.toNat / 4) :: L (a.toNat % 4 * 16 + b.toNat / 16) :: L (b.toNat % 16 * 4 + c.toNat / 64) :: L (c.toNat % 64) :: chunk (pad6 (bitsL r)) := by
        show L _ :: L _ :: L _ :: L _ :: chunk (pad6 (bitsL r)) = _
        rw [hi6 _ ha, two6 _ _ hb, four6 _ _ hc, lo6]
      rw [hk]
      show _ = L (a.toNat / 4) :: L (a.toNat % 4 * 16 + b.toNat / 16) :: L (b.toNat % 16 * 4 + c.toNat / 64) :: L (c.toNat % 64) :: enc r
      rw [← IH]
      unfold pad4
      simp only [List.length_cons, List.cons_append]
      rw [show ((chunk (pad6 (bitsL r))).length + 1 + 1 + 1 + 1) % 4 = (chunk (pad6 (bitsL r))).length % 4 by omega]
/-! ### letter by letter -/
/-- bits held back, and how many of them -/
def run (bits held : Nat) : List Nat → List UInt8 × Nat
  | [] => ([], bits)
  | v :: r => if held + 6 ≥ 8 then (B ((bits * 64 + v) / 2 ^ (held - 2) % 256) :: (run ((bits * 64 + v) % 2 ^ (held - 2)) (held - 2) r).1, (run ((bits * 64 + v) % 2 ^ (held - 2)) (held - 2) r).2) else run (bits * 64 + v) (held + 6) r
theorem run_eq : ∀ (n : Nat) (vs : List Nat), vs.length ≤ n → (∀ v ∈ vs, v < 64) → run 0 0 vs = decV vs := by
  intro n
  induction n with
  | zero => intro vs h _; have : vs = [] := List.eq_nil_of_length_eq_zero (by omega); subst this; rfl
  | succ n ih =>
    intro vs h hv
    have two : ∀ v1 v2 : Nat, v1 < 64 → v2 < 64 → ((0 * 64 + v1) * 64 + v2) / 2 ^ 4 % 256 = v1 * 4 + v2 / 16 ∧ ((0 * 64 + v1) * 64 + v2) % 2 ^ 4 = v2 % 16 := by intro v1 v2 h1 h2; omega
    have three : ∀ v2 v3 : Nat, v3 < 64 → (v2 % 16 * 64 + v3) / 2 ^ 2 % 256 = v2 % 16 * 16 + v3 / 4 ∧ (v2 % 16 * 64 + v3) % 2 ^ 2 = v3 % 4 := by intro v2 v3 h3; omega
    have four : ∀ v3 v4 : Nat, v4 < 64 → (v3 % 4 * 64 + v4) / 2 ^ 0 % 256 = v3 % 4 * 64 + v4 ∧ (v3 % 4 * 64 + v4) % 2 ^ 0 = 0 := by intro v3 v4 h4; omega
    match vs, h, hv with
    | [], _, _ => rfl
    | [v1], _, _ => simp [run, decV]
    | [v1, v2], _, hv =>
      obtain ⟨e1, e2⟩ := two v1 v2 (hv v1 (by simp)) (hv v2 (by simp))
      show ([B (((0 * 64 + v1) * 64 + v2) / 2 ^ 4 % 256)], ((0 * 64 + v1) * 64 + v2) % 2 ^ 4) = _
      rw [e1, e2]; rfl
    | [v1, v2, v3], _, hv =>
      obtain ⟨e1, e2⟩ := two v1 v2 (hv v1 (by simp)) (hv v2 (by simp))
      obtain ⟨e3, e4⟩ := three v2 v3 (hv v3 (by simp))
      show ([B (((0 * 64 + v1) * 64 + v2) / 2 ^ 4 % 256), B (((((0 * 64 + v1) * 64 + v2) % 2 ^ 4) * 64 + v3) / 2 ^ 2 % 256)], ((((0 * 64 + v1) * 64 + v2) % 2 ^ 4) * 64 + v3) % 2 ^ 2) = _
      rw [e1, e2, e3, e4]; rfl
    | v1 :: v2 :: v3 :: v4 :: r, h, hv =>
      obtain ⟨e1, e2⟩ := two v1 v2 (hv v1 (by simp)) (hv v2 (by simp))
      obtain ⟨e3, e4⟩ := three v2 v3 (hv v3 (by simp))
      obtain ⟨e5, e6⟩ := four v3 v4 (hv v4 (by simp))
      have IH := ih r (by simp at h; omega) (fun v h => hv v (by simp [h]))
      have hrun : run 0 0 (v1 :: v2 :: v3 :: v4 :: r) = (B (v1 * 4 + v2 / 16) :: B (v2 % 16 * 16 + v3 / 4) :: B (v3 % 4 * 64 + v4) :: (run 0 0 r).1, (run 0 0 r).2) := by
        have s1 : run 0 0 (v1 :: v2 :: v3 :: v4 :: r) = run (0 * 64 + v1) 6 (v2 :: v3 :: v4 :: r) := rfl
        have s2 : ∀ b, run b 6 (v2 :: v3 :: v4 :: r) = (B ((b * 64 + v2) / 2 ^ 4 % 256) :: (run ((b * 64 + v2) % 2 ^ 4) 4 (v3 :: v4 :: r)).1, (run ((b * 64 + v2) % 2 ^ 4) 4 (v3 :: v4 :: r)).2) := fun _ => rfl
        have s3 : ∀ b, run b 4 (v3 :: v4 :: r) = (B ((b * 64 + v3) / 2 ^ 2 % 256) :: (run ((b * 64 + v3) % 2 ^ 2) 2 (v4 :: r)).1, (run ((b * 64 + v3) % 2 ^ 2) 2 (v4 :: r)).2) := fun _ => rfl
        have s4 : ∀ b, run b 2 (v4 :: r) = (B ((b * 64 + v4) / 2 ^ 0 % 256) :: (run ((b * 64 + v4) % 2 ^ 0) 0 r).1, (run ((b * 64 + v4) % 2 ^ 0) 0 r).2) := fun _ => rfl
        rw [s1, s2, s3, s4, e1, e2, e3, e4, e5, e6]
      rw [hrun, IH]; rfl
/-- the same without taking the upper bits away -/
def runL (n held : Nat) : List Nat → List UInt8
  | [] => []
  | v :: r => if held + 6 ≥ 8 then B ((n % 256 * 64 + v) / 2 ^ (held - 2) % 256) :: runL (n % 256 * 64 + v) (held - 2) r else runL (n % 256 * 64 + v) (held + 6) r
theorem runL_eq : ∀ (vs : List Nat) (n held : Nat), (held = 0 ∨ held = 2 ∨ held = 4 ∨ held = 6) → (∀ v ∈ vs, v < 64) → runL n held vs = (run (n % 2 ^ held) held vs).1 := by
  intro vs
  induction vs with
  | nil => intros; rfl
  | cons v r ih =>
    intro n held hh hv
    have h1 := hv v (by simp)
    have hr : ∀ v ∈ r, v < 64 := fun x h => hv x (by simp [h])
    unfold runL run
    rcases hh with rfl | rfl | rfl | rfl
    · rw [if_neg (by decide), if_neg (by decide), ih _ _ (by simp) hr]
      rw [show (n % 256 * 64 + v) % 2 ^ (0 + 6) = n % 2 ^ 0 * 64 + v by omega]
    · rw [if_pos (by decide), if_pos (by decide), ih _ _ (by simp) hr]
      rw [show (n % 256 * 64 + v) / 2 ^ (2 - 2) % 256 = (n % 2 ^ 2 * 64 + v) / 2 ^ (2 - 2) % 256 by omega, show (n % 256 * 64 + v) % 2 ^ (2 - 2) = (n % 2 ^ 2 * 64 + v) % 2 ^ (2 - 2) by omega]
    · rw [if_pos (by decide), if_pos (by decide), ih _ _ (by simp) hr]
      rw [show (n % 256 * 64 + v) / 2 ^ (4 - 2) % 256 = (n % 2 ^ 4 * 64 + v) / 2 ^ (4 - 2) % 256 by omega, show (n % 256 * 64 + v) % 2 ^ (4 - 2) = (n % 2 ^ 4 * 64 + v) % 2 ^ (4 - 2) by omega]
    · rw [if_pos (by decide), if_pos (by decide), ih _ _ (by simp) hr]
      rw [show (n % 256 * 64 + v) / 2 ^ (6 - 2) % 256 = (n % 2 ^ 6 * 64 + v) / 2 ^ (6 - 2) % 256 by omega, show (n % 256 * 64 + v) % 2 ^ (6 - 2) = (n % 2 ^ 6 * 64 + v) % 2 ^ (6 - 2) by omega]
end Go.Sh.B64
namespace Go.Sh.B64
/-- where c stands first -/
def idx (c : UInt8) : List UInt8 → Nat → Option Nat
  | [], _ => none
  | x :: r, i => if x = c then some i else idx c r (i + 1)
theorem idx_lets_all : ∀ c : _root_.Fin 256, idx (UInt8.ofNat c.val) lets 0 = V (UInt8.ofNat c.val) := by decide +kernel
theorem idx_lets (c : UInt8) : idx c lets 0 = V c := by
  have := idx_lets_all ⟨c.toNat, c.toNat_lt⟩
  simpa using this
def bitsK (x : Nat) : Nat → List Nat
  | 0 => []
  | k + 1 => x / 2 ^ k % 2 :: bitsK x k
theorem bitsK_8 (x : Nat) : bitsK x 8 = bits8 x := by
  unfold bits8
  simp [bitsK]
theorem bits8_lt (x : Nat) : ∀ v ∈ bits8 x, v < 2 := by
  intro v hv
  unfold bits8 at hv
  simp only [List.mem_cons, List.not_mem_nil, or_false] at hv
  rcases hv with h | h | h | h | h | h | h | h <;> (rw [h]; exact Nat.mod_lt _ (by decide))
theorem bitsL_lt (l : List UInt8) : ∀ v ∈ bitsL l, v < 2 := by
  intro v hv
  unfold bitsL at hv
  obtain ⟨c, _, h⟩ := List.mem_flatMap.1 hv
  exact bits8_lt _ v h
theorem pad6_lt {l : List Nat} (h : ∀ v ∈ l, v < 2) : ∀ v ∈ pad6 l, v < 2 := by
  intro v hv
  unfold pad6 at hv
  rcases List.mem_append.1 hv with hv | hv
  · exact h v hv
  · rw [(List.mem_replicate.1 hv).2]; decide
theorem pad6_len (l : List Nat) : (pad6 l).length % 6 = 0 ∧ (pad6 l).length < l.length + 6 := by
  unfold pad6
  rw [List.length_append, List.length_replicate]
  omega
end Go.Sh.B64
/-! ## ShL15 -/
namespace Go.Sh
open Go.ChangeShapes
variable {P : Program}
section
variable {w w' : World} {b t : Nat}
theorem add_zero (a : Addr) : a.add 0 = a := by cases a; simp [Addr.add]
theorem add_at (b o i : Nat) : (⟨b, o, none⟩ : Addr).add i = ⟨b, o + i, none⟩ := Addr.add_lit ..
theorem slP_zero (a : Addr) (m sz : Nat) : slP a 0 m sz = some a := by
  unfold slP
  split
  · rfl
  · rw [Nat.zero_mul, add_zero]
theorem alZ_box {cs : Array Value} (hz : ((P.info? t).bind (·.zero)).map (·.cells) = some cs) {K : Addr → World → Prop} (hK : ∀ b w', Blk w' b t cs.toList → Chg None w w' → w.heap.size ≤ b → K ⟨b, 0, none⟩ w') : alZ P t w K := by
  unfold alZ
  obtain ⟨z, h1, h2⟩ := Option.map_eq_some_iff.1 hz
  rw [h1]
  show K ⟨w.heap.size, 0, none⟩ (w.alloc (.cells z.cells t))
  rw [h2]
  exact hK _ _ blk_alloc (chg_alloc w _) (Nat.le_refl _)
theorem rowFrom_of {a : Addr} : ∀ (l : List Value) (i : Nat), (∀ j v, l[j]? = some v → w.cell? (a.add (i + j)) = some v) → rowFrom w a i l.length = some l
  | [], _, _ => rfl
  | v :: l, i, h => by
    rw [List.length_cons, rowFrom]
    have h0 := h 0 v rfl
    rw [Nat.add_zero] at h0
    rw [h0, rowFrom_of l (i + 1) fun j u hu => by
      have := h (j + 1) u (by simpa using hu)
      rwa [show i + (j + 1) = i + 1 + j by omega] at this]
theorem row_c {a : Addr} {l : List Value} {n : Nat} (hn : l.length = n) (h : ∀ j v, l[j]? = some v → w.cell? (a.add j) = some v) {K : Array Value → Prop} (hK : K l.toArray) : opnRow w a n K := by
  subst hn
  unfold opnRow
  rw [rowFrom_of l 0 fun j v hv => by rw [Nat.zero_add]; exact h j v hv]
  exact hK
/-- a row of a block, read -/
theorem Blk.row {pre l post : List Value} (h : Blk w b t (pre ++ l ++ post)) {o n : Nat} (ho : pre.length = o) (hn : l.length = n) {K : Array Value → Prop} (hK : K l.toArray) : opnRow w ⟨b, o, none⟩ n K :=
  row_c hn (fun j v hv => by
    rw [add_at, h.cell, ← ho, List.append_assoc, List.getElem?_append_right (by omega), Nat.add_sub_cancel_left, List.getElem?_append_left (List.getElem?_eq_some_iff.1 hv).1]
    exact hv) hK
theorem Blk.rowAll {l : List Value} (h : Blk w b t l) {n : Nat} (hn : l.length = n) {K : Array Value → Prop} (hK : K l.toArray) : opnRow w ⟨b, 0, none⟩ n K :=
  Blk.row (pre := []) (post := []) (by simpa using h) rfl hn hK
theorem seg_stL {K : World → Prop} {o : Nat} {post : List Value} : ∀ (vs pre done old : List Value) (w : World), pre.length = o → Blk w b t (pre ++ done ++ old ++ post) → vs.length = old.length → (∀ v ∈ vs, v.oneCell' = true) → (∀ w', Blk w' b t (pre ++ done ++ vs ++ post) → Chg (fun k => k = b) w w' → K w') → stL ⟨b, o, none⟩ done.length vs w K
  | [], pre, done, old, w, _, h, hl, _, hK => by
    have : old = [] := List.eq_nil_of_length_eq_zero hl.symm
    subst this
    exact hK w h (Chg.refl _ _)
  | v :: vs, pre, done, x :: old, w, ho, h, hl, h1, hK => by
    show stC ((⟨b, o, none⟩ : Addr).add done.length) v w fun w' => stL ⟨b, o, none⟩ (done.length + 1) vs w' K
    rw [add_at]
    refine h.store (by simp; omega) (h1 v (by simp)) fun h' k' => ?_
    have e : (pre ++ done ++ x :: old ++ post).set (o + done.length) v = pre ++ (done ++ [v]) ++ old ++ post := by
      have : pre ++ done ++ x :: old ++ post = (pre ++ done) ++ x :: (old ++ post) := by simp
      rw [this, set_mid' (by simp; omega)]; simp
    rw [e] at h'
    have := seg_stL (K := K) vs pre (done ++ [v]) old _ ho h' (by simpa using hl) (fun u hu => h1 u (by simp [hu])) (fun w' hb k => hK w' (by simpa using hb) (Chg.trans k' k (fun _ _ h => h) (fun _ _ h => h)))
    simpa using this
  | _ :: _, _, _, [], _, _, _, hl, _, _ => by simp at hl
/-- a row of a block, written -/
theorem Blk.stRow {pre old post : List Value} (h : Blk w b t (pre ++ old ++ post)) {o n : Nat} (ho : pre.length = o) {cs : Array Value} (hn : cs.size = n) (hl : cs.size = old.length) (h1 : cs.toList.all Value.oneCell' = true) {K : World → Prop} (hK : ∀ w', Blk w' b t (pre ++ cs.toList ++ post) → Chg (fun k => k = b) w w' → K w') : Sh.stRow ⟨b, o, none⟩ cs n w K :=
  ⟨hn, seg_stL cs.toList pre [] old w ho (by simpa using h) (by simpa using hl) (List.all_eq_true.1 h1) fun w' hb k => hK w' (by simpa using hb) k⟩
theorem Blk.stAll {old : List Value} (h : Blk w b t old) {n : Nat} {cs : Array Value} (hn : cs.size = n) (hl : cs.size = old.length) (h1 : cs.toList.all Value.oneCell' = true) {K : World → Prop} (hK : ∀ w', Blk w' b t cs.toList → Chg (fun k => k = b) w w' → K w') : Sh.stRow ⟨b, 0, none⟩ cs n w K :=
  Blk.stRow (pre := []) (post := []) (by simpa using h) rfl hn hl h1 fun w' hb k => hK w' (by simpa using hb) k
/-- one cell of a row -/
theorem Blk.stAt {pre post : List Value} {x v : Value} (h : Blk w b t (pre ++ x :: post)) {o : Nat} (ho : pre.length = o) (hv : v.oneCell' = true) {K : World → Prop} (hK : ∀ w', Blk w' b t (pre ++ v :: post) → Chg (fun k => k = b) w w' → K w') : stC ⟨b, o, none⟩ v w K :=
  h.store (by simp; omega) hv fun h' k' => hK _ (by rwa [set_mid' ho] at h') k'
theorem built_c {t : Nat} {parts : Array (Nat × Value)} {cells : Array Value} (h : P.built t parts.toList = some cells) {K : Value → Prop} (hK : K (.agg cells)) : semP P (Instr.build t parts) K := by
  unfold semP
  rw [run_build (P := P) default t parts cells h]
  exact hK
end
/-! ### pointers against nil -/
theorem ptr_nil_eql {t : Nat} {x y : Operand} (h : P.underlying t = some (.pointer (P.pointee t))) {p : Option Addr} {w : World} {K : Value → Prop} : semR P (do eqGuard .eql t x y (.pointer p) (.pointer none); binOp .eql t (.pointer p) (.pointer none)) w K = K (.bool p.isNone) := by
  unfold semR
  simp [eqGuard, run_eql_pointer_nil w t p h]
theorem ptr_nil_neq {t : Nat} {x y : Operand} (h : P.underlying t = some (.pointer (P.pointee t))) {p : Option Addr} {w : World} {K : Value → Prop} : semR P (do eqGuard .neq t x y (.pointer p) (.pointer none); binOp .neq t (.pointer p) (.pointer none)) w K = K (.bool (!p.isNone)) := by
  unfold semR
  simp [eqGuard, run_neq_pointer_nil w t p h]

/-! ### bytes behind a list of one's own -/
/-- one byte more -/
theorem push_u8 {t e : Nat} (T : SlT P t e 1 1) {w0 w : World} {a : Option Addr} {n c : Nat} {l : List UInt8} (h : Own w e 1 a n c (bvs l)) (f : ∀ k, At a k → w0.heap.size ≤ k) (k0 : Chg None w0 w) {z : Int} (x : UInt8) (hz : z = (x.toNat : Int)) (hn : n < 140737488355327) {K : Option Addr → Nat → Nat → World → Prop}
    (hK : ∀ a' c' w', Own w' e 1 a' (n + 1) c' (bvs (l ++ [x])) → (∀ k, At a' k → w0.heap.size ≤ k) → Chg None w0 w' → K a' (n + 1) c' w') :
    alC #[.int .u8 z] e w fun p w2 => sem P (Builtin.append_ #[t, t] t #[.slice a n c, .slice (some p) 1 1]) w2 fun v w3 => opnL (some v) fun x xn xc => K x xn xc w3 := by
  subst hz
  refine push_struct T (w0 := w0) h f k0 (cs := #[bv x]) rfl rfl (by omega) (by omega) fun a' c' w' o g k => ?_
  exact hK a' c' w' (by simpa [bvs] using o) g k
/-- more bytes -/
theorem app_u8 {t tx e : Nat} (T : SlT P t e 1 1) (U : P.underlying tx = some (.slice e)) {w0 w : World} {a : Option Addr} {n c : Nat} {l : List UInt8} (h : Own w e 1 a n c (bvs l)) (f : ∀ k, At a k → w0.heap.size ≤ k) (k0 : Chg None w0 w) {S : Nat → Prop} {q : Option Addr} {m cq : Nat} {p : List UInt8} (hp : Lies w S q (bvs p)) (hm : p.length = m) (hn : n + m ≤ 140737488355328) {K : Option Addr → Nat → Nat → World → Prop}
    (hK : ∀ a' c' w', Own w' e 1 a' (n + m) c' (bvs (l ++ p)) → (∀ k, At a' k → w0.heap.size ≤ k) → Chg None w0 w' → K a' (n + m) c' w') :
    sem P (Builtin.append_ #[t, tx] t #[.slice a n c, .slice q m cq]) w fun v w3 => opnL (some v) fun x xn xc => K x xn xc w3 := by
  subst hm
  refine append_own T h (src_bytes U hp) (by simp only [maxLen]; omega) (by omega) fun a' c' w2 o2 k2 f2 => ?_
  rw [← bvs_app] at o2
  refine hK a' c' w2 o2 ?_ (Chg.fresh k0 k2 f)
  rcases f2 with rfl | ⟨b, rfl, hb⟩
  · exact f
  · rintro k ⟨p, hp, rfl⟩; cases hp; exact Nat.le_trans k0.size hb
/-- clear(b[o:o+n]) -/
theorem clear_seg {t e ty T : Nat} {z : Value} (ht : P.underlying t = some (.slice e)) (hv : ∀ w, (zeroValue e).run P w = .ok z w) (hz : z.cells = #[z]) (h1 : z.oneCell' = true) {w : World} {b : Nat} {L : List Value} (hb : Blk w b T L) {o n c : Nat} (hl : o + n ≤ L.length) {K : Value → World → Prop}
    (hK : ∀ w', Blk w' b T (L.take o ++ List.replicate n z ++ L.drop (o + n)) → Chg (fun k => k = b) w w' → K (.tuple #[]) w') : sem P (Builtin.clear_ #[t] ty #[.slice (some ⟨b, o, none⟩) n c]) w K := by
  unfold sem
  by_cases hn : n = 0
  · subst hn
    have : (Builtin.clear_ #[t] ty #[.slice (some ⟨b, o, none⟩) 0 c]).run P w = .ok (.tuple #[]) w := by
      simp [Builtin.clear_, run_underlying ht]
    rw [this]
    refine hK w ?_ (Chg.refl _ _)
    simpa using hb
  · rw [Lib.run_clear_slice w t e ty z ht hv hz h1 b o n c (by omega) (fun j hj => by rw [hb.cell, List.getElem?_eq_getElem (by omega)]; rfl) (fun j hj => hb.thaw (by omega))]
    obtain ⟨g1, g2⟩ := hb.setCells (List.replicate n z) o (by simpa using hl)
    rw [List.length_replicate] at g1
    exact hK _ g1 g2
end Go.Sh
/-! ## ShU6 -/
set_option maxRecDepth 10000
namespace Go.Sh
theorem i64_and (a b : Nat) (ha : a < 9223372036854775808) (hb : b < 9223372036854775808) : bits .and .i64 (a : Int) (b : Int) = ((a &&& b : Nat) : Int) := by
  have hx : a &&& b < 2 ^ 63 := Nat.and_lt_two_pow _ (by omega)
  have e : ∀ n : Nat, n < 9223372036854775808 → (BitVec.ofInt 64 (n : Int)).toNat = n := fun n hn => by
    rw [BitVec.ofInt_natCast, BitVec.toNat_ofNat]; exact Nat.mod_eq_of_lt (by omega)
  show IntKind.i64.wrap ((BitVec.ofInt 64 (a : Int) &&& BitVec.ofInt 64 (b : Int)).toNat : Int) = _
  rw [BitVec.toNat_and, e a ha, e b hb, IntKind.wrap_i64]
  omega
theorem shr_n (x k : Nat) (hk : k ≤ 64) : shrI .i64 (x : Int) (k : Int) = ((x / 2 ^ k : Nat) : Int) := by
  simp only [shrI, IntKind.bits, Int.toNat_natCast]
  rw [Nat.min_eq_left hk, Int.fdiv_eq_ediv_of_nonneg _ (by exact_mod_cast Nat.zero_le _)]
  norm_cast
theorem shl_n (x k : Nat) (hk : k ≤ 64) (h : x * 2 ^ k < 9223372036854775808) : shlI .i64 (x : Int) (k : Int) = ((x * 2 ^ k : Nat) : Int) := by
  simp only [shlI, IntKind.bits, Int.toNat_natCast]
  rw [Nat.min_eq_left hk, show (x : Int) * 2 ^ k = ((x * 2 ^ k : Nat) : Int) by norm_cast]
  exact wrap_id (by omega) (by omega)
theorem shr_u8n (x k : Nat) (hk : k ≤ 8) : shrI .u8 (x : Int) (k : Int) = ((x / 2 ^ k : Nat) : Int) := by
  simp only [shrI, IntKind.bits, Int.toNat_natCast]
  rw [Nat.min_eq_left hk, Int.fdiv_eq_ediv_of_nonneg _ (by exact_mod_cast Nat.zero_le _)]
  norm_cast
/-- low bits below high ones -/
theorem or_low (a b k : Nat) (hb : b < 2 ^ k) (h : a * 2 ^ k + b < 9223372036854775808) : bits .or .i64 ((a * 2 ^ k : Nat) : Int) (b : Int) = ((a * 2 ^ k + b : Nat) : Int) := by
  rw [i64_or _ _ (by omega) (by omega)]
  have := Nat.two_pow_add_eq_or_of_lt hb a
  rw [Nat.mul_comm] at this
  rw [← this]
theorem and63 (x : Nat) (h : x < 9223372036854775808) : bits .and .i64 (x : Int) 63 = ((x % 64 : Nat) : Int) := by
  rw [show (63 : Int) = ((2 ^ 6 - 1 : Nat) : Int) from rfl, i64_and x _ h (by decide), Nat.and_two_pow_sub_one_eq_mod]
theorem mask_n (x h : Nat) (hx : x < 9223372036854775808) (h8 : h ≤ 8) : bits .and .i64 (x : Int) (IntKind.wrap .i64 (shlI .i64 1 (h : Int) - 1)) = ((x % 2 ^ h : Nat) : Int) := by
  have hp : 2 ^ h ≤ 256 := Nat.pow_le_pow_right (n := 2) (by decide) h8
  have hp0 : 0 < 2 ^ h := Nat.pow_pos (by decide)
  rw [show shlI .i64 1 (h : Int) = ((1 * 2 ^ h : Nat) : Int) from shl_n 1 h (by omega) (by omega), Nat.one_mul, show ((2 ^ h : Nat) : Int) - 1 = ((2 ^ h - 1 : Nat) : Int) by omega, wrap_n' (by omega), i64_and x (2 ^ h - 1) hx (by omega), Nat.and_two_pow_sub_one_eq_mod]
theorem wrap_u8m (n : Nat) : IntKind.wrap .u8 ((n : Nat) : Int) = ((n % 256 : Nat) : Int) := by rw [IntKind.wrap_u8]; omega
theorem or_v (b v : Nat) (hb : b < 1000000) (hv : v < 64) : bits .or .i64 (shlI .i64 (b : Int) 6) (v : Int) = ((b * 64 + v : Nat) : Int) := by
  rw [show shlI .i64 (b : Int) 6 = ((b * 2 ^ 6 : Nat) : Int) from shl_n b 6 (by decide) (by omega)]
  exact or_low b v 6 (by omega) (by omega)
namespace B64
theorem one_n (a : UInt8) : shlI .i64 (IntKind.wrap .i64 (a.toNat : Int)) 16 = ((a.toNat * 65536 : Nat) : Int) := by
  have ha := a.toNat_lt
  rw [wrap_n' (by omega)]
  exact shl_n a.toNat 16 (by decide) (by omega)
theorem two_n (a b : UInt8) : bits .or .i64 (shlI .i64 (IntKind.wrap .i64 (a.toNat : Int)) 16) (shlI .i64 (IntKind.wrap .i64 (b.toNat : Int)) 8) = ((a.toNat * 65536 + b.toNat * 256 : Nat) : Int) := by
  have ha := a.toNat_lt
  have hb := b.toNat_lt
  rw [one_n, wrap_n' (by omega), show shlI .i64 ((b.toNat : Nat) : Int) 8 = ((b.toNat * 256 : Nat) : Int) from shl_n b.toNat 8 (by decide) (by omega)]
  exact or_low a.toNat (b.toNat * 256) 16 (by omega) (by omega)
theorem tri_n (a b c : UInt8) : bits .or .i64 (bits .or .i64 (shlI .i64 (IntKind.wrap .i64 (a.toNat : Int)) 16) (shlI .i64 (IntKind.wrap .i64 (b.toNat : Int)) 8)) (IntKind.wrap .i64 (c.toNat : Int)) = ((a.toNat * 65536 + b.toNat * 256 + c.toNat : Nat) : Int) := by
  have ha := a.toNat_lt
  have hb := b.toNat_lt
  have hc := c.toNat_lt
  rw [two_n, wrap_n' (by omega), show a.toNat * 65536 + b.toNat * 256 = (a.toNat * 256 + b.toNat) * 2 ^ 8 by omega]
  exact or_low _ _ 8 (by omega) (by omega)
theorem shr18 (x : Nat) : shrI .i64 (x : Int) 18 = ((x / 262144 : Nat) : Int) := shr_n x 18 (by decide)
theorem shr12 (x : Nat) : shrI .i64 (x : Int) 12 = ((x / 4096 : Nat) : Int) := shr_n x 12 (by decide)
theorem shr6 (x : Nat) : shrI .i64 (x : Int) 6 = ((x / 64 : Nat) : Int) := shr_n x 6 (by decide)
/-- a letter of the alphabet -/
theorem let_bt (n : Nat) : bt (sb lets) n = ((L n).toNat : Int) := by rw [bt_sb]; rfl
end B64
section
variable {P : Program}
/-- new bytes, laid and appended -/
theorem put_u8 {t e : Nat} (T : SlT P t e 1 1) (U : P.underlying t = some (.slice e)) {w0 w : World} {a : Option Addr} {n c : Nat} {l : List UInt8} (h : Own w e 1 a n c (bvs l)) (f : ∀ k, At a k → w0.heap.size ≤ k) (k0 : Chg None w0 w) {zs : Array Value} {p : List UInt8} (hz : zs.toList = bvs p) {m : Nat} (hm : p.length = m) (hn : n + m ≤ 140737488355328) {K : Option Addr → Nat → Nat → World → Prop}
    (hK : ∀ a' c' w', Own w' e 1 a' (n + m) c' (bvs (l ++ p)) → (∀ k, At a' k → w0.heap.size ≤ k) → Chg None w0 w' → K a' (n + m) c' w') :
    alC zs e w fun p w2 => sem P (Builtin.append_ #[t, t] t #[.slice a n c, .slice (some p) m m]) w2 fun v w3 => opnL (some v) fun x xn xc => K x xn xc w3 := by
  refine alC_box fun b w2 hb k2 hlo => ?_
  rw [hz] at hb
  exact app_u8 T U (h.chg0 k2) f (k0.none_trans k2) (hb.lies (S := fun k => k = b) rfl) hm hn hK
end
end Go.Sh
/-! ## Base64 -/
set_option maxRecDepth 10000
namespace Go.Proofs.YtedioondfbnfjaaGreatDoor
open Go.Sh Go.RowKit
theorem T22 : SlT PP 23 5 1 1 := ⟨Tryz.underlying23, by kernel_rfl⟩
section
variable {Q : Value → World → Prop} {w w0 : World}
theorem lets_lit : (⟨#[65, 66, 67, 68, 69, 70, 71, 72, 73, 74, 75, 76, 77, 78, 79, 80, 81, 82, 83, 84, 85, 86, 87, 88, 89, 90, 97, 98, 99, 100, 101, 102, 103, 104, 105, 106, 107, 108, 109, 110, 111, 112, 113, 114, 115, 116, 117, 118, 119, 120, 121, 122, 48, 49, 50, 51, 52, 53, 54, 55, 56, 57, 43, 47]⟩ : ByteArray) = sb B64.lets := rfl
theorem lets_size : (sb B64.lets).size = 64 := rfl
theorem enc_end {a : Option Addr} {c : Nat} {x : List UInt8} (h : Lies w (At a) a (bvs x)) (hQ : Q (.string (sb x)) w) : N_text_EncodeBase64.j13 Q a x.length c w := by
  refine N_text_EncodeBase64.j13_eq (h := to_string Tryz.underlying23 Tryz.underlying5 Tryz.underlying9 h ?_)
  rw [opnS_s]
  exact hQ
theorem cl {S : Nat → Prop} {p : Addr} {l : List UInt8} (h : Lies w S (some p) (bvs l)) {i : Int} {x : UInt8} (hx : l[i.toNat]? = some x) : w.cell? (p.add (Int.toNat i * 1)) = some (.int .u8 (x.toNat : Int)) := by
  obtain ⟨p', e, _, hc⟩ := h i.toNat (bv x) (by rw [bvs, List.getElem?_map, hx]; rfl)
  cases e
  rw [Nat.mul_one, hc]
  rfl
theorem enc_loop {b : List UInt8} (hQ : ∀ w', Chg None w0 w' → Q (.string (sb (B64.enc b))) w') :
    ∀ (m : Nat) (l acc : List UInt8) (S : Nat → Prop) (a q : Option Addr) (n c cq : Nat) (w : World), l.length ≤ m → l.length ≤ 1000000 → l.length ≤ cq → acc.length + 2 * l.length ≤ 100000000 → n = acc.length → Lies w0 S q (bvs l) → Own w 5 1 a n c (bvs acc) → (∀ k, At a k → w0.heap.size ≤ k) → Chg None w0 w → B64.enc b = acc ++ B64.enc l →
      N_text_EncodeBase64.j2 Q q l.length cq a n c w := by
  intro m
  have stop : ∀ (acc : List UInt8) (a : Option Addr) (n c : Nat) (w : World), n = acc.length → Own w 5 1 a n c (bvs acc) → Chg None w0 w → B64.enc b = acc → N_text_EncodeBase64.j13 Q a n c w := by
    rintro acc a n c w rfl ho k e
    refine enc_end ho.lies ?_
    rw [← e]; exact hQ w k
  induction m with
  | zero =>
    intro l acc S a q n c cq w hm h1 h2 h3 hn hl ho hf k he
    have : l = [] := List.eq_nil_of_length_eq_zero (by omega)
    subst this
    rw [show B64.enc [] = [] from rfl, List.append_nil] at he
    exact N_text_EncodeBase64.j2_eq (h := c_nge (by decide) (c_neq (by decide) (c_neq (by decide) (stop acc a n c w hn ho k he))))
  | succ m ih =>
    intro l acc S a q n c cq w hm h1 h2 h3 hn hl ho hf k he
    match l, hm, h1, h2, h3, hl, he with
    | [], _, _, _, _, _, he =>
      rw [show B64.enc [] = [] from rfl, List.append_nil] at he
      exact N_text_EncodeBase64.j2_eq (h := c_nge (by decide) (c_neq (by decide) (c_neq (by decide) (stop acc a n c w hn ho k he))))
    | [x], _, _, _, h3, hl, he =>
      have hx := x.toNat_lt
      have hlen : [x].length = 1 := rfl
      have h4 : (B64.enc [x]).length = 4 := rfl
      obtain ⟨p, rfl⟩ := hl.some (j := 0) (by simp [bvs])
      refine N_text_EncodeBase64.j2_eq (h := c_nge (by omega) (c_eq rfl ⟨by decide, by omega, ?_⟩))
      rw [opnA_e]
      refine opnI_c (cl (hl.chg0 k) rfl) ?_
      rw [drw_s, B64.one_n, B64.shr18, B64.shr12, and63 _ (by omega), lets_lit]
      refine ⟨by omega, by rw [lets_size]; omega, by omega, by rw [lets_size]; omega, ?_⟩
      rw [Int.toNat_natCast, Int.toNat_natCast, B64.let_bt, B64.let_bt]
      have e1 : x.toNat * 65536 / 262144 = x.toNat / 4 := by omega
      have e2 : x.toNat * 65536 / 4096 % 64 = x.toNat % 4 * 16 := by omega
      rw [e1, e2]
      refine put_u8 (w0 := w0) T22 Tryz.underlying23 (ho.chg0 (Chg.drew0 w)) hf k.drew (p := B64.enc [x]) rfl rfl (by simp at h3; omega) fun a' c' w' ho' hf' k' => ?_
      exact stop _ a' (n + 4) c' w' (by rw [List.length_append, hn]; rfl) ho' k' he
    | [x, y], _, _, _, h3, hl, he =>
      have hx := x.toNat_lt
      have hy := y.toNat_lt
      have hlen : [x, y].length = 2 := rfl
      have h4 : (B64.enc [x, y]).length = 4 := rfl
      obtain ⟨p, rfl⟩ := hl.some (j := 0) (by simp [bvs])
      refine N_text_EncodeBase64.j2_eq (h := c_nge (by omega) (c_neq (by omega) (c_eq rfl ?_)))
      rw [drw_s]
      refine ⟨by decide, by omega, ?_⟩
      rw [opnA_e]
      refine ⟨by decide, by omega, ?_⟩
      rw [opnA_e]
      have k1 := k.drew
      refine opnI_c (cl (hl.chg0 k1) rfl) (opnI_c (cl (i := 1) (hl.chg0 k1) rfl) ?_)
      rw [drw_s, B64.two_n, B64.shr18, B64.shr12, B64.shr6, and63 _ (by omega), and63 _ (by omega), lets_lit]
      refine ⟨by omega, by rw [lets_size]; omega, by omega, by rw [lets_size]; omega, by omega, by rw [lets_size]; omega, ?_⟩
      rw [Int.toNat_natCast, Int.toNat_natCast, Int.toNat_natCast, B64.let_bt, B64.let_bt, B64.let_bt]
      have e1 : (x.toNat * 65536 + y.toNat * 256) / 262144 = x.toNat / 4 := by omega
      have e2 : (x.toNat * 65536 + y.toNat * 256) / 4096 % 64 = x.toNat % 4 * 16 + y.toNat / 16 := by omega
      have e3 : (x.toNat * 65536 + y.toNat * 256) / 64 % 64 = y.toNat % 16 * 4 := by omega
      rw [e1, e2, e3]
      refine put_u8 (w0 := w0) T22 Tryz.underlying23 ((ho.chg0 (Chg.drew0 w)).chg0 (Chg.drew0 _)) hf k1.drew (p := B64.enc [x, y]) rfl rfl (by simp at h3; omega) fun a' c' w' ho' hf' k' => ?_
      exact stop _ a' (n + 4) c' w' (by rw [List.length_append, hn]; rfl) ho' k' he
    | x :: y :: z :: r, hm, h1, h2, h3, hl, he =>
      have hx := x.toNat_lt
      have hy := y.toNat_lt
      have hz := z.toNat_lt
      have hlen : (x :: y :: z :: r).length = r.length + 3 := rfl
      obtain ⟨p, rfl⟩ := hl.some (j := 0) (by simp [bvs])
      refine N_text_EncodeBase64.j2_eq (h := c_ge (by omega) ?_)
      rw [drw_s]
      refine ⟨by decide, by omega, ?_⟩
      rw [opnA_e]
      refine ⟨by decide, by omega, ?_⟩
      rw [opnA_e]
      refine ⟨by decide, by omega, ?_⟩
      rw [opnA_e]
      have k1 := k.drew
      refine opnI_c (cl (hl.chg0 k1) rfl) (opnI_c (cl (i := 1) (hl.chg0 k1) rfl) (opnI_c (cl (i := 2) (hl.chg0 k1) rfl) ?_))
      rw [drw_s, B64.tri_n, B64.shr18, B64.shr12, B64.shr6, and63 _ (by omega), and63 _ (by omega), and63 _ (by omega), lets_lit]
      refine ⟨by omega, by rw [lets_size]; omega, by omega, by rw [lets_size]; omega, by omega, by rw [lets_size]; omega, by omega, by rw [lets_size]; omega, ?_⟩
      rw [Int.toNat_natCast, Int.toNat_natCast, Int.toNat_natCast, Int.toNat_natCast, B64.let_bt, B64.let_bt, B64.let_bt, B64.let_bt]
      have e1 : (x.toNat * 65536 + y.toNat * 256 + z.toNat) / 262144 = x.toNat / 4 := by omega
      have e2 : (x.toNat * 65536 + y.toNat * 256 + z.toNat) / 4096 % 64 = x.toNat % 4 * 16 + y.toNat / 16 := by omega
      have e3 : (x.toNat * 65536 + y.toNat * 256 + z.toNat) / 64 % 64 = y.toNat % 16 * 4 + z.toNat / 64 := by omega
      have e4 : (x.toNat * 65536 + y.toNat * 256 + z.toNat) % 64 = z.toNat % 64 := by omega
      rw [e1, e2, e3, e4]
      refine put_u8 (w0 := w0) T22 Tryz.underlying23 ((ho.chg0 (Chg.drew0 w)).chg0 (Chg.drew0 _)) hf k1.drew (p := [B64.L (x.toNat / 4), B64.L (x.toNat % 4 * 16 + y.toNat / 16), B64.L (y.toNat % 16 * 4 + z.toNat / 64), B64.L (z.toNat % 64)]) (m := 4) rfl rfl (by omega) fun a' c' w' ho' hf' k' => ?_
      refine ⟨by decide, by omega, ?_⟩
      have hd : Lies w0 S (slA (some p) 3 cq 1) (bvs r) := hl.dropB (lo := 3) h2
      refine ih r _ S a' _ (n + 4) c' (cq - 3) w' (by omega) (by omega) (by omega) (by simp only [List.length_append, List.length_cons, List.length_nil]; omega) (by rw [List.length_append, hn]; rfl) hd ho' hf' k' ?_
      rw [he]
      simp only [B64.enc, List.append_assoc, List.cons_append, List.nil_append]
theorem encode_word {S : Nat → Prop} {q : Option Addr} {cq : Nat} {l : List UInt8} (hl : l.length ≤ 1000000) (hc : l.length ≤ cq) (hp : Lies w S q (bvs l)) (hQ : ∀ w', Chg None w w' → Q (.string (sb (B64.enc l))) w') : C_text_EncodeBase64 #[.slice q l.length cq] w Q := by
  refine C_text_EncodeBase64_eq _ _ _ _ _ ⟨by decide, ?_⟩
  have e1 : IntKind.wrap .i64 ((IntKind.wrap .i64 (Int.tdiv (IntKind.wrap .i64 (((l.length : Nat) : Int) + 2)) 3)) * 4) = (((l.length + 2) / 3 * 4 : Nat) : Int) := by
    rw [show ((l.length : Nat) : Int) + 2 = ((l.length + 2 : Nat) : Int) by omega, wrap_n' (by omega), show Int.tdiv ((l.length + 2 : Nat) : Int) 3 = (((l.length + 2) / 3 : Nat) : Int) from rfl, wrap_n' (by omega), show (((l.length + 2) / 3 : Nat) : Int) * 4 = (((l.length + 2) / 3 * 4 : Nat) : Int) by omega, wrap_n' (by omega)]
  rw [e1]
  refine make_own (l := 0) (by_ := 1) (z := .int .u8 0) Tryz.underlying23 (by kernel_rfl) rfl (Nat.zero_le _) (by omega) (by omega) fun b w' ho k hlo => ?_
  refine enc_loop hQ _ l [] S _ _ 0 _ _ w' (Nat.le_refl _) hl hc (by simp; omega) rfl hp ho (by rintro x ⟨p, hp, rfl⟩; cases hp; exact hlo) k rfl
end
end Go.Proofs.YtedioondfbnfjaaGreatDoor
/-! ## Base64D -/
set_option maxRecDepth 10000
namespace Go.Proofs.YtedioondfbnfjaaGreatDoor
open Go.Sh Go.RowKit
section
variable {Q : Value → World → Prop} {w w0 : World}
theorem nn_n {n : Nat} {p : Prop} (h : p) : nn (n : Int) p := h
theorem trim_word {l : List UInt8} (hl : l.length ≤ 1048576) (hQ : Q (.string (sb (B64.trim l))) w) : C_strings_TrimSuffix #[.string (sb l), .string (sb [61])] w Q := by
  refine C_calls Tryz.func49 (by rfl) (by decide) ((strings_TrimSuffix (sb l) (sb [61]) w (by rw [sb_size]; omega)).mono ?_)
  rintro e w' ⟨rfl, rfl⟩
  rw [sb_list, sb_list]
  exact hQ
theorem nb_get {l : List UInt8} {i : Nat} (h : i < l.length) : nb l i = (l[i]).toNat := by unfold nb; rw [List.getD_eq_getElem?_getD, List.getElem?_eq_getElem h]; rfl
theorem value_word {c : UInt8} (hs : ∀ v, B64.V c = some v → Q (.int .i64 (v : Int)) w) (hn : B64.V c = none → Q (.int .i64 (-1)) w) : C_text_value #[.int .u8 (c.toNat : Int)] w Q := by
  have hc := c.toNat_lt
  unfold B64.V at hs hn
  refine C_text_value_eq _ _ _ ?_
  have j5 : ¬ (65 ≤ c.toNat ∧ c.toNat ≤ 90) → ¬ (97 ≤ c.toNat ∧ c.toNat ≤ 122) → N_text_value.j5 Q (c.toNat : Int) w := by
    intro h1 h2
    rw [if_neg h1, if_neg h2] at hn
    simp only [if_neg h1, if_neg h2] at hs
    refine N_text_value.j5_eq (h := ?_)
    have j7 : ¬ (48 ≤ c.toNat ∧ c.toNat ≤ 57) → N_text_value.j7 Q (c.toNat : Int) w := by
      intro h3
      rw [if_neg h3] at hn
      simp only [if_neg h3] at hs
      refine N_text_value.j7_eq (h := ?_)
      by_cases h4 : c.toNat = 43
      · refine c_eq (by omega) (N_text_value.j8_eq (h := ?_))
        exact hs 62 (if_pos h4)
      · rw [if_neg h4] at hn
        simp only [if_neg h4] at hs
        refine c_neq (by omega) (N_text_value.j9_eq (h := ?_))
        by_cases h5 : c.toNat = 47
        · refine c_eq (by omega) (N_text_value.j10_eq (h := ?_))
          exact hs 63 (if_pos h5)
        · refine c_neq (by omega) (N_text_value.j11_eq (h := ?_))
          exact hn (if_neg h5)
    by_cases h3 : 48 ≤ c.toNat ∧ c.toNat ≤ 57
    · refine c_ge (by omega) (c_le (by omega) (N_text_value.j6_eq (h := ?_)))
      have := hs _ (if_pos h3)
      rw [show (c.toNat : Int) - 48 = ((c.toNat - 48 : Nat) : Int) by omega, wrap_u8 (by omega), wrap_n' (by omega), show ((c.toNat - 48 : Nat) : Int) + 52 = ((c.toNat - 48 + 52 : Nat) : Int) by omega, wrap_n' (by omega)]
      exact this
    · by_cases h4 : 48 ≤ c.toNat
      · exact c_ge (by omega) (c_nle (by omega) (j7 h3))
      · exact c_nge (by omega) (j7 h3)
  have j3 : ¬ (65 ≤ c.toNat ∧ c.toNat ≤ 90) → N_text_value.j3 Q (c.toNat : Int) w := by
    intro h1
    refine N_text_value.j3_eq (h := ?_)
    by_cases h2 : 97 ≤ c.toNat ∧ c.toNat ≤ 122
    · refine c_ge (by omega) (c_le (by omega) (N_text_value.j4_eq (h := ?_)))
      have := hs _ (by rw [if_neg h1]; exact if_pos h2)
      rw [show (c.toNat : Int) - 97 = ((c.toNat - 97 : Nat) : Int) by omega, wrap_u8 (by omega), wrap_n' (by omega), show ((c.toNat - 97 : Nat) : Int) + 26 = ((c.toNat - 97 + 26 : Nat) : Int) by omega, wrap_n' (by omega)]
      exact this
    · by_cases h4 : 97 ≤ c.toNat
      · exact c_ge (by omega) (c_nle (by omega) (j5 h1 h2))
      · exact c_nge (by omega) (j5 h1 h2)
  by_cases h1 : 65 ≤ c.toNat ∧ c.toNat ≤ 90
  · refine c_ge (by omega) (c_le (by omega) ?_)
    have := hs _ (if_pos h1)
    rw [show (c.toNat : Int) - 65 = ((c.toNat - 65 : Nat) : Int) by omega, wrap_u8 (by omega), wrap_n' (by omega)]
    exact this
  · by_cases h4 : 65 ≤ c.toNat
    · exact c_ge (by omega) (c_nle (by omega) (j3 h1))
    · exact c_nge (by omega) (j3 h1)
theorem allL_cons (c : UInt8) (r : List UInt8) : B64.allL (c :: r) = ((B64.V c).isSome && B64.allL r) := rfl
/-- what is read, from here on -/
def rest (bits held : Nat) (acc l : List UInt8) : Option (List UInt8) := if B64.allL l = true ∧ (B64.run bits held (l.filterMap B64.V)).2 = 0 then some (acc ++ (B64.run bits held (l.filterMap B64.V)).1) else none
theorem dec_loop {body : List UInt8} {res : Option (List UInt8)} (hb : body.length ≤ 1048576) (hok : ∀ out, res = some out → ∀ a n c w', n = out.length → Own w' 5 1 a n c (bvs out) → (∀ k, At a k → w0.heap.size ≤ k) → Chg None w0 w' → Q (.tuple #[.slice a n c, .int .i64 0]) w') (hno : res = none → ∀ w', Chg None w0 w' → Q (.tuple #[.slice none 0 0, .int .i64 60]) w') :
    ∀ (m i bits held : Nat) (acc : List UInt8) (a : Option Addr) (n c : Nat) (w : World), body.length - i ≤ m → i ≤ body.length → (held = 0 ∨ held = 2 ∨ held = 4 ∨ held = 6) → bits < 2 ^ held → acc.length ≤ i → n = acc.length → Own w 5 1 a n c (bvs acc) → (∀ k, At a k → w0.heap.size ≤ k) → Chg None w0 w → res = rest bits held acc (body.drop i) →
      N_text_DecodeBase64.j9 Q (sb body) a n c (bits : Int) (held : Int) (body.length : Int) (i : Int) w := by
  intro m
  have stop : ∀ (i bits held : Nat) (acc : List UInt8) (a : Option Addr) (n c : Nat) (w : World), body.length ≤ i → n = acc.length → Own w 5 1 a n c (bvs acc) → (∀ k, At a k → w0.heap.size ≤ k) → Chg None w0 w → res = rest bits held acc (body.drop i) → N_text_DecodeBase64.j9 Q (sb body) a n c (bits : Int) (held : Int) (body.length : Int) (i : Int) w := by
    intro i bits held acc a n c w h1 hn ho hf k hr
    rw [List.drop_eq_nil_of_le h1] at hr
    have hr' : res = if bits = 0 then some acc else none := by
      rw [hr]
      unfold rest
      show (if B64.allL [] = true ∧ bits = 0 then some (acc ++ []) else none) = _
      rw [List.append_nil]
      by_cases h : bits = 0
      · rw [if_pos ⟨rfl, h⟩, if_pos h]
      · rw [if_neg (fun g => h g.2), if_neg h]
    refine N_text_DecodeBase64.j9_eq (h := c_nlt (by omega) ?_)
    by_cases h : bits = 0
    · rw [if_pos h] at hr'
      exact c_nne (by omega) (hok acc hr' a n c w hn ho hf k)
    · rw [if_neg h] at hr'
      exact c_ne (by omega) (hno hr' w k)
  induction m with
  | zero => intro i bits held acc a n c w hm hi hh hbt hac hn ho hf k hr; exact stop i bits held acc a n c w (by omega) hn ho hf k hr
  | succ m ih =>
    intro i bits held acc a n c w hm hi hh hbt hac hn ho hf k hr
    by_cases hs : i < body.length
    · refine N_text_DecodeBase64.j9_eq (h := c_lt (by omega) ⟨by omega, by rw [sb_size]; omega, ?_⟩)
      rw [bt_sb, Int.toNat_natCast, nb_get hs]
      have hd : body.drop i = body[i] :: body.drop (i + 1) := (List.getElem_cons_drop (h := hs)).symm
      rw [hd] at hr
      have hb64 : bits < 64 := by rcases hh with rfl | rfl | rfl | rfl <;> omega
      refine value_word (fun v hv => opnI_s ?_) (fun hv => opnI_s (c_lt (by decide) (hno ?_ w k)))
      · have hv64 := (B64.L_V hv).1
        refine c_nlt (by omega) ?_
        rw [show ((held : Nat) : Int) + 6 = ((held + 6 : Nat) : Int) by omega, wrap_n' (by omega), or_v bits v (by omega) hv64]
        have hr2 : res = if B64.allL (body.drop (i + 1)) = true ∧ (B64.run bits held (v :: (body.drop (i + 1)).filterMap B64.V)).2 = 0 then some (acc ++ (B64.run bits held (v :: (body.drop (i + 1)).filterMap B64.V)).1) else none := by
          rw [hr]
          unfold rest
          rw [allL_cons, hv, List.filterMap_cons_some hv]
          rfl
        by_cases h8 : held + 6 ≥ 8
        · refine c_ge (by omega) ?_
          rw [show ((held + 6 : Nat) : Int) - 8 = ((held - 2 : Nat) : Int) by omega, wrap_n' (by omega), shr_n _ _ (by omega), wrap_u8m, mask_n _ _ (by omega) (by omega)]
          refine nn_n (push_u8 (w0 := w0) T22 ho hf k (B64.B ((bits * 64 + v) / 2 ^ (held - 2) % 256)) (by rw [B64.B_nat (Nat.mod_lt _ (by decide))]) (by omega) fun a' c' w' ho' hf' k' => nn_n (N_text_DecodeBase64.j19_eq (h := ?_)))
          rw [wrap_nat (by omega)]
          refine ih (i + 1) _ (held - 2) _ a' (n + 1) c' w' (by omega) (by omega) (by omega) (Nat.mod_lt _ (Nat.pow_pos (by decide))) (by rw [List.length_append]; simp; omega) (by rw [List.length_append, hn]; rfl) ho' hf' k' ?_
          rw [hr2]
          unfold rest
          simp only [B64.run, if_pos h8, List.append_assoc, List.cons_append, List.nil_append]
        · refine c_nge (by omega) ?_
          refine N_text_DecodeBase64.j19_eq (h := ?_)
          rw [wrap_nat (by omega)]
          obtain rfl : held = 0 := by omega
          refine ih (i + 1) _ (0 + 6) _ a n c w (by omega) (by omega) (by omega) (by omega) (by omega) hn ho hf k ?_
          rw [hr2]
          unfold rest
          simp only [B64.run, if_neg h8]
      · rw [hr]
        unfold rest
        rw [allL_cons, hv]
        exact if_neg (fun h => by cases h.1)
    · exact stop i bits held acc a n c w (by omega) hn ho hf k hr
theorem trim_len (l : List UInt8) : (B64.trim l).length ≤ l.length := by
  unfold B64.trim Lib.trimSuffix
  split
  · rw [List.length_take]; omega
  · exact Nat.le_refl _
theorem decode64_word {s : List UInt8} (hlong : s.length > 1048576 → Q (.tuple #[.slice none 0 0, .int .i64 2]) w)
    (hok : s.length ≤ 1048576 → ∀ out, B64.strict s = some out → ∀ a n c w', n = out.length → Own w' 5 1 a n c (bvs out) → (∀ k, At a k → w.heap.size ≤ k) → Chg None w w' → Q (.tuple #[.slice a n c, .int .i64 0]) w')
    (hno : s.length ≤ 1048576 → B64.strict s = none → ∀ w', Chg None w w' → Q (.tuple #[.slice none 0 0, .int .i64 60]) w') : C_text_DecodeBase64 #[.string (sb s)] w Q := by
  refine C_text_DecodeBase64_eq _ _ _ ?_
  rw [sb_size]
  by_cases h1 : s.length > 1048576
  · exact c_gt (by omega) (hlong h1)
  have hs : s.length ≤ 1048576 := by omega
  refine c_ngt (by omega) ⟨by decide, ?_⟩
  rw [show Int.tmod ((s.length : Nat) : Int) 4 = ((s.length % 4 : Nat) : Int) from rfl]
  by_cases h4 : s.length % 4 = 0
  · refine c_nne (by omega) (trim_word hs ?_)
    rw [opnS_s]
    have t1 := trim_len s
    have t2 := trim_len (B64.trim s)
    refine trim_word (by omega) ?_
    rw [opnS_s]
    refine ⟨by decide, ?_⟩
    have e1 : IntKind.wrap .i64 ((IntKind.wrap .i64 (Int.tdiv ((s.length : Nat) : Int) 4)) * 3) = ((s.length / 4 * 3 : Nat) : Int) := by
      rw [show Int.tdiv ((s.length : Nat) : Int) 4 = ((s.length / 4 : Nat) : Int) from rfl, wrap_n' (by omega), show ((s.length / 4 : Nat) : Int) * 3 = ((s.length / 4 * 3 : Nat) : Int) by omega, wrap_n' (by omega)]
    rw [e1]
    refine make_own (l := 0) (by_ := 1) (z := .int .u8 0) Tryz.underlying23 (by kernel_rfl) rfl (Nat.zero_le _) (by omega) (by omega) fun b w' ho k hlo => ?_
    rw [opnL_s, sb_size]
    refine dec_loop (w0 := w) (res := B64.strict s) (by omega) (hok hs) (hno hs) _ 0 0 0 [] _ 0 _ w' (Nat.le_refl _) (Nat.zero_le _) (.inl rfl) (by decide) (Nat.le_refl _) rfl ho (by rintro x ⟨p, hp, rfl⟩; cases hp; exact hlo) k ?_
    unfold B64.strict rest
    rw [if_neg (fun h => h h4), List.drop_zero, List.nil_append, B64.run_eq _ _ (Nat.le_refl _) (B64.vals_lt _)]
  · refine c_ne (by omega) (hno hs ?_ w (Chg.refl _ _))
    unfold B64.strict
    rw [if_pos h4]
end
end Go.Proofs.YtedioondfbnfjaaGreatDoor
