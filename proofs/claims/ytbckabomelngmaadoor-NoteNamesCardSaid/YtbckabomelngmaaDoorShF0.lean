/- Functions' equations (printed by wip/gen/drive.py). -/
import Derived.Test.YtbckabomelngmaaDoorShT
set_option maxRecDepth 100000
namespace Go.Proofs.YtbckabomelngmaaDoor
open Go.Sh
/-! ### ledger/ledgerlaw07.NoteNames -/
noncomputable def B_l07_NoteNames : Code := match Tryd.f3.body with | some c => c | _ => .skip
noncomputable def X_l07_NoteNames : Cx := { P := PP, fn := 3, N := 28, tab := tab, results := [.tmp 2], iter := fun _ => (.none, .none), dyn := fun _ => false, live := fun r => cond (Nat.beq r 2) (some [0, 3]) (none) }
theorem K_l07_NoteNames : OkF X_l07_NoteNames B_l07_NoteNames Tryd.f3 := ⟨⟨tab_ok, mix_ok⟩, Tryd.func3, by kernel_rfl, by kernel_rfl, by kernel_rfl, by kernel_rfl⟩
noncomputable def N_l07_NoteNames.j2 (Q : Value → World → Prop) (s0 : ByteArray) (s3 : Int) (w : World) : Prop := Nd X_l07_NoteNames Q [(0, 0, .string s0), (3, 3, .int .i64 s3)] [.code (B_l07_NoteNames.r.l.r.l.l.l.l), .code (B_l07_NoteNames.r.l.r.l.l.l.r), .code (B_l07_NoteNames.r.l.r.l.l.r), .inLoop (B_l07_NoteNames.r.l.r.l.l), .inBlock 0, .code (B_l07_NoteNames.r.r)] w
theorem N_l07_NoteNames.j2_eq (Q : Value → World → Prop) (s0 : ByteArray) (s3 : Int) (w : World) (h :
  cond (decide (s3 < 64))
  (alC #[.int .u8 226, .int .u8 128, .int .u8 (IntKind.wrap .u8 (IntKind.wrap .i64 (128 + s3)))] 5 w fun p1 w2 =>
  semR PP (convert 22 9 (.slice (some p1) 3 3)) w2 fun x3 =>
  opnS (some x3) fun x4 =>
  s0.size + x4.size ≤ 9223372036854775807 ∧
  C_note_CheckName #[.string (s0 ++ x4)] w2 fun v5 w6 =>
  opnI .i64 (some v5) fun x7 =>
  C_l07_num #[.int .i64 x7] w6 fun v8 w9 =>
  opnI .i64 (some v8) fun x10 =>
  C_r07_CheckName #[.string (s0 ++ x4)] w9 fun v11 w12 =>
  opnI .i64 (some v11) fun x13 =>
  cond (x10 != x13)
  (Q (.bool false) w12)
  (N_l07_NoteNames.j2 Q s0 (IntKind.wrap .i64 (s3 + 1)) w12))
  (C_note_CheckName #[.string s0] w fun v14 w15 =>
  opnI .i64 (some v14) fun x16 =>
  C_l07_num #[.int .i64 x16] w15 fun v17 w18 =>
  opnI .i64 (some v17) fun x19 =>
  C_r07_CheckName #[.string s0] w18 fun v20 w21 =>
  opnI .i64 (some v20) fun x22 =>
  Q (.bool (x19 == x22)) w21)) :
N_l07_NoteNames.j2 Q s0 s3 w := Nd_fold K_l07_NoteNames (by kernel_rfl) h
theorem C_l07_NoteNames_eq (Q : Value → World → Prop) (a0 : ByteArray) (w : World) (h :
  N_l07_NoteNames.j2 Q a0 0 w) :
C_l07_NoteNames #[.string a0] w Q := C_fold K_l07_NoteNames (by kernel_rfl) h
/-! ### ledger/ledgerlaw07.num -/
noncomputable def B_l07_num : Code := match Tryd.f8.body with | some c => c | _ => .skip
noncomputable def X_l07_num : Cx := { P := PP, fn := 8, N := 4, tab := tab, results := [.tmp 2], iter := fun _ => (.none, .none), dyn := fun _ => false, live := fun _ => none }
theorem K_l07_num : OkF X_l07_num B_l07_num Tryd.f8 := ⟨⟨tab_ok, mix_ok⟩, Tryd.func8, by kernel_rfl, by kernel_rfl, by kernel_rfl, by kernel_rfl⟩
theorem C_l07_num_eq (Q : Value → World → Prop) (a0 : Int) (w : World) (h :
  Q (.int .i64 a0) w) :
C_l07_num #[.int .i64 a0] w Q := C_fold K_l07_num (by kernel_rfl) h
/-! ### ledger/note.CheckName -/
noncomputable def B_note_CheckName : Code := match Tryd.f9.body with | some c => c | _ => .skip
noncomputable def X_note_CheckName : Cx := { P := PP, fn := 9, N := 28, tab := tab, results := [.tmp 2], iter := fun r => cond (Nat.beq r 22) (.one (.int .i64), .one (.int .i32)) ((.none, .none)), dyn := fun _ => false, live := fun r => cond (Nat.beq r 2) (some []) (cond (Nat.beq r 4) (some [22]) (none)) }
theorem K_note_CheckName : OkF X_note_CheckName B_note_CheckName Tryd.f9 := ⟨⟨tab_ok, mix_ok⟩, Tryd.func9, by kernel_rfl, by kernel_rfl, by kernel_rfl, by kernel_rfl⟩
noncomputable def N_note_CheckName.j2 (Q : Value → World → Prop) (w : World) : Prop := Nd X_note_CheckName Q [] [.code (B_note_CheckName.r.l.r.l.l), .code (B_note_CheckName.r.l.r.l.r), .code (B_note_CheckName.r.r)] w
noncomputable def N_note_CheckName.j4 (Q : Value → World → Prop) (s22 : Addr) (w : World) : Prop := Nd X_note_CheckName Q [(22, 22, .pointer (some s22))] [.code (B_note_CheckName.r.r.l.r.l.l.l), .code (B_note_CheckName.r.r.l.r.l.l.r), .inLoop (B_note_CheckName.r.r.l.r.l.l), .inBlock 0, .code (B_note_CheckName.r.r.r)] w
theorem N_note_CheckName.j2_eq (Q : Value → World → Prop) (w : World) (h :
  Q (.int .i64 70) w) :
N_note_CheckName.j2 Q w := Nd_fold K_note_CheckName (by kernel_rfl) h
theorem N_note_CheckName.j4_eq (Q : Value → World → Prop) (s22 : Addr) (w : World) (h :
  sem PP (Instr.next (.pointer (some s22)) true 0) w fun v1 w2 =>
  opnN v1
  (Q (.int .i64 0) w2)
  fun k3 x4 =>
  opnI .i64 (some k3) fun x5 =>
  opnI .i32 (some x4) fun x6 =>
  C_unicode_IsSpace #[.int .i32 x6] w2 fun v7 w8 =>
  opnB (some v7) fun x9 =>
  cond x9
  (Q (.int .i64 70) w8)
  (N_note_CheckName.j4 Q s22 w8)) :
N_note_CheckName.j4 Q s22 w := Nd_fold K_note_CheckName (by kernel_rfl) h
theorem C_note_CheckName_eq (Q : Value → World → Prop) (a0 : ByteArray) (w : World) (h :
  cond (a0.toList == (⟨#[]⟩ : ByteArray).toList)
  (N_note_CheckName.j2 Q w)
  (cond (decide (((a0.size : Nat) : Int) > 100))
  (N_note_CheckName.j2 Q w)
  (C_text_Plain #[.string a0] w fun v1 w2 =>
  opnI .i64 (some v1) fun x3 =>
  cond (x3 != 0)
  (N_note_CheckName.j2 Q w2)
  (C_strings_Contains #[.string a0, .string (⟨#[43]⟩ : ByteArray)] w2 fun v4 w5 =>
  opnB (some v4) fun x6 =>
  cond x6
  (N_note_CheckName.j2 Q w5)
  (sem PP (Instr.range 9 (.string a0)) w5 fun v7 w8 =>
  opnP (some v7) fun x9 =>
  opnA x9 fun ad10 =>
  N_note_CheckName.j4 Q ad10 w8))))) :
C_note_CheckName #[.string a0] w Q := C_fold K_note_CheckName (by kernel_rfl) h
/-! ### ledger/ledgerref07.CheckName -/
noncomputable def B_r07_CheckName : Code := match Tryd.f10.body with | some c => c | _ => .skip
noncomputable def X_r07_CheckName : Cx := { P := PP, fn := 10, N := 49, tab := tab, results := [.tmp 2], iter := fun _ => (.none, .none), dyn := fun _ => false, live := fun r => cond (Nat.beq r 2) (some []) (cond (Nat.beq r 4) (some [0, 3]) (cond (Nat.beq r 7) (some []) (cond (Nat.beq r 9) (some [0, 4]) (none)))) }
theorem K_r07_CheckName : OkF X_r07_CheckName B_r07_CheckName Tryd.f10 := ⟨⟨tab_ok, mix_ok⟩, Tryd.func10, by kernel_rfl, by kernel_rfl, by kernel_rfl, by kernel_rfl⟩
noncomputable def N_r07_CheckName.j2 (Q : Value → World → Prop) (w : World) : Prop := Nd X_r07_CheckName Q [] [.code (B_r07_CheckName.r.l.r.l.l), .code (B_r07_CheckName.r.l.r.l.r), .code (B_r07_CheckName.r.r)] w
noncomputable def N_r07_CheckName.j4 (Q : Value → World → Prop) (s0 : ByteArray) (s3 : Int) (w : World) : Prop := Nd X_r07_CheckName Q [(0, 0, .string s0), (3, 3, .int .i64 s3)] [.code (B_r07_CheckName.r.r.l.r.l.l.l.l), .code (B_r07_CheckName.r.r.l.r.l.l.l.r), .code (B_r07_CheckName.r.r.l.r.l.l.r), .inLoop (B_r07_CheckName.r.r.l.r.l.l), .inBlock 0, .code (B_r07_CheckName.r.r.r)] w
noncomputable def N_r07_CheckName.j7 (Q : Value → World → Prop) (w : World) : Prop := Nd X_r07_CheckName Q [] [.code (B_r07_CheckName.r.r.l.r.l.l.r.l.l.r.l.l), .code (B_r07_CheckName.r.r.l.r.l.l.r.l.l.r.l.r), .inBlock 1, .code (B_r07_CheckName.r.r.l.r.l.l.r.r), .inLoop (B_r07_CheckName.r.r.l.r.l.l), .inBlock 0, .code (B_r07_CheckName.r.r.r)] w
noncomputable def N_r07_CheckName.j9 (Q : Value → World → Prop) (s0 : ByteArray) (s4 : Int) (w : World) : Prop := Nd X_r07_CheckName Q [(0, 0, .string s0), (4, 4, .int .i64 s4)] [.code (B_r07_CheckName.r.r.r.l.r.l.l.l.l), .code (B_r07_CheckName.r.r.r.l.r.l.l.l.r), .code (B_r07_CheckName.r.r.r.l.r.l.l.r), .inLoop (B_r07_CheckName.r.r.r.l.r.l.l), .inBlock 2, .code (B_r07_CheckName.r.r.r.r)] w
theorem N_r07_CheckName.j2_eq (Q : Value → World → Prop) (w : World) (h :
  Q (.int .i64 70) w) :
N_r07_CheckName.j2 Q w := Nd_fold K_r07_CheckName (by kernel_rfl) h
theorem N_r07_CheckName.j4_eq (Q : Value → World → Prop) (s0 : ByteArray) (s3 : Int) (w : World) (h :
  cond (decide (s3 < ((s0.size : Nat) : Int)))
  ((0 : Int) ≤ s3 ∧
  s3 < ((s0.size : Nat) : Int) ∧
  cond (decide ((bt s0 (Int.toNat s3)) ≤ 32))
  (N_r07_CheckName.j7 Q w)
  ((0 : Int) ≤ s3 ∧
  s3 < ((s0.size : Nat) : Int) ∧
  cond ((bt s0 (Int.toNat s3)) == 43)
  (N_r07_CheckName.j7 Q w)
  ((0 : Int) ≤ s3 ∧
  s3 < ((s0.size : Nat) : Int) ∧
  cond ((bt s0 (Int.toNat s3)) == 127)
  (N_r07_CheckName.j7 Q w)
  (N_r07_CheckName.j4 Q s0 (IntKind.wrap .i64 (s3 + 1)) w))))
  (N_r07_CheckName.j9 Q s0 0 w)) :
N_r07_CheckName.j4 Q s0 s3 w := Nd_fold K_r07_CheckName (by kernel_rfl) h
theorem N_r07_CheckName.j7_eq (Q : Value → World → Prop) (w : World) (h :
  Q (.int .i64 70) w) :
N_r07_CheckName.j7 Q w := Nd_fold K_r07_CheckName (by kernel_rfl) h
theorem N_r07_CheckName.j9_eq (Q : Value → World → Prop) (s0 : ByteArray) (s4 : Int) (w : World) (h :
  cond (decide (s4 < 19))
  ((0 : Int) ≤ s4 ∧
  s4 < ((19 : Nat) : Int) ∧
  opnS (w.cell? ((⟨0, 0, none⟩ : Addr).add (Int.toNat s4 * 1))) fun x1 =>
  C_r07_holds #[.string s0, .string x1] w fun v2 w3 =>
  opnB (some v2) fun x4 =>
  cond x4
  (Q (.int .i64 70) w3)
  (N_r07_CheckName.j9 Q s0 (IntKind.wrap .i64 (s4 + 1)) w3))
  (Q (.int .i64 0) w)) :
N_r07_CheckName.j9 Q s0 s4 w := Nd_fold K_r07_CheckName (by kernel_rfl) h
theorem C_r07_CheckName_eq (Q : Value → World → Prop) (a0 : ByteArray) (w : World) (h :
  cond (decide (((a0.size : Nat) : Int) < 1))
  (N_r07_CheckName.j2 Q w)
  (cond (decide (((a0.size : Nat) : Int) > 100))
  (N_r07_CheckName.j2 Q w)
  (C_r06_Plain #[.string a0] w fun v1 w2 =>
  opnI .i64 (some v1) fun x3 =>
  cond (x3 != 0)
  (N_r07_CheckName.j2 Q w2)
  (N_r07_CheckName.j4 Q a0 0 w2)))) :
C_r07_CheckName #[.string a0] w Q := C_fold K_r07_CheckName (by kernel_rfl) h
/-! ### ledger/text.Plain -/
noncomputable def B_text_Plain : Code := match Tryd.f31.body with | some c => c | _ => .skip
noncomputable def X_text_Plain : Cx := { P := PP, fn := 31, N := 37, tab := tab, results := [.tmp 2], iter := fun r => cond (Nat.beq r 11) (.one (.int .i64), .one (.int .i32)) ((.none, .none)), dyn := fun _ => false, live := fun r => cond (Nat.beq r 4) (some [0, 11]) (cond (Nat.beq r 10) (some [0, 4, 11]) (cond (Nat.beq r 11) (some []) (none))) }
theorem K_text_Plain : OkF X_text_Plain B_text_Plain Tryd.f31 := ⟨⟨tab_ok, mix_ok⟩, Tryd.func31, by kernel_rfl, by kernel_rfl, by kernel_rfl, by kernel_rfl⟩
noncomputable def N_text_Plain.j4 (Q : Value → World → Prop) (s0 : ByteArray) (s11 : Addr) (w : World) : Prop := Nd X_text_Plain Q [(0, 0, .string s0), (11, 11, .pointer (some s11))] [.code (B_text_Plain.r.r.l.r.l.l.l), .code (B_text_Plain.r.r.l.r.l.l.r), .inLoop (B_text_Plain.r.r.l.r.l.l), .inBlock 0, .code (B_text_Plain.r.r.r)] w
noncomputable def N_text_Plain.j10 (Q : Value → World → Prop) (s0 : ByteArray) (s4 : Int) (s11 : Addr) (w : World) : Prop := Nd X_text_Plain Q [(0, 0, .string s0), (4, 4, .int .i32 s4), (11, 11, .pointer (some s11))] [.code (B_text_Plain.r.r.l.r.l.l.r.r.l.r.r.l), .code (B_text_Plain.r.r.l.r.l.l.r.r.l.r.r.r), .inBlock 1, .inLoop (B_text_Plain.r.r.l.r.l.l), .inBlock 0, .code (B_text_Plain.r.r.r)] w
noncomputable def N_text_Plain.j11 (Q : Value → World → Prop) (w : World) : Prop := Nd X_text_Plain Q [] [.code (B_text_Plain.r.r.l.r.l.l.r.r.l.r.r.r.l.l), .code (B_text_Plain.r.r.l.r.l.l.r.r.l.r.r.r.l.r), .inBlock 1, .inLoop (B_text_Plain.r.r.l.r.l.l), .inBlock 0, .code (B_text_Plain.r.r.r)] w
theorem N_text_Plain.j4_eq (Q : Value → World → Prop) (s0 : ByteArray) (s11 : Addr) (w : World) (h :
  sem PP (Instr.next (.pointer (some s11)) true 0) w fun v1 w2 =>
  opnN v1
  (Q (.int .i64 0) w2)
  fun k3 x4 =>
  opnI .i64 (some k3) fun x5 =>
  opnI .i32 (some x4) fun x6 =>
  cond (x6 == 65533)
  ((0 : Int) ≤ x5 ∧
  x5 ≤ ((s0.size : Nat) : Int) ∧
  C_unicode_utf8_DecodeRuneInString #[.string (s0.extract (Int.toNat x5) s0.size)] w2 fun v7 w8 =>
  opnT (some v7) fun x9 =>
  x9.size = 2 ∧
  opnI .i32 (x9[0]?) fun x10 =>
  opnI .i64 (x9[1]?) fun x11 =>
  cond (x11 == 1)
  (Q (.int .i64 65) w8)
  (N_text_Plain.j10 Q s0 x6 s11 w8))
  (N_text_Plain.j10 Q s0 x6 s11 w2)) :
N_text_Plain.j4 Q s0 s11 w := Nd_fold K_text_Plain (by kernel_rfl) h
theorem N_text_Plain.j10_eq (Q : Value → World → Prop) (s0 : ByteArray) (s4 : Int) (s11 : Addr) (w : World) (h :
  cond (decide (s4 < 32))
  (cond (s4 != 10)
  (N_text_Plain.j11 Q w)
  (cond (s4 == 127)
  (N_text_Plain.j11 Q w)
  (N_text_Plain.j4 Q s0 s11 w)))
  (cond (s4 == 127)
  (N_text_Plain.j11 Q w)
  (N_text_Plain.j4 Q s0 s11 w))) :
N_text_Plain.j10 Q s0 s4 s11 w := Nd_fold K_text_Plain (by kernel_rfl) h
theorem N_text_Plain.j11_eq (Q : Value → World → Prop) (w : World) (h :
  Q (.int .i64 65) w) :
N_text_Plain.j11 Q w := Nd_fold K_text_Plain (by kernel_rfl) h
theorem C_text_Plain_eq (Q : Value → World → Prop) (a0 : ByteArray) (w : World) (h :
  cond (decide (((a0.size : Nat) : Int) > 1048576))
  (Q (.int .i64 2) w)
  (sem PP (Instr.range 9 (.string a0)) w fun v1 w2 =>
  opnP (some v1) fun x3 =>
  opnA x3 fun ad4 =>
  N_text_Plain.j4 Q a0 ad4 w2)) :
C_text_Plain #[.string a0] w Q := C_fold K_text_Plain (by kernel_rfl) h
/-! ### ledger/ledgerref06.Plain -/
noncomputable def B_r06_Plain : Code := match Tryd.f34.body with | some c => c | _ => .skip
noncomputable def X_r06_Plain : Cx := { P := PP, fn := 34, N := 39, tab := tab, results := [.tmp 2], iter := fun _ => (.none, .none), dyn := fun _ => false, live := fun r => cond (Nat.beq r 4) (some [0, 3]) (cond (Nat.beq r 7) (some []) (cond (Nat.beq r 8) (some [0, 3, 4]) (none))) }
theorem K_r06_Plain : OkF X_r06_Plain B_r06_Plain Tryd.f34 := ⟨⟨tab_ok, mix_ok⟩, Tryd.func34, by kernel_rfl, by kernel_rfl, by kernel_rfl, by kernel_rfl⟩
noncomputable def N_r06_Plain.j4 (Q : Value → World → Prop) (s0 : ByteArray) (s3 : Int) (w : World) : Prop := Nd X_r06_Plain Q [(0, 0, .string s0), (3, 3, .int .i64 s3)] [.code (B_r06_Plain.r.r.r.l.l.l.l.l), .code (B_r06_Plain.r.r.r.l.l.l.l.r), .code (B_r06_Plain.r.r.r.l.l.l.r), .inLoop (B_r06_Plain.r.r.r.l.l.l), .inBlock 0, .code (B_r06_Plain.r.r.r.r)] w
noncomputable def N_r06_Plain.j7 (Q : Value → World → Prop) (w : World) : Prop := Nd X_r06_Plain Q [] [.code (B_r06_Plain.r.r.r.l.l.l.r.l.r.l.r.l.l), .code (B_r06_Plain.r.r.r.l.l.l.r.l.r.l.r.l.r), .code (B_r06_Plain.r.r.r.l.l.l.r.l.r.r), .inBlock 1, .inLoop (B_r06_Plain.r.r.r.l.l.l), .inBlock 0, .code (B_r06_Plain.r.r.r.r)] w
noncomputable def N_r06_Plain.j8 (Q : Value → World → Prop) (s0 : ByteArray) (s3 : Int) (s4 : Int) (w : World) : Prop := Nd X_r06_Plain Q [(0, 0, .string s0), (3, 3, .int .i64 s3), (4, 4, .int .i64 s4)] [.code (B_r06_Plain.r.r.r.l.l.l.r.l.r.r), .inBlock 1, .inLoop (B_r06_Plain.r.r.r.l.l.l), .inBlock 0, .code (B_r06_Plain.r.r.r.r)] w
theorem N_r06_Plain.j4_eq (Q : Value → World → Prop) (s0 : ByteArray) (s3 : Int) (w : World) (h :
  cond (decide (s3 < ((s0.size : Nat) : Int)))
  ((0 : Int) ≤ s3 ∧
  s3 ≤ ((s0.size : Nat) : Int) ∧
  C_r06_letter #[.string (s0.extract (Int.toNat s3) s0.size)] w fun v1 w2 =>
  opnI .i64 (some v1) fun x3 =>
  cond (x3 == 0)
  (N_r06_Plain.j7 Q w2)
  ((0 : Int) ≤ s3 ∧
  s3 < ((s0.size : Nat) : Int) ∧
  cond ((bt s0 (Int.toNat s3)) == 127)
  (N_r06_Plain.j7 Q w2)
  ((0 : Int) ≤ s3 ∧
  s3 < ((s0.size : Nat) : Int) ∧
  cond (decide ((bt s0 (Int.toNat s3)) < 32))
  ((0 : Int) ≤ s3 ∧
  s3 < ((s0.size : Nat) : Int) ∧
  cond ((bt s0 (Int.toNat s3)) != 10)
  (N_r06_Plain.j7 Q w2)
  (N_r06_Plain.j8 Q s0 s3 x3 w2))
  (N_r06_Plain.j8 Q s0 s3 x3 w2))))
  (Q (.int .i64 0) w)) :
N_r06_Plain.j4 Q s0 s3 w := Nd_fold K_r06_Plain (by kernel_rfl) h
theorem N_r06_Plain.j7_eq (Q : Value → World → Prop) (w : World) (h :
  Q (.int .i64 65) w) :
N_r06_Plain.j7 Q w := Nd_fold K_r06_Plain (by kernel_rfl) h
theorem N_r06_Plain.j8_eq (Q : Value → World → Prop) (s0 : ByteArray) (s3 : Int) (s4 : Int) (w : World) (h :
  N_r06_Plain.j4 Q s0 (IntKind.wrap .i64 (s3 + s4)) w) :
N_r06_Plain.j8 Q s0 s3 s4 w := Nd_fold K_r06_Plain (by kernel_rfl) h
theorem C_r06_Plain_eq (Q : Value → World → Prop) (a0 : ByteArray) (w : World) (h :
  cond (decide (((a0.size : Nat) : Int) > 1048576))
  (Q (.int .i64 2) w)
  (N_r06_Plain.j4 Q a0 0 w)) :
C_r06_Plain #[.string a0] w Q := C_fold K_r06_Plain (by kernel_rfl) h
/-! ### ledger/ledgerref07.holds -/
noncomputable def B_r07_holds : Code := match Tryd.f35.body with | some c => c | _ => .skip
noncomputable def X_r07_holds : Cx := { P := PP, fn := 35, N := 24, tab := tab, results := [.tmp 4], iter := fun _ => (.none, .none), dyn := fun _ => false, live := fun r => cond (Nat.beq r 2) (some [0, 1, 5]) (none) }
theorem K_r07_holds : OkF X_r07_holds B_r07_holds Tryd.f35 := ⟨⟨tab_ok, mix_ok⟩, Tryd.func35, by kernel_rfl, by kernel_rfl, by kernel_rfl, by kernel_rfl⟩
noncomputable def N_r07_holds.j2 (Q : Value → World → Prop) (s0 : ByteArray) (s1 : ByteArray) (s5 : Int) (w : World) : Prop := Nd X_r07_holds Q [(0, 0, .string s0), (1, 1, .string s1), (5, 5, .int .i64 s5)] [.code (B_r07_holds.r.l.r.l.l.l.l), .code (B_r07_holds.r.l.r.l.l.l.r), .code (B_r07_holds.r.l.r.l.l.r), .inLoop (B_r07_holds.r.l.r.l.l), .inBlock 0, .code (B_r07_holds.r.r)] w
theorem N_r07_holds.j2_eq (Q : Value → World → Prop) (s0 : ByteArray) (s1 : ByteArray) (s5 : Int) (w : World) (h :
  cond (decide ((IntKind.wrap .i64 (s5 + ((s1.size : Nat) : Int))) ≤ ((s0.size : Nat) : Int)))
  ((0 : Int) ≤ (IntKind.wrap .i64 (s5 + ((s1.size : Nat) : Int))) ∧
  (IntKind.wrap .i64 (s5 + ((s1.size : Nat) : Int))) ≤ ((s0.size : Nat) : Int) ∧
  (0 : Int) ≤ s5 ∧
  s5 ≤ (IntKind.wrap .i64 (s5 + ((s1.size : Nat) : Int))) ∧
  cond ((s0.extract (Int.toNat s5) (Int.toNat (IntKind.wrap .i64 (s5 + ((s1.size : Nat) : Int))))).toList == s1.toList)
  (Q (.bool true) w)
  (N_r07_holds.j2 Q s0 s1 (IntKind.wrap .i64 (s5 + 1)) w))
  (Q (.bool false) w)) :
N_r07_holds.j2 Q s0 s1 s5 w := Nd_fold K_r07_holds (by kernel_rfl) h
theorem C_r07_holds_eq (Q : Value → World → Prop) (a0 : ByteArray) (a1 : ByteArray) (w : World) (h :
  N_r07_holds.j2 Q a0 a1 0 w) :
C_r07_holds #[.string a0, .string a1] w Q := C_fold K_r07_holds (by kernel_rfl) h
/-! ### ledger/ledgerref06.letter -/
noncomputable def B_r06_letter : Code := match Tryd.f54.body with | some c => c | _ => .skip
noncomputable def X_r06_letter : Cx := { P := PP, fn := 54, N := 81, tab := tab, results := [.tmp 2], iter := fun _ => (.none, .none), dyn := fun _ => false, live := fun r => cond (Nat.beq r 5) (some []) (cond (Nat.beq r 12) (some [0, 3]) (cond (Nat.beq r 13) (some [0, 3]) (cond (Nat.beq r 14) (some [0, 3, 4]) (cond (Nat.beq r 15) (some [0, 4, 5]) (cond (Nat.beq r 16) (some [0, 3]) (cond (Nat.beq r 17) (some [0, 3]) (cond (Nat.beq r 18) (some [0, 3, 4]) (cond (Nat.beq r 19) (some [0, 4, 5]) (cond (Nat.beq r 20) (some [0, 4, 5, 6]) (cond (Nat.beq r 21) (some []) (cond (Nat.beq r 22) (some [0, 4, 5, 6]) (cond (Nat.beq r 23) (some [0, 4, 5, 6, 7]) (cond (Nat.beq r 29) (some []) (cond (Nat.beq r 30) (some [4]) (none))))))))))))))) }
theorem K_r06_letter : OkF X_r06_letter B_r06_letter Tryd.f54 := ⟨⟨tab_ok, mix_ok⟩, Tryd.func54, by kernel_rfl, by kernel_rfl, by kernel_rfl, by kernel_rfl⟩
noncomputable def N_r06_letter.j5 (Q : Value → World → Prop) (w : World) : Prop := Nd X_r06_letter Q [] [.code (B_r06_letter.r.r.r.r.r.l.l.r.r.r.r.r.r.r.r.l), .code (B_r06_letter.r.r.r.r.r.l.l.r.r.r.r.r.r.r.r.r), .inBlock 0, .code (B_r06_letter.r.r.r.r.r.r)] w
noncomputable def N_r06_letter.j12 (Q : Value → World → Prop) (s0 : ByteArray) (s3 : Int) (w : World) : Prop := Nd X_r06_letter Q [(0, 0, .string s0), (3, 3, .int .i64 s3)] [.code (B_r06_letter.r.r.r.r.r.l.l.r.r.r.r.l), .code (B_r06_letter.r.r.r.r.r.l.l.r.r.r.r.r), .inBlock 0, .code (B_r06_letter.r.r.r.r.r.r)] w
noncomputable def N_r06_letter.j13 (Q : Value → World → Prop) (s0 : ByteArray) (s3 : Int) (w : World) : Prop := Nd X_r06_letter Q [(0, 0, .string s0), (3, 3, .int .i64 s3)] [.code (B_r06_letter.r.r.r.r.r.l.l.r.r.r.r.r.l.l), .code (B_r06_letter.r.r.r.r.r.l.l.r.r.r.r.r.l.r), .inBlock 0, .code (B_r06_letter.r.r.r.r.r.r)] w
noncomputable def N_r06_letter.j14 (Q : Value → World → Prop) (s0 : ByteArray) (s3 : Int) (s4 : Int) (w : World) : Prop := Nd X_r06_letter Q [(0, 0, .string s0), (3, 3, .int .i64 s3), (4, 4, .int .i64 s4)] [.code (B_r06_letter.r.r.r.r.r.l.l.r.r.r.r.r.l.r.l), .code (B_r06_letter.r.r.r.r.r.l.l.r.r.r.r.r.l.r.r), .inBlock 0, .code (B_r06_letter.r.r.r.r.r.r)] w
noncomputable def N_r06_letter.j15 (Q : Value → World → Prop) (s0 : ByteArray) (s4 : Int) (s5 : Int) (w : World) : Prop := Nd X_r06_letter Q [(0, 0, .string s0), (4, 4, .int .i64 s4), (5, 5, .int .i64 s5)] [.code (B_r06_letter.r.r.r.r.r.l.l.r.r.r.r.r.l.r.r), .inBlock 0, .code (B_r06_letter.r.r.r.r.r.r)] w
noncomputable def N_r06_letter.j16 (Q : Value → World → Prop) (s0 : ByteArray) (s3 : Int) (w : World) : Prop := Nd X_r06_letter Q [(0, 0, .string s0), (3, 3, .int .i64 s3)] [.code (B_r06_letter.r.r.r.r.r.l.l.r.r.r.r.r.r.l), .code (B_r06_letter.r.r.r.r.r.l.l.r.r.r.r.r.r.r), .inBlock 0, .code (B_r06_letter.r.r.r.r.r.r)] w
noncomputable def N_r06_letter.j17 (Q : Value → World → Prop) (s0 : ByteArray) (s3 : Int) (w : World) : Prop := Nd X_r06_letter Q [(0, 0, .string s0), (3, 3, .int .i64 s3)] [.code (B_r06_letter.r.r.r.r.r.l.l.r.r.r.r.r.r.r.l.l), .code (B_r06_letter.r.r.r.r.r.l.l.r.r.r.r.r.r.r.l.r), .inBlock 0, .code (B_r06_letter.r.r.r.r.r.r)] w
noncomputable def N_r06_letter.j18 (Q : Value → World → Prop) (s0 : ByteArray) (s3 : Int) (s4 : Int) (w : World) : Prop := Nd X_r06_letter Q [(0, 0, .string s0), (3, 3, .int .i64 s3), (4, 4, .int .i64 s4)] [.code (B_r06_letter.r.r.r.r.r.l.l.r.r.r.r.r.r.r.l.r.l), .code (B_r06_letter.r.r.r.r.r.l.l.r.r.r.r.r.r.r.l.r.r), .inBlock 0, .code (B_r06_letter.r.r.r.r.r.r)] w
noncomputable def N_r06_letter.j19 (Q : Value → World → Prop) (s0 : ByteArray) (s4 : Int) (s5 : Int) (w : World) : Prop := Nd X_r06_letter Q [(0, 0, .string s0), (4, 4, .int .i64 s4), (5, 5, .int .i64 s5)] [.code (B_r06_letter.r.r.r.r.r.l.l.r.r.r.r.r.r.r.l.r.r), .inBlock 0, .code (B_r06_letter.r.r.r.r.r.r)] w
noncomputable def N_r06_letter.j20 (Q : Value → World → Prop) (s0 : ByteArray) (s4 : Int) (s5 : Int) (s6 : Int) (w : World) : Prop := Nd X_r06_letter Q [(0, 0, .string s0), (4, 4, .int .i64 s4), (5, 5, .int .i64 s5), (6, 6, .int .i64 s6)] [.code (B_r06_letter.r.r.r.r.r.r.l.l), .code (B_r06_letter.r.r.r.r.r.r.l.r), .code (B_r06_letter.r.r.r.r.r.r.r)] w
noncomputable def N_r06_letter.j21 (Q : Value → World → Prop) (w : World) : Prop := Nd X_r06_letter Q [] [.code (B_r06_letter.r.r.r.r.r.r.l.r.l.l), .code (B_r06_letter.r.r.r.r.r.r.l.r.l.r), .code (B_r06_letter.r.r.r.r.r.r.r)] w
noncomputable def N_r06_letter.j22 (Q : Value → World → Prop) (s0 : ByteArray) (s4 : Int) (s5 : Int) (s6 : Int) (w : World) : Prop := Nd X_r06_letter Q [(0, 0, .string s0), (4, 4, .int .i64 s4), (5, 5, .int .i64 s5), (6, 6, .int .i64 s6)] [.code (B_r06_letter.r.r.r.r.r.r.r.l.l), .code (B_r06_letter.r.r.r.r.r.r.r.l.r), .code (B_r06_letter.r.r.r.r.r.r.r.r)] w
noncomputable def N_r06_letter.j23 (Q : Value → World → Prop) (s0 : ByteArray) (s4 : Int) (s5 : Int) (s6 : Int) (s7 : Int) (w : World) : Prop := Nd X_r06_letter Q [(0, 0, .string s0), (4, 4, .int .i64 s4), (5, 5, .int .i64 s5), (6, 6, .int .i64 s6), (7, 7, .int .i64 s7)] [.code (B_r06_letter.r.r.r.r.r.r.r.l.r.l.l.l.l), .code (B_r06_letter.r.r.r.r.r.r.r.l.r.l.l.l.r), .code (B_r06_letter.r.r.r.r.r.r.r.l.r.l.l.r), .inLoop (B_r06_letter.r.r.r.r.r.r.r.l.r.l.l), .inBlock 1, .code (B_r06_letter.r.r.r.r.r.r.r.r)] w
noncomputable def N_r06_letter.j29 (Q : Value → World → Prop) (w : World) : Prop := Nd X_r06_letter Q [] [.code (B_r06_letter.r.r.r.r.r.r.r.r.l.r.l.l), .code (B_r06_letter.r.r.r.r.r.r.r.r.l.r.l.r), .code (B_r06_letter.r.r.r.r.r.r.r.r.r)] w
noncomputable def N_r06_letter.j30 (Q : Value → World → Prop) (s4 : Int) (w : World) : Prop := Nd X_r06_letter Q [(4, 4, .int .i64 s4)] [.code (B_r06_letter.r.r.r.r.r.r.r.r.r.l), .code (B_r06_letter.r.r.r.r.r.r.r.r.r.r)] w
theorem N_r06_letter.j5_eq (Q : Value → World → Prop) (w : World) (h :
  Q (.int .i64 0) w) :
N_r06_letter.j5 Q w := Nd_fold K_r06_letter (by kernel_rfl) h
theorem N_r06_letter.j12_eq (Q : Value → World → Prop) (s0 : ByteArray) (s3 : Int) (w : World) (h :
  cond (decide (s3 ≥ 224))
  (cond (decide (s3 < 240))
  (N_r06_letter.j13 Q s0 s3 w)
  (N_r06_letter.j16 Q s0 s3 w))
  (N_r06_letter.j16 Q s0 s3 w)) :
N_r06_letter.j12 Q s0 s3 w := Nd_fold K_r06_letter (by kernel_rfl) h
theorem N_r06_letter.j13_eq (Q : Value → World → Prop) (s0 : ByteArray) (s3 : Int) (w : World) (h :
  N_r06_letter.j14 Q s0 s3 2 w) :
N_r06_letter.j13 Q s0 s3 w := Nd_fold K_r06_letter (by kernel_rfl) h
theorem N_r06_letter.j14_eq (Q : Value → World → Prop) (s0 : ByteArray) (s3 : Int) (s4 : Int) (w : World) (h :
  16 ≠ (0 : Int) ∧
  N_r06_letter.j15 Q s0 s4 (Int.tmod s3 16) w) :
N_r06_letter.j14 Q s0 s3 s4 w := Nd_fold K_r06_letter (by kernel_rfl) h
theorem N_r06_letter.j15_eq (Q : Value → World → Prop) (s0 : ByteArray) (s4 : Int) (s5 : Int) (w : World) (h :
  N_r06_letter.j20 Q s0 s4 s5 2048 w) :
N_r06_letter.j15 Q s0 s4 s5 w := Nd_fold K_r06_letter (by kernel_rfl) h
theorem N_r06_letter.j16_eq (Q : Value → World → Prop) (s0 : ByteArray) (s3 : Int) (w : World) (h :
  cond (decide (s3 ≥ 240))
  (cond (decide (s3 < 248))
  (N_r06_letter.j17 Q s0 s3 w)
  (N_r06_letter.j5 Q w))
  (N_r06_letter.j5 Q w)) :
N_r06_letter.j16 Q s0 s3 w := Nd_fold K_r06_letter (by kernel_rfl) h
theorem N_r06_letter.j17_eq (Q : Value → World → Prop) (s0 : ByteArray) (s3 : Int) (w : World) (h :
  N_r06_letter.j18 Q s0 s3 3 w) :
N_r06_letter.j17 Q s0 s3 w := Nd_fold K_r06_letter (by kernel_rfl) h
theorem N_r06_letter.j18_eq (Q : Value → World → Prop) (s0 : ByteArray) (s3 : Int) (s4 : Int) (w : World) (h :
  8 ≠ (0 : Int) ∧
  N_r06_letter.j19 Q s0 s4 (Int.tmod s3 8) w) :
N_r06_letter.j18 Q s0 s3 s4 w := Nd_fold K_r06_letter (by kernel_rfl) h
theorem N_r06_letter.j19_eq (Q : Value → World → Prop) (s0 : ByteArray) (s4 : Int) (s5 : Int) (w : World) (h :
  N_r06_letter.j20 Q s0 s4 s5 65536 w) :
N_r06_letter.j19 Q s0 s4 s5 w := Nd_fold K_r06_letter (by kernel_rfl) h
theorem N_r06_letter.j20_eq (Q : Value → World → Prop) (s0 : ByteArray) (s4 : Int) (s5 : Int) (s6 : Int) (w : World) (h :
  cond (decide (((s0.size : Nat) : Int) ≤ s4))
  (N_r06_letter.j21 Q w)
  (N_r06_letter.j22 Q s0 s4 s5 s6 w)) :
N_r06_letter.j20 Q s0 s4 s5 s6 w := Nd_fold K_r06_letter (by kernel_rfl) h
theorem N_r06_letter.j21_eq (Q : Value → World → Prop) (w : World) (h :
  Q (.int .i64 0) w) :
N_r06_letter.j21 Q w := Nd_fold K_r06_letter (by kernel_rfl) h
theorem N_r06_letter.j22_eq (Q : Value → World → Prop) (s0 : ByteArray) (s4 : Int) (s5 : Int) (s6 : Int) (w : World) (h :
  N_r06_letter.j23 Q s0 s4 s5 s6 1 w) :
N_r06_letter.j22 Q s0 s4 s5 s6 w := Nd_fold K_r06_letter (by kernel_rfl) h
theorem N_r06_letter.j23_eq (Q : Value → World → Prop) (s0 : ByteArray) (s4 : Int) (s5 : Int) (s6 : Int) (s7 : Int) (w : World) (h :
  cond (decide (s7 ≤ s4))
  ((0 : Int) ≤ s7 ∧
  s7 < ((s0.size : Nat) : Int) ∧
  64 ≠ (0 : Int) ∧
  cond ((IntKind.wrap .u8 (Int.tdiv (bt s0 (Int.toNat s7)) 64)) != 2)
  (Q (.int .i64 0) w)
  ((0 : Int) ≤ s7 ∧
  s7 < ((s0.size : Nat) : Int) ∧
  64 ≠ (0 : Int) ∧
  N_r06_letter.j23 Q s0 s4 (IntKind.wrap .i64 ((IntKind.wrap .i64 (64 * s5)) + (IntKind.wrap .i64 (Int.tmod (bt s0 (Int.toNat s7)) 64)))) s6 (IntKind.wrap .i64 (s7 + 1)) w))
  (cond (decide (s5 < s6))
  (N_r06_letter.j29 Q w)
  (cond (decide (s5 > 1114111))
  (N_r06_letter.j29 Q w)
  (cond (decide (s5 ≥ 55296))
  (cond (decide (s5 ≤ 57343))
  (N_r06_letter.j29 Q w)
  (N_r06_letter.j30 Q s4 w))
  (N_r06_letter.j30 Q s4 w))))) :
N_r06_letter.j23 Q s0 s4 s5 s6 s7 w := Nd_fold K_r06_letter (by kernel_rfl) h
theorem N_r06_letter.j29_eq (Q : Value → World → Prop) (w : World) (h :
  Q (.int .i64 0) w) :
N_r06_letter.j29 Q w := Nd_fold K_r06_letter (by kernel_rfl) h
theorem N_r06_letter.j30_eq (Q : Value → World → Prop) (s4 : Int) (w : World) (h :
  Q (.int .i64 (IntKind.wrap .i64 (s4 + 1))) w) :
N_r06_letter.j30 Q s4 w := Nd_fold K_r06_letter (by kernel_rfl) h
theorem C_r06_letter_eq (Q : Value → World → Prop) (a0 : ByteArray) (w : World) (h :
  (0 : Int) ≤ 0 ∧
  0 < ((a0.size : Nat) : Int) ∧
  cond (decide ((IntKind.wrap .i64 (bt a0 (Int.toNat 0))) < 128))
  (Q (.int .i64 1) w)
  (cond (decide ((IntKind.wrap .i64 (bt a0 (Int.toNat 0))) ≥ 192))
  (cond (decide ((IntKind.wrap .i64 (bt a0 (Int.toNat 0))) < 224))
  (32 ≠ (0 : Int) ∧
  N_r06_letter.j20 Q a0 1 (Int.tmod (IntKind.wrap .i64 (bt a0 (Int.toNat 0))) 32) 128 w)
  (N_r06_letter.j12 Q a0 (IntKind.wrap .i64 (bt a0 (Int.toNat 0))) w))
  (N_r06_letter.j12 Q a0 (IntKind.wrap .i64 (bt a0 (Int.toNat 0))) w))) :
C_r06_letter #[.string a0] w Q := C_fold K_r06_letter (by kernel_rfl) h
end Go.Proofs.YtbckabomelngmaaDoor
