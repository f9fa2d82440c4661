/- ShF1, ShF2, ShF3, ShF4 -/
import Derived.Test.YtcigjlbpdkkflaaGreatDoorPkB
set_option maxRecDepth 100000
namespace Go.Proofs.YtcigjlbpdkkflaaGreatDoor
open Go.Sh
noncomputable def B_l16_within : Code := match Tryz.f9.body with | some c => c | _ => .skip
noncomputable def X_l16_within : Cx := { P := PP, fn := 9, N := 12, tab := tab, results := [.tmp 4], iter := fun _ => (.none, .none), dyn := fun _ => false, live := fun _ => none }
theorem K_l16_within : OkF X_l16_within B_l16_within Tryz.f9 := ⟨⟨tab_ok, mix_ok⟩, Tryz.func9, by kernel_rfl, by kernel_rfl, by kernel_rfl, by kernel_rfl⟩
theorem C_l16_within_eq (Q : Value → World → Prop) (a0 : Int) (a1 : Int) (w : World) (h :
  a1 ≠ (0 : Int) ∧
  a1 ≠ (0 : Int) ∧
  Q (.int .i64 (Int.tmod (IntKind.wrap .i64 ((Int.tmod a0 a1) + a1)) a1)) w) :
C_l16_within #[.int .i64 a0, .int .i64 a1] w Q := C_fold K_l16_within (by kernel_rfl) h
noncomputable def B_l16_loaded : Code := match Tryz.f10.body with | some c => c | _ => .skip
noncomputable def X_l16_loaded : Cx := { P := PP, fn := 10, N := 43, tab := tab, results := [.tmp 2, .tmp 3], iter := fun _ => (.none, .none), dyn := fun _ => false, live := fun r => cond (Nat.beq r 3) (some [0, 4, 5]) (none) }
theorem K_l16_loaded : OkF X_l16_loaded B_l16_loaded Tryz.f10 := ⟨⟨tab_ok, mix_ok⟩, Tryz.func10, by kernel_rfl, by kernel_rfl, by kernel_rfl, by kernel_rfl⟩
noncomputable def N_l16_loaded.j3 (Q : Value → World → Prop) (s0 : Option Addr) (s0n : Nat) (s0c : Nat) (s4 : Option Addr) (s4n : Nat) (s4c : Nat) (s5 : Int) (w : World) : Prop := Nd X_l16_loaded Q [(0, 0, .slice s0 s0n s0c), (4, 4, .slice s4 s4n s4c), (5, 5, .int .i64 s5)] [.code (B_l16_loaded.r.r.l.r.l.l.l.l), .code (B_l16_loaded.r.r.l.r.l.l.l.r), .code (B_l16_loaded.r.r.l.r.l.l.r), .inLoop (B_l16_loaded.r.r.l.r.l.l), .inBlock 0, .code (B_l16_loaded.r.r.r)] w
theorem N_l16_loaded.j3_eq (Q : Value → World → Prop) (s0 : Option Addr) (s0n : Nat) (s0c : Nat) (s4 : Option Addr) (s4n : Nat) (s4c : Nat) (s5 : Int) (w : World) (h :
  cond (decide (s5 < ((s0n : Nat) : Int)))
  (drw w fun w1 =>
  (0 : Int) ≤ s5 ∧
  s5 < ((s0n : Nat) : Int) ∧
  opnA s0 fun ad2 =>
  (0 : Int) ≤ s5 ∧
  s5 < ((s0n : Nat) : Int) ∧
  opnA s0 fun ad3 =>
  opnS (w1.cell? ((ad2.add (Int.toNat s5 * 2)).add 0)) fun x4 =>
  opnL (w1.cell? ((ad3.add (Int.toNat s5 * 2)).add 1)) fun x5 x5n x5c =>
  semR PP (convert 24 9 (.slice x5 x5n x5c)) w1 fun x6 =>
  opnS (some x6) fun x7 =>
  sem PP (convert 9 24 (.string x7)) w1 fun v8 w9 =>
  opnL (some v8) fun x10 x10n x10c =>
  (opnS (w9.cell? ((ad2.add (Int.toNat s5 * 2)).add 0)) fun x11 =>
  ((.string x11) : Value) = .string x4) ∧
  alC #[.string x4, .slice x10 x10n x10c] 26 w9 fun p12 w13 =>
  sem PP (Builtin.append_ #[22, 22] 22 #[.slice s4 s4n s4c, .slice (some p12) 1 1]) w13 fun v14 w15 =>
  opnL (some v14) fun x16 x16n x16c =>
  N_l16_loaded.j3 Q s0 s0n s0c x16 x16n x16c (IntKind.wrap .i64 (s5 + 1)) w15)
  (C_disk_Load #[.int .i64 1099511627776, .slice s4 s4n s4c] w fun v17 w18 =>
  opnT (some v17) fun x19 =>
  x19.size = 2 ∧
  opnP (x19[0]?) fun x20 =>
  opnI .i64 (x19[1]?) fun x21 =>
  C_l16_num #[.int .i64 x21] w18 fun v22 w23 =>
  opnI .i64 (some v22) fun x24 =>
  cond (x24 == 0)
  (semR PP (do eqGuard .neq 27 (.tmp 40) (.const (.pointer none)) (.pointer x20) (.pointer none); binOp .neq 27 (.pointer x20) (.pointer none)) w23 fun x25 =>
  opnB (some x25) fun x26 =>
  Q (.tuple #[.pointer x20, .bool x26]) w23)
  (Q (.tuple #[.pointer x20, .bool false]) w23))) :
N_l16_loaded.j3 Q s0 s0n s0c s4 s4n s4c s5 w := Nd_fold K_l16_loaded (by kernel_rfl) h
theorem C_l16_loaded_eq (Q : Value → World → Prop) (a0 : Option Addr) (a0n : Nat) (a0c : Nat) (w : World) (h :
  N_l16_loaded.j3 Q a0 a0n a0c none 0 0 0 w) :
C_l16_loaded #[.slice a0 a0n a0c] w Q := C_fold K_l16_loaded (by kernel_rfl) h
noncomputable def B_cache_Open : Code := match Tryz.f11.body with | some c => c | _ => .skip
noncomputable def X_cache_Open : Cx := { P := PP, fn := 11, N := 144, tab := tab, results := [.tmp 6, .tmp 7], iter := fun _ => (.none, .none), dyn := fun _ => false, live := fun r => cond (Nat.beq r 4) (some []) (cond (Nat.beq r 14) (some [0, 2, 8, 11, 12, 13, 61, 62, 63]) (cond (Nat.beq r 20) (some [0, 2, 8, 11, 12, 13, 61, 62, 63]) (cond (Nat.beq r 22) (some [0, 2, 8, 12, 13, 88, 89, 90]) (cond (Nat.beq r 28) (some [0, 2, 8, 12, 13, 19, 88, 89, 90]) (cond (Nat.beq r 29) (some [0, 2, 8, 12, 13, 21, 88, 89, 90]) (cond (Nat.beq r 30) (some [21]) (cond (Nat.beq r 31) (some [0, 2, 8, 12, 13, 88, 89, 90]) (none)))))))) }
theorem K_cache_Open : OkF X_cache_Open B_cache_Open Tryz.f11 := ⟨⟨tab_ok, mix_ok⟩, Tryz.func11, by kernel_rfl, by kernel_rfl, by kernel_rfl, by kernel_rfl⟩
noncomputable def N_cache_Open.j4 (Q : Value → World → Prop) (w : World) : Prop := Nd X_cache_Open Q [] [.code (B_cache_Open.r.r.l.r.l.l), .code (B_cache_Open.r.r.l.r.l.r), .code (B_cache_Open.r.r.r)] w
noncomputable def N_cache_Open.j14 (Q : Value → World → Prop) (s0 : Option Addr) (s2 : Int) (s8 : Addr) (s11 : Option Addr) (s11n : Nat) (s11c : Nat) (s12 : Option Nat) (s13 : Option Nat) (s61 : Option Addr) (s61n : Nat) (s61c : Nat) (s62 : Int) (s63 : Int) (w : World) : Prop := Nd X_cache_Open Q [(0, 0, .pointer s0), (2, 2, .int .i64 s2), (8, 8, .pointer (some s8)), (11, 11, .slice s11 s11n s11c), (12, 12, .map s12), (13, 13, .map s13), (61, 61, .slice s61 s61n s61c), (62, 62, .int .i64 s62), (63, 63, .int .i64 s63)] [.code (B_cache_Open.r.r.r.r.r.r.r.r.r.r.l.r.l.l.l), .code (B_cache_Open.r.r.r.r.r.r.r.r.r.r.l.r.l.l.r), .inLoop (B_cache_Open.r.r.r.r.r.r.r.r.r.r.l.r.l.l), .inBlock 0, .code (B_cache_Open.r.r.r.r.r.r.r.r.r.r.r)] w
noncomputable def N_cache_Open.j20 (Q : Value → World → Prop) (s0 : Option Addr) (s2 : Int) (s8 : Addr) (s11 : Option Addr) (s11n : Nat) (s11c : Nat) (s12 : Option Nat) (s13 : Option Nat) (s61 : Option Addr) (s61n : Nat) (s61c : Nat) (s62 : Int) (s63 : Int) (w : World) : Prop := Nd X_cache_Open Q [(0, 0, .pointer s0), (2, 2, .int .i64 s2), (8, 8, .pointer (some s8)), (11, 11, .slice s11 s11n s11c), (12, 12, .map s12), (13, 13, .map s13), (61, 61, .slice s61 s61n s61c), (62, 62, .int .i64 s62), (63, 63, .int .i64 s63)] [.code (B_cache_Open.r.r.r.r.r.r.r.r.r.r.l.r.l.l.r.r.r), .inLoop (B_cache_Open.r.r.r.r.r.r.r.r.r.r.l.r.l.l), .inBlock 0, .code (B_cache_Open.r.r.r.r.r.r.r.r.r.r.r)] w
noncomputable def N_cache_Open.j22 (Q : Value → World → Prop) (s0 : Option Addr) (s2 : Int) (s8 : Addr) (s12 : Option Nat) (s13 : Option Nat) (s88 : Option Addr) (s88n : Nat) (s88c : Nat) (s89 : Int) (s90 : Int) (w : World) : Prop := Nd X_cache_Open Q [(0, 0, .pointer s0), (2, 2, .int .i64 s2), (8, 8, .pointer (some s8)), (12, 12, .map s12), (13, 13, .map s13), (88, 88, .slice s88 s88n s88c), (89, 89, .int .i64 s89), (90, 90, .int .i64 s90)] [.code (B_cache_Open.r.r.r.r.r.r.r.r.r.r.r.l.r.l.l.l), .code (B_cache_Open.r.r.r.r.r.r.r.r.r.r.r.l.r.l.l.r), .inLoop (B_cache_Open.r.r.r.r.r.r.r.r.r.r.r.l.r.l.l), .inBlock 2, .code (B_cache_Open.r.r.r.r.r.r.r.r.r.r.r.r)] w
noncomputable def N_cache_Open.j28 (Q : Value → World → Prop) (s0 : Option Addr) (s2 : Int) (s8 : Addr) (s12 : Option Nat) (s13 : Option Nat) (s19 : ByteArray) (s88 : Option Addr) (s88n : Nat) (s88c : Nat) (s89 : Int) (s90 : Int) (w : World) : Prop := Nd X_cache_Open Q [(0, 0, .pointer s0), (2, 2, .int .i64 s2), (8, 8, .pointer (some s8)), (12, 12, .map s12), (13, 13, .map s13), (19, 19, .string s19), (88, 88, .slice s88 s88n s88c), (89, 89, .int .i64 s89), (90, 90, .int .i64 s90)] [.code (B_cache_Open.r.r.r.r.r.r.r.r.r.r.r.l.r.l.l.r.r.l.l.r.r.r.r.l), .code (B_cache_Open.r.r.r.r.r.r.r.r.r.r.r.l.r.l.l.r.r.l.l.r.r.r.r.r), .inBlock 3, .code (B_cache_Open.r.r.r.r.r.r.r.r.r.r.r.l.r.l.l.r.r.r), .inLoop (B_cache_Open.r.r.r.r.r.r.r.r.r.r.r.l.r.l.l), .inBlock 2, .code (B_cache_Open.r.r.r.r.r.r.r.r.r.r.r.r)] w
noncomputable def N_cache_Open.j29 (Q : Value → World → Prop) (s0 : Option Addr) (s2 : Int) (s8 : Addr) (s12 : Option Nat) (s13 : Option Nat) (s21 : Int) (s88 : Option Addr) (s88n : Nat) (s88c : Nat) (s89 : Int) (s90 : Int) (w : World) : Prop := Nd X_cache_Open Q [(0, 0, .pointer s0), (2, 2, .int .i64 s2), (8, 8, .pointer (some s8)), (12, 12, .map s12), (13, 13, .map s13), (21, 21, .int .i64 s21), (88, 88, .slice s88 s88n s88c), (89, 89, .int .i64 s89), (90, 90, .int .i64 s90)] [.code (B_cache_Open.r.r.r.r.r.r.r.r.r.r.r.l.r.l.l.r.r.l.l.r.r.r.r.r.l), .code (B_cache_Open.r.r.r.r.r.r.r.r.r.r.r.l.r.l.l.r.r.l.l.r.r.r.r.r.r), .inBlock 3, .code (B_cache_Open.r.r.r.r.r.r.r.r.r.r.r.l.r.l.l.r.r.r), .inLoop (B_cache_Open.r.r.r.r.r.r.r.r.r.r.r.l.r.l.l), .inBlock 2, .code (B_cache_Open.r.r.r.r.r.r.r.r.r.r.r.r)] w
noncomputable def N_cache_Open.j30 (Q : Value → World → Prop) (s21 : Int) (w : World) : Prop := Nd X_cache_Open Q [(21, 21, .int .i64 s21)] [.code (B_cache_Open.r.r.r.r.r.r.r.r.r.r.r.l.r.l.l.r.r.l.l.r.r.r.r.r.r.l.l), .code (B_cache_Open.r.r.r.r.r.r.r.r.r.r.r.l.r.l.l.r.r.l.l.r.r.r.r.r.r.l.r), .inBlock 3, .code (B_cache_Open.r.r.r.r.r.r.r.r.r.r.r.l.r.l.l.r.r.r), .inLoop (B_cache_Open.r.r.r.r.r.r.r.r.r.r.r.l.r.l.l), .inBlock 2, .code (B_cache_Open.r.r.r.r.r.r.r.r.r.r.r.r)] w
noncomputable def N_cache_Open.j31 (Q : Value → World → Prop) (s0 : Option Addr) (s2 : Int) (s8 : Addr) (s12 : Option Nat) (s13 : Option Nat) (s88 : Option Addr) (s88n : Nat) (s88c : Nat) (s89 : Int) (s90 : Int) (w : World) : Prop := Nd X_cache_Open Q [(0, 0, .pointer s0), (2, 2, .int .i64 s2), (8, 8, .pointer (some s8)), (12, 12, .map s12), (13, 13, .map s13), (88, 88, .slice s88 s88n s88c), (89, 89, .int .i64 s89), (90, 90, .int .i64 s90)] [.code (B_cache_Open.r.r.r.r.r.r.r.r.r.r.r.l.r.l.l.r.r.r), .inLoop (B_cache_Open.r.r.r.r.r.r.r.r.r.r.r.l.r.l.l), .inBlock 2, .code (B_cache_Open.r.r.r.r.r.r.r.r.r.r.r.r)] w
theorem N_cache_Open.j4_eq (Q : Value → World → Prop) (w : World) (h :
  Q (.tuple #[.pointer none, .int .i64 1]) w) :
N_cache_Open.j4 Q w := Nd_fold K_cache_Open (by kernel_rfl) h
theorem N_cache_Open.j14_eq (Q : Value → World → Prop) (s0 : Option Addr) (s2 : Int) (s8 : Addr) (s11 : Option Addr) (s11n : Nat) (s11c : Nat) (s12 : Option Nat) (s13 : Option Nat) (s61 : Option Addr) (s61n : Nat) (s61c : Nat) (s62 : Int) (s63 : Int) (w : World) (h :
  cond (decide (s63 < s62))
  ((0 : Int) ≤ s63 ∧
  s63 < ((s61n : Nat) : Int) ∧
  opnA s61 fun ad1 =>
  opnS (w.cell? (ad1.add (Int.toNat s63 * 1))) fun x2 =>
  C_p_cache_Cache_good #[.pointer (some s8), .string x2] w fun v3 w4 =>
  opnT (some v3) fun x5 =>
  x5.size = 2 ∧
  opnG (x5[0]?) fun x6 =>
  x6.size = 5 ∧
  opnI .i64 (x6[0]?) fun x7 =>
  opnI .i64 (x6[1]?) fun x8 =>
  opnI .i64 (x6[2]?) fun x9 =>
  opnI .i64 (x6[3]?) fun x10 =>
  opnB (x6[4]?) fun x11 =>
  opnB (x5[1]?) fun x12 =>
  alC #[.int .i64 0, .int .i64 0, .int .i64 0, .int .i64 0, .bool false] 41 w4 fun p13 w14 =>
  Array.size (#[.int .i64 x7, .int .i64 x8, .int .i64 x9, .int .i64 x10, .bool x11] : Array Value) = 5 ∧
  stC (p13.add 0) (.int .i64 x7) w14 fun w15 =>
  stC (p13.add 1) (.int .i64 x8) w15 fun w16 =>
  stC (p13.add 2) (.int .i64 x9) w16 fun w17 =>
  stC (p13.add 3) (.int .i64 x10) w17 fun w18 =>
  stC (p13.add 4) (.bool x11) w18 fun w19 =>
  cond x12
  (opnI .i64 (w19.cell? (p13.add 0)) fun x20 =>
  opnI .i64 (w19.cell? (p13.add 1)) fun x21 =>
  opnI .i64 (w19.cell? (p13.add 2)) fun x22 =>
  opnI .i64 (w19.cell? (p13.add 3)) fun x23 =>
  opnB (w19.cell? (p13.add 4)) fun x24 =>
  semU PP (Instr.mapUpdate 102 (.map s12) (.string x2) (.agg #[.int .i64 x20, .int .i64 x21, .int .i64 x22, .int .i64 x23, .bool x24])) w19 fun w25 =>
  drw w25 fun w26 =>
  opnI .i64 (w26.cell? (p13.add 0)) fun x27 =>
  opnI .i64 (w26.cell? (p13.add 1)) fun x28 =>
  opnI .i64 (w26.cell? (p13.add 2)) fun x29 =>
  opnI .i64 (w26.cell? (p13.add 3)) fun x30 =>
  opnB (w26.cell? (p13.add 4)) fun x31 =>
  opnI .i64 (w26.cell? (p13.add 0)) fun x32 =>
  opnI .i64 (w26.cell? (p13.add 1)) fun x33 =>
  opnI .i64 (w26.cell? (p13.add 2)) fun x34 =>
  opnI .i64 (w26.cell? (p13.add 3)) fun x35 =>
  opnB (w26.cell? (p13.add 4)) fun x36 =>
  opnI .i64 (w26.cell? (p13.add 3)) fun x37 =>
  C_cache_numbersOf #[.agg #[.int .i64 x27, .int .i64 x28, .int .i64 x29, .int .i64 x30, .bool x31]] w26 fun v38 w39 =>
  opnG (some v38) fun x40 =>
  x40.size = 3 ∧
  opnI .i64 (x40[0]?) fun x41 =>
  opnI .i64 (x40[1]?) fun x42 =>
  opnI .i64 (x40[2]?) fun x43 =>
  (opnI .i64 (w39.cell? (p13.add 3)) fun x44 =>
  ((.int .i64 x44) : Value) = .int .i64 x37) ∧
  (opnI .i64 (w39.cell? (p13.add 0)) fun x45 =>
  opnI .i64 (w39.cell? (p13.add 1)) fun x46 =>
  opnI .i64 (w39.cell? (p13.add 2)) fun x47 =>
  opnI .i64 (w39.cell? (p13.add 3)) fun x48 =>
  opnB (w39.cell? (p13.add 4)) fun x49 =>
  ((.agg #[.int .i64 x45, .int .i64 x46, .int .i64 x47, .int .i64 x48, .bool x49]) : Value) = .agg #[.int .i64 x32, .int .i64 x33, .int .i64 x34, .int .i64 x35, .bool x36]) ∧
  C_cache_numbersOf #[.agg #[.int .i64 x32, .int .i64 x33, .int .i64 x34, .int .i64 x35, .bool x36]] w39 fun v50 w51 =>
  opnG (some v50) fun x52 =>
  x52.size = 3 ∧
  opnI .i64 (x52[0]?) fun x53 =>
  opnI .i64 (x52[1]?) fun x54 =>
  opnI .i64 (x52[2]?) fun x55 =>
  (opnI .i64 (w51.cell? (p13.add 3)) fun x56 =>
  ((.int .i64 x56) : Value) = .int .i64 x37) ∧
  semR PP (Instr.lookup 93 (.map s13) (.agg #[.int .i64 x53, .int .i64 x54, .int .i64 x55]) false) w51 fun x57 =>
  opnI .i64 (some x57) fun x58 =>
  semU PP (Instr.mapUpdate 93 (.map s13) (.agg #[.int .i64 x41, .int .i64 x42, .int .i64 x43]) (.int .i64 (if x37 > x58 then x37 else x58))) w51 fun w59 =>
  N_cache_Open.j20 Q s0 s2 s8 s11 s11n s11c s12 s13 s61 s61n s61c s62 s63 w59)
  (N_cache_Open.j20 Q s0 s2 s8 s11 s11n s11c s12 s13 s61 s61n s61c s62 s63 w19))
  (N_cache_Open.j22 Q s0 s2 s8 s12 s13 s11 s11n s11c ((s11n : Nat) : Int) 0 w)) :
N_cache_Open.j14 Q s0 s2 s8 s11 s11n s11c s12 s13 s61 s61n s61c s62 s63 w := Nd_fold K_cache_Open (by kernel_rfl) h
theorem N_cache_Open.j20_eq (Q : Value → World → Prop) (s0 : Option Addr) (s2 : Int) (s8 : Addr) (s11 : Option Addr) (s11n : Nat) (s11c : Nat) (s12 : Option Nat) (s13 : Option Nat) (s61 : Option Addr) (s61n : Nat) (s61c : Nat) (s62 : Int) (s63 : Int) (w : World) (h :
  N_cache_Open.j14 Q s0 s2 s8 s11 s11n s11c s12 s13 s61 s61n s61c s62 (IntKind.wrap .i64 (s63 + 1)) w) :
N_cache_Open.j20 Q s0 s2 s8 s11 s11n s11c s12 s13 s61 s61n s61c s62 s63 w := Nd_fold K_cache_Open (by kernel_rfl) h
theorem N_cache_Open.j22_eq (Q : Value → World → Prop) (s0 : Option Addr) (s2 : Int) (s8 : Addr) (s12 : Option Nat) (s13 : Option Nat) (s88 : Option Addr) (s88n : Nat) (s88c : Nat) (s89 : Int) (s90 : Int) (w : World) (h :
  cond (decide (s90 < s89))
  ((0 : Int) ≤ s90 ∧
  s90 < ((s88n : Nat) : Int) ∧
  opnA s88 fun ad1 =>
  opnS (w.cell? (ad1.add (Int.toNat s90 * 1))) fun x2 =>
  C_p_cache_Cache_headFile #[.pointer (some s8)] w fun v3 w4 =>
  opnS (some v3) fun x5 =>
  cond (x2.toList == x5.toList)
  (N_cache_Open.j31 Q s0 s2 s8 s12 s13 s88 s88n s88c s89 s90 w4)
  (semR PP (Instr.lookup 102 (.map s12) (.string x2) false) w4 fun x6 =>
  opnG (some x6) fun x7 =>
  x7.size = 5 ∧
  opnI .i64 (x7[0]?) fun x8 =>
  opnI .i64 (x7[1]?) fun x9 =>
  opnI .i64 (x7[2]?) fun x10 =>
  opnI .i64 (x7[3]?) fun x11 =>
  opnB (x7[4]?) fun x12 =>
  alC #[.int .i64 0, .int .i64 0, .int .i64 0, .int .i64 0, .bool false] 41 w4 fun p13 w14 =>
  Array.size (#[.int .i64 x8, .int .i64 x9, .int .i64 x10, .int .i64 x11, .bool x12] : Array Value) = 5 ∧
  stC (p13.add 0) (.int .i64 x8) w14 fun w15 =>
  stC (p13.add 1) (.int .i64 x9) w15 fun w16 =>
  stC (p13.add 2) (.int .i64 x10) w16 fun w17 =>
  stC (p13.add 3) (.int .i64 x11) w17 fun w18 =>
  stC (p13.add 4) (.bool x12) w18 fun w19 =>
  drw w19 fun w20 =>
  opnI .i64 (w20.cell? (p13.add 3)) fun x21 =>
  cond (decide (x21 > 0))
  (opnI .i64 (w20.cell? (p13.add 3)) fun x22 =>
  opnI .i64 (w20.cell? (p13.add 0)) fun x23 =>
  opnI .i64 (w20.cell? (p13.add 1)) fun x24 =>
  opnI .i64 (w20.cell? (p13.add 2)) fun x25 =>
  opnI .i64 (w20.cell? (p13.add 3)) fun x26 =>
  opnB (w20.cell? (p13.add 4)) fun x27 =>
  C_cache_numbersOf #[.agg #[.int .i64 x23, .int .i64 x24, .int .i64 x25, .int .i64 x26, .bool x27]] w20 fun v28 w29 =>
  opnG (some v28) fun x30 =>
  x30.size = 3 ∧
  opnI .i64 (x30[0]?) fun x31 =>
  opnI .i64 (x30[1]?) fun x32 =>
  opnI .i64 (x30[2]?) fun x33 =>
  (opnI .i64 (w29.cell? (p13.add 3)) fun x34 =>
  ((.int .i64 x34) : Value) = .int .i64 x22) ∧
  semR PP (Instr.lookup 93 (.map s13) (.agg #[.int .i64 x31, .int .i64 x32, .int .i64 x33]) false) w29 fun x35 =>
  opnI .i64 (some x35) fun x36 =>
  cond (x22 == x36)
  (opnL (w29.cell? ((s8.add 0).add 0)) fun x37 x37n x37c =>
  cond (decide (((x37n : Nat) : Int) < s2))
  (drw w29 fun w38 =>
  opnI .i64 (w38.cell? (p13.add 0)) fun x39 =>
  opnI .i64 (w38.cell? (p13.add 1)) fun x40 =>
  opnI .i64 (w38.cell? (p13.add 2)) fun x41 =>
  opnI .i64 (w38.cell? (p13.add 3)) fun x42 =>
  opnB (w38.cell? (p13.add 4)) fun x43 =>
  opnI .i64 (w38.cell? (p13.add 3)) fun x44 =>
  C_cache_numbersOf #[.agg #[.int .i64 x39, .int .i64 x40, .int .i64 x41, .int .i64 x42, .bool x43]] w38 fun v45 w46 =>
  opnG (some v45) fun x47 =>
  x47.size = 3 ∧
  opnI .i64 (x47[0]?) fun x48 =>
  opnI .i64 (x47[1]?) fun x49 =>
  opnI .i64 (x47[2]?) fun x50 =>
  (opnI .i64 (w46.cell? (p13.add 3)) fun x51 =>
  ((.int .i64 x51) : Value) = .int .i64 x44) ∧
  C_p_cache_usage_cache_numbers_int_lay #[.pointer (some (s8.add 0)), .agg #[.int .i64 x48, .int .i64 x49, .int .i64 x50], .int .i64 x44] w46 fun v52 w53 =>
  opnT (some v52) fun x54 =>
  x54.size = 0 ∧
  N_cache_Open.j31 Q s0 s2 s8 s12 s13 s88 s88n s88c s89 s90 w53)
  (N_cache_Open.j28 Q s0 s2 s8 s12 s13 x2 s88 s88n s88c s89 s90 w29))
  (N_cache_Open.j28 Q s0 s2 s8 s12 s13 x2 s88 s88n s88c s89 s90 w29))
  (N_cache_Open.j28 Q s0 s2 s8 s12 s13 x2 s88 s88n s88c s89 s90 w20)))
  (C_p_disk_Disk_SyncNames #[.pointer s0] w fun v55 w56 =>
  opnI .i64 (some v55) fun x57 =>
  cond (x57 != 0)
  (Q (.tuple #[.pointer none, .int .i64 x57]) w56)
  (Q (.tuple #[.pointer (some s8), .int .i64 0]) w56))) :
N_cache_Open.j22 Q s0 s2 s8 s12 s13 s88 s88n s88c s89 s90 w := Nd_fold K_cache_Open (by kernel_rfl) h
theorem N_cache_Open.j28_eq (Q : Value → World → Prop) (s0 : Option Addr) (s2 : Int) (s8 : Addr) (s12 : Option Nat) (s13 : Option Nat) (s19 : ByteArray) (s88 : Option Addr) (s88n : Nat) (s88c : Nat) (s89 : Int) (s90 : Int) (w : World) (h :
  C_p_cache_Cache_remove #[.pointer (some s8), .string s19] w fun v1 w2 =>
  opnI .i64 (some v1) fun x3 =>
  N_cache_Open.j29 Q s0 s2 s8 s12 s13 x3 s88 s88n s88c s89 s90 w2) :
N_cache_Open.j28 Q s0 s2 s8 s12 s13 s19 s88 s88n s88c s89 s90 w := Nd_fold K_cache_Open (by kernel_rfl) h
theorem N_cache_Open.j29_eq (Q : Value → World → Prop) (s0 : Option Addr) (s2 : Int) (s8 : Addr) (s12 : Option Nat) (s13 : Option Nat) (s21 : Int) (s88 : Option Addr) (s88n : Nat) (s88c : Nat) (s89 : Int) (s90 : Int) (w : World) (h :
  cond (s21 != 0)
  (N_cache_Open.j30 Q s21 w)
  (N_cache_Open.j31 Q s0 s2 s8 s12 s13 s88 s88n s88c s89 s90 w)) :
N_cache_Open.j29 Q s0 s2 s8 s12 s13 s21 s88 s88n s88c s89 s90 w := Nd_fold K_cache_Open (by kernel_rfl) h
theorem N_cache_Open.j30_eq (Q : Value → World → Prop) (s21 : Int) (w : World) (h :
  Q (.tuple #[.pointer none, .int .i64 s21]) w) :
N_cache_Open.j30 Q s21 w := Nd_fold K_cache_Open (by kernel_rfl) h
theorem N_cache_Open.j31_eq (Q : Value → World → Prop) (s0 : Option Addr) (s2 : Int) (s8 : Addr) (s12 : Option Nat) (s13 : Option Nat) (s88 : Option Addr) (s88n : Nat) (s88c : Nat) (s89 : Int) (s90 : Int) (w : World) (h :
  N_cache_Open.j22 Q s0 s2 s8 s12 s13 s88 s88n s88c s89 (IntKind.wrap .i64 (s90 + 1)) w) :
N_cache_Open.j31 Q s0 s2 s8 s12 s13 s88 s88n s88c s89 s90 w := Nd_fold K_cache_Open (by kernel_rfl) h
theorem C_cache_Open_eq (Q : Value → World → Prop) (a0 : Option Addr) (a1 : ByteArray) (a2 : Int) (w : World) (h :
  C_cache_named #[.string a1] w fun v1 w2 =>
  opnB (some v1) fun x3 =>
  cond (!x3)
  (Q (.tuple #[.pointer none, .int .i64 120]) w2)
  (cond (decide (a2 < 0))
  (N_cache_Open.j4 Q w2)
  (cond (decide (a2 > 4096))
  (N_cache_Open.j4 Q w2)
  ((⟨#[99, 97, 99, 104, 101, 47]⟩ : ByteArray).size + a1.size ≤ 9223372036854775807 ∧
  ((⟨#[99, 97, 99, 104, 101, 47]⟩ : ByteArray) ++ a1).size + (⟨#[47]⟩ : ByteArray).size ≤ 9223372036854775807 ∧
  alC #[.slice none 0 0, .map none, .pointer a0, .string (((⟨#[99, 97, 99, 104, 101, 47]⟩ : ByteArray) ++ a1) ++ (⟨#[47]⟩ : ByteArray)), .int .i64 a2, .slice none 0 0] 97 w2 fun p4 w5 =>
  C_p_cache_Cache_headFile #[.pointer (some p4)] w5 fun v6 w7 =>
  opnS (some v6) fun x8 =>
  C_p_disk_Disk_Read #[.pointer a0, .string x8] w7 fun v9 w10 =>
  opnT (some v9) fun x11 =>
  x11.size = 2 ∧
  opnL (x11[0]?) fun x12 x12n x12c =>
  opnI .i64 (x11[1]?) fun x13 =>
  cond (x13 == 125)
  (Q (.tuple #[.pointer none, .int .i64 x13]) w10)
  (stC (p4.add 5) (.slice x12 x12n x12c) w10 fun w14 =>
  opnS (w14.cell? (p4.add 3)) fun x15 =>
  C_p_disk_Disk_List #[.pointer a0, .string x15] w14 fun v16 w17 =>
  opnL (some v16) fun x18 x18n x18c =>
  alM w17 fun r19 w20 =>
  alM w20 fun r21 w22 =>
  N_cache_Open.j14 Q a0 a2 p4 x18 x18n x18c (some r19) (some r21) x18 x18n x18c ((x18n : Nat) : Int) 0 w22))))) :
C_cache_Open #[.pointer a0, .string a1, .int .i64 a2] w Q := C_fold K_cache_Open (by kernel_rfl) h
noncomputable def B_l16_num : Code := match Tryz.f12.body with | some c => c | _ => .skip
noncomputable def X_l16_num : Cx := { P := PP, fn := 12, N := 4, tab := tab, results := [.tmp 2], iter := fun _ => (.none, .none), dyn := fun _ => false, live := fun _ => none }
theorem K_l16_num : OkF X_l16_num B_l16_num Tryz.f12 := ⟨⟨tab_ok, mix_ok⟩, Tryz.func12, by kernel_rfl, by kernel_rfl, by kernel_rfl, by kernel_rfl⟩
theorem C_l16_num_eq (Q : Value → World → Prop) (a0 : Int) (w : World) (h :
  Q (.int .i64 a0) w) :
C_l16_num #[.int .i64 a0] w Q := C_fold K_l16_num (by kernel_rfl) h
noncomputable def B_p_cache_Cache_Head : Code := match Tryz.f13.body with | some c => c | _ => .skip
noncomputable def X_p_cache_Cache_Head : Cx := { P := PP, fn := 13, N := 8, tab := tab, results := [.tmp 2], iter := fun _ => (.none, .none), dyn := fun _ => false, live := fun _ => none }
theorem K_p_cache_Cache_Head : OkF X_p_cache_Cache_Head B_p_cache_Cache_Head Tryz.f13 := ⟨⟨tab_ok, mix_ok⟩, Tryz.func13, by kernel_rfl, by kernel_rfl, by kernel_rfl, by kernel_rfl⟩
theorem C_p_cache_Cache_Head_eq (Q : Value → World → Prop) (a0 : Option Addr) (w : World) (h :
  opnA a0 fun ad1 =>
  opnL (w.cell? (ad1.add 5)) fun x2 x2n x2c =>
  C_bytes_Clone #[.slice x2 x2n x2c] w fun v3 w4 =>
  opnL (some v3) fun x5 x5n x5c =>
  Q (.slice x5 x5n x5c) w4) :
C_p_cache_Cache_Head #[.pointer a0] w Q := C_fold K_p_cache_Cache_Head (by kernel_rfl) h
noncomputable def B_p_disk_Disk_Files : Code := match Tryz.f14.body with | some c => c | _ => .skip
noncomputable def X_p_disk_Disk_Files : Cx := { P := PP, fn := 14, N := 30, tab := tab, results := [.tmp 2], iter := fun _ => (.none, .none), dyn := fun _ => false, live := fun r => cond (Nat.beq r 3) (some [0, 3, 7, 8, 9]) (none) }
theorem K_p_disk_Disk_Files : OkF X_p_disk_Disk_Files B_p_disk_Disk_Files Tryz.f14 := ⟨⟨tab_ok, mix_ok⟩, Tryz.func14, by kernel_rfl, by kernel_rfl, by kernel_rfl, by kernel_rfl⟩
noncomputable def N_p_disk_Disk_Files.j3 (Q : Value → World → Prop) (s0 : Option Addr) (s3 : Option Addr) (s3n : Nat) (s3c : Nat) (s7 : Option Addr) (s7n : Nat) (s7c : Nat) (s8 : Int) (s9 : Int) (w : World) : Prop := Nd X_p_disk_Disk_Files Q [(0, 0, .pointer s0), (3, 3, .slice s3 s3n s3c), (7, 7, .slice s7 s7n s7c), (8, 8, .int .i64 s8), (9, 9, .int .i64 s9)] [.code (B_p_disk_Disk_Files.r.r.l.r.l.l.l), .code (B_p_disk_Disk_Files.r.r.l.r.l.l.r), .inLoop (B_p_disk_Disk_Files.r.r.l.r.l.l), .inBlock 0, .code (B_p_disk_Disk_Files.r.r.r)] w
theorem N_p_disk_Disk_Files.j3_eq (Q : Value → World → Prop) (s0 : Option Addr) (s3 : Option Addr) (s3n : Nat) (s3c : Nat) (s7 : Option Addr) (s7n : Nat) (s7c : Nat) (s8 : Int) (s9 : Int) (w : World) (h :
  cond (decide (s9 < s8))
  ((0 : Int) ≤ s9 ∧
  s9 < ((s7n : Nat) : Int) ∧
  opnA s7 fun ad1 =>
  opnS (w.cell? (ad1.add (Int.toNat s9 * 1))) fun x2 =>
  opnA s0 fun ad3 =>
  opnM (w.cell? (ad3.add 1)) fun x4 =>
  semR PP (Instr.lookup 116 (.map x4) (.string x2) false) w fun x5 =>
  opnP (some x5) fun x6 =>
  opnA x6 fun ad7 =>
  opnL (w.cell? (ad7.add 0)) fun x8 x8n x8c =>
  C_slices_Clone_byte_byte #[.slice x8 x8n x8c] w fun v9 w10 =>
  opnL (some v9) fun x11 x11n x11c =>
  alC #[.string x2, .slice x11 x11n x11c] 26 w10 fun p12 w13 =>
  sem PP (Builtin.append_ #[22, 22] 22 #[.slice s3 s3n s3c, .slice (some p12) 1 1]) w13 fun v14 w15 =>
  opnL (some v14) fun x16 x16n x16c =>
  N_p_disk_Disk_Files.j3 Q s0 x16 x16n x16c s7 s7n s7c s8 (IntKind.wrap .i64 (s9 + 1)) w15)
  (Q (.slice s3 s3n s3c) w)) :
N_p_disk_Disk_Files.j3 Q s0 s3 s3n s3c s7 s7n s7c s8 s9 w := Nd_fold K_p_disk_Disk_Files (by kernel_rfl) h
theorem C_p_disk_Disk_Files_eq (Q : Value → World → Prop) (a0 : Option Addr) (w : World) (h :
  C_p_disk_Disk_List #[.pointer a0, .string (⟨#[]⟩ : ByteArray)] w fun v1 w2 =>
  opnL (some v1) fun x3 x3n x3c =>
  N_p_disk_Disk_Files.j3 Q a0 none 0 0 x3 x3n x3c ((x3n : Nat) : Int) 0 w2) :
C_p_disk_Disk_Files #[.pointer a0] w Q := C_fold K_p_disk_Disk_Files (by kernel_rfl) h
noncomputable def B_disk_Load : Code := match Tryz.f16.body with | some c => c | _ => .skip
noncomputable def X_disk_Load : Cx := { P := PP, fn := 16, N := 73, tab := tab, results := [.tmp 4, .tmp 5], iter := fun _ => (.none, .none), dyn := fun _ => false, live := fun r => cond (Nat.beq r 5) (some [0, 1, 6, 20, 21, 22]) (cond (Nat.beq r 11) (some [0, 6, 31, 32, 33]) (none)) }
theorem K_disk_Load : OkF X_disk_Load B_disk_Load Tryz.f16 := ⟨⟨tab_ok, mix_ok⟩, Tryz.func16, by kernel_rfl, by kernel_rfl, by kernel_rfl, by kernel_rfl⟩
noncomputable def N_disk_Load.j5 (Q : Value → World → Prop) (s0 : Int) (s1 : Option Addr) (s1n : Nat) (s1c : Nat) (s6 : Option Addr) (s20 : Option Addr) (s20n : Nat) (s20c : Nat) (s21 : Int) (s22 : Int) (w : World) : Prop := Nd X_disk_Load Q [(0, 0, .int .i64 s0), (1, 1, .slice s1 s1n s1c), (6, 6, .pointer s6), (20, 20, .slice s20 s20n s20c), (21, 21, .int .i64 s21), (22, 22, .int .i64 s22)] [.code (B_disk_Load.r.r.r.l.r.l.l.l), .code (B_disk_Load.r.r.r.l.r.l.l.r), .inLoop (B_disk_Load.r.r.r.l.r.l.l), .inBlock 0, .code (B_disk_Load.r.r.r.r)] w
noncomputable def N_disk_Load.j11 (Q : Value → World → Prop) (s0 : Int) (s6 : Option Addr) (s31 : Option Addr) (s31n : Nat) (s31c : Nat) (s32 : Int) (s33 : Int) (w : World) : Prop := Nd X_disk_Load Q [(0, 0, .int .i64 s0), (6, 6, .pointer s6), (31, 31, .slice s31 s31n s31c), (32, 32, .int .i64 s32), (33, 33, .int .i64 s33)] [.code (B_disk_Load.r.r.r.r.l.r.l.l.l), .code (B_disk_Load.r.r.r.r.l.r.l.l.r), .inLoop (B_disk_Load.r.r.r.r.l.r.l.l), .inBlock 2, .code (B_disk_Load.r.r.r.r.r)] w
theorem N_disk_Load.j5_eq (Q : Value → World → Prop) (s0 : Int) (s1 : Option Addr) (s1n : Nat) (s1c : Nat) (s6 : Option Addr) (s20 : Option Addr) (s20n : Nat) (s20c : Nat) (s21 : Int) (s22 : Int) (w : World) (h :
  cond (decide (s22 < s21))
  ((0 : Int) ≤ s22 ∧
  s22 < ((s20n : Nat) : Int) ∧
  opnA s20 fun ad1 =>
  opnS (w.cell? ((ad1.add (Int.toNat s22 * 2)).add 0)) fun x2 =>
  opnL (w.cell? ((ad1.add (Int.toNat s22 * 2)).add 1)) fun x3 x3n x3c =>
  alC #[.string (⟨#[]⟩ : ByteArray), .slice none 0 0] 26 w fun p4 w5 =>
  Array.size (#[.string x2, .slice x3 x3n x3c] : Array Value) = 2 ∧
  stC (p4.add 0) (.string x2) w5 fun w6 =>
  stC (p4.add 1) (.slice x3 x3n x3c) w6 fun w7 =>
  opnS (w7.cell? (p4.add 0)) fun x8 =>
  C_disk_named #[.string x8] w7 fun v9 w10 =>
  opnB (some v9) fun x11 =>
  cond (!x11)
  (Q (.tuple #[.pointer none, .int .i64 120]) w10)
  (N_disk_Load.j5 Q s0 s1 s1n s1c s6 s20 s20n s20c s21 (IntKind.wrap .i64 (s22 + 1)) w10))
  (N_disk_Load.j11 Q s0 s6 s1 s1n s1c ((s1n : Nat) : Int) 0 w)) :
N_disk_Load.j5 Q s0 s1 s1n s1c s6 s20 s20n s20c s21 s22 w := Nd_fold K_disk_Load (by kernel_rfl) h
theorem N_disk_Load.j11_eq (Q : Value → World → Prop) (s0 : Int) (s6 : Option Addr) (s31 : Option Addr) (s31n : Nat) (s31c : Nat) (s32 : Int) (s33 : Int) (w : World) (h :
  cond (decide (s33 < s32))
  ((0 : Int) ≤ s33 ∧
  s33 < ((s31n : Nat) : Int) ∧
  opnA s31 fun ad1 =>
  opnS (w.cell? ((ad1.add (Int.toNat s33 * 2)).add 0)) fun x2 =>
  opnL (w.cell? ((ad1.add (Int.toNat s33 * 2)).add 1)) fun x3 x3n x3c =>
  alC #[.string (⟨#[]⟩ : ByteArray), .slice none 0 0] 26 w fun p4 w5 =>
  Array.size (#[.string x2, .slice x3 x3n x3c] : Array Value) = 2 ∧
  stC (p4.add 0) (.string x2) w5 fun w6 =>
  stC (p4.add 1) (.slice x3 x3n x3c) w6 fun w7 =>
  drw w7 fun w8 =>
  opnA s6 fun ad9 =>
  opnM (w8.cell? (ad9.add 1)) fun x10 =>
  opnS (w8.cell? (p4.add 0)) fun x11 =>
  semR PP (Instr.lookup 116 (.map x10) (.string x11) false) w8 fun x12 =>
  opnP (some x12) fun x13 =>
  semR PP (do eqGuard .neq 115 (.tmp 43) (.const (.pointer none)) (.pointer x13) (.pointer none); binOp .neq 115 (.pointer x13) (.pointer none)) w8 fun x14 =>
  opnB (some x14) fun x15 =>
  cond x15
  (Q (.tuple #[.pointer none, .int .i64 122]) w8)
  (drw w8 fun w16 =>
  opnA s6 fun ad17 =>
  opnM (w16.cell? (ad17.add 1)) fun x18 =>
  opnS (w16.cell? (p4.add 0)) fun x19 =>
  opnL (w16.cell? (p4.add 1)) fun x20 x20n x20c =>
  opnL (w16.cell? (p4.add 1)) fun x21 x21n x21c =>
  C_slices_Clone_byte_byte #[.slice x20 x20n x20c] w16 fun v22 w23 =>
  opnL (some v22) fun x24 x24n x24c =>
  (opnL (w23.cell? (p4.add 1)) fun x25 x25n x25c =>
  ((.slice x25 x25n x25c) : Value) = .slice x21 x21n x21c) ∧
  (opnS (w23.cell? (p4.add 0)) fun x26 =>
  ((.string x26) : Value) = .string x19) ∧
  (opnM (w23.cell? (ad17.add 1)) fun x27 =>
  ((.map x27) : Value) = .map x18) ∧
  C_slices_Clone_byte_byte #[.slice x21 x21n x21c] w23 fun v28 w29 =>
  opnL (some v28) fun x30 x30n x30c =>
  (opnS (w29.cell? (p4.add 0)) fun x31 =>
  ((.string x31) : Value) = .string x19) ∧
  (opnM (w29.cell? (ad17.add 1)) fun x32 =>
  ((.map x32) : Value) = .map x18) ∧
  alC #[.slice x24 x24n x24c, .slice x30 x30n x30c, .slice none 0 0] 114 w29 fun p33 w34 =>
  (opnS (w34.cell? (p4.add 0)) fun x35 =>
  ((.string x35) : Value) = .string x19) ∧
  (opnM (w34.cell? (ad17.add 1)) fun x36 =>
  ((.map x36) : Value) = .map x18) ∧
  semU PP (Instr.mapUpdate 116 (.map x18) (.string x19) (.pointer (some p33))) w34 fun w37 =>
  N_disk_Load.j11 Q s0 s6 s31 s31n s31c s32 (IntKind.wrap .i64 (s33 + 1)) w37))
  (C_p_disk_Disk_Used #[.pointer s6] w fun v38 w39 =>
  opnI .i64 (some v38) fun x40 =>
  cond (decide (x40 > s0))
  (Q (.tuple #[.pointer none, .int .i64 123]) w39)
  (opnA s6 fun ad41 =>
  opnM (w39.cell? (ad41.add 1)) fun x42 =>
  C_maps_Clone_map_string_disk_content_string_disk_content #[.map x42] w39 fun v43 w44 =>
  opnM (some v43) fun x45 =>
  opnA s6 fun ad46 =>
  stC (ad46.add 2) (.map x45) w44 fun w47 =>
  Q (.tuple #[.pointer s6, .int .i64 0]) w47))) :
N_disk_Load.j11 Q s0 s6 s31 s31n s31c s32 s33 w := Nd_fold K_disk_Load (by kernel_rfl) h
theorem C_disk_Load_eq (Q : Value → World → Prop) (a0 : Int) (a1 : Option Addr) (a1n : Nat) (a1c : Nat) (w : World) (h :
  C_disk_New #[.int .i64 a0] w fun v1 w2 =>
  opnT (some v1) fun x3 =>
  x3.size = 2 ∧
  opnP (x3[0]?) fun x4 =>
  opnI .i64 (x3[1]?) fun x5 =>
  cond (x5 != 0)
  (Q (.tuple #[.pointer none, .int .i64 x5]) w2)
  (N_disk_Load.j5 Q a0 a1 a1n a1c x4 a1 a1n a1c ((a1n : Nat) : Int) 0 w2)) :
C_disk_Load #[.int .i64 a0, .slice a1 a1n a1c] w Q := C_fold K_disk_Load (by kernel_rfl) h
noncomputable def B_tile_ParsePath : Code := match Tryz.f17.body with | some c => c | _ => .skip
noncomputable def X_tile_ParsePath : Cx := { P := PP, fn := 17, N := 27, tab := tab, results := [.cell 2 41, .tmp 3], iter := fun _ => (.none, .none), dyn := fun _ => false, live := fun r => cond (Nat.beq r 6) (some [2]) (none) }
theorem K_tile_ParsePath : OkF X_tile_ParsePath B_tile_ParsePath Tryz.f17 := ⟨⟨tab_ok, mix_ok⟩, Tryz.func17, by kernel_rfl, by kernel_rfl, by kernel_rfl, by kernel_rfl⟩
noncomputable def N_tile_ParsePath.j6 (Q : Value → World → Prop) (s2 : Addr) (w : World) : Prop := Nd X_tile_ParsePath Q [(2, 2, .pointer (some s2))] [.code (B_tile_ParsePath.r.r.r.l.r.r.l.l), .code (B_tile_ParsePath.r.r.r.l.r.r.l.r), .code (B_tile_ParsePath.r.r.r.r)] w
theorem N_tile_ParsePath.j6_eq (Q : Value → World → Prop) (s2 : Addr) (w : World) (h :
  Array.size (#[.int .i64 0, .int .i64 0, .int .i64 0, .int .i64 0, .bool false] : Array Value) = 5 ∧
  stC (s2.add 0) (.int .i64 0) w fun w1 =>
  stC (s2.add 1) (.int .i64 0) w1 fun w2 =>
  stC (s2.add 2) (.int .i64 0) w2 fun w3 =>
  stC (s2.add 3) (.int .i64 0) w3 fun w4 =>
  stC (s2.add 4) (.bool false) w4 fun w5 =>
  opnI .i64 (w5.cell? (s2.add 0)) fun x6 =>
  opnI .i64 (w5.cell? (s2.add 1)) fun x7 =>
  opnI .i64 (w5.cell? (s2.add 2)) fun x8 =>
  opnI .i64 (w5.cell? (s2.add 3)) fun x9 =>
  opnB (w5.cell? (s2.add 4)) fun x10 =>
  Q (.tuple #[.agg #[.int .i64 x6, .int .i64 x7, .int .i64 x8, .int .i64 x9, .bool x10], .int .i64 100]) w5) :
N_tile_ParsePath.j6 Q s2 w := Nd_fold K_tile_ParsePath (by kernel_rfl) h
theorem C_tile_ParsePath_eq (Q : Value → World → Prop) (a0 : ByteArray) (w : World) (h :
  alC #[.int .i64 0, .int .i64 0, .int .i64 0, .int .i64 0, .bool false] 41 w fun p1 w2 =>
  cond (decide (((a0.size : Nat) : Int) > 200))
  (Array.size (#[.int .i64 0, .int .i64 0, .int .i64 0, .int .i64 0, .bool false] : Array Value) = 5 ∧
  stC (p1.add 0) (.int .i64 0) w2 fun w3 =>
  stC (p1.add 1) (.int .i64 0) w3 fun w4 =>
  stC (p1.add 2) (.int .i64 0) w4 fun w5 =>
  stC (p1.add 3) (.int .i64 0) w5 fun w6 =>
  stC (p1.add 4) (.bool false) w6 fun w7 =>
  opnI .i64 (w7.cell? (p1.add 0)) fun x8 =>
  opnI .i64 (w7.cell? (p1.add 1)) fun x9 =>
  opnI .i64 (w7.cell? (p1.add 2)) fun x10 =>
  opnI .i64 (w7.cell? (p1.add 3)) fun x11 =>
  opnB (w7.cell? (p1.add 4)) fun x12 =>
  Q (.tuple #[.agg #[.int .i64 x8, .int .i64 x9, .int .i64 x10, .int .i64 x11, .bool x12], .int .i64 100]) w7)
  (C_tile_guess #[.string a0] w2 fun v13 w14 =>
  opnG (some v13) fun x15 =>
  x15.size = 5 ∧
  opnI .i64 (x15[0]?) fun x16 =>
  opnI .i64 (x15[1]?) fun x17 =>
  opnI .i64 (x15[2]?) fun x18 =>
  opnI .i64 (x15[3]?) fun x19 =>
  opnB (x15[4]?) fun x20 =>
  alC #[.int .i64 0, .int .i64 0, .int .i64 0, .int .i64 0, .bool false] 41 w14 fun p21 w22 =>
  Array.size (#[.int .i64 x16, .int .i64 x17, .int .i64 x18, .int .i64 x19, .bool x20] : Array Value) = 5 ∧
  stC (p21.add 0) (.int .i64 x16) w22 fun w23 =>
  stC (p21.add 1) (.int .i64 x17) w23 fun w24 =>
  stC (p21.add 2) (.int .i64 x18) w24 fun w25 =>
  stC (p21.add 3) (.int .i64 x19) w25 fun w26 =>
  stC (p21.add 4) (.bool x20) w26 fun w27 =>
  opnI .i64 (w27.cell? (p21.add 0)) fun x28 =>
  opnI .i64 (w27.cell? (p21.add 1)) fun x29 =>
  opnI .i64 (w27.cell? (p21.add 2)) fun x30 =>
  opnI .i64 (w27.cell? (p21.add 3)) fun x31 =>
  opnB (w27.cell? (p21.add 4)) fun x32 =>
  C_tile_Path #[.agg #[.int .i64 x28, .int .i64 x29, .int .i64 x30, .int .i64 x31, .bool x32]] w27 fun v33 w34 =>
  opnT (some v33) fun x35 =>
  x35.size = 2 ∧
  opnS (x35[0]?) fun x36 =>
  opnI .i64 (x35[1]?) fun x37 =>
  cond (x37 != 0)
  (N_tile_ParsePath.j6 Q p1 w34)
  (cond (!(x36.toList == a0.toList))
  (N_tile_ParsePath.j6 Q p1 w34)
  (opnI .i64 (w34.cell? (p21.add 0)) fun x38 =>
  opnI .i64 (w34.cell? (p21.add 1)) fun x39 =>
  opnI .i64 (w34.cell? (p21.add 2)) fun x40 =>
  opnI .i64 (w34.cell? (p21.add 3)) fun x41 =>
  opnB (w34.cell? (p21.add 4)) fun x42 =>
  Array.size (#[.int .i64 x38, .int .i64 x39, .int .i64 x40, .int .i64 x41, .bool x42] : Array Value) = 5 ∧
  stC (p1.add 0) (.int .i64 x38) w34 fun w43 =>
  stC (p1.add 1) (.int .i64 x39) w43 fun w44 =>
  stC (p1.add 2) (.int .i64 x40) w44 fun w45 =>
  stC (p1.add 3) (.int .i64 x41) w45 fun w46 =>
  stC (p1.add 4) (.bool x42) w46 fun w47 =>
  opnI .i64 (w47.cell? (p1.add 0)) fun x48 =>
  opnI .i64 (w47.cell? (p1.add 1)) fun x49 =>
  opnI .i64 (w47.cell? (p1.add 2)) fun x50 =>
  opnI .i64 (w47.cell? (p1.add 3)) fun x51 =>
  opnB (w47.cell? (p1.add 4)) fun x52 =>
  Q (.tuple #[.agg #[.int .i64 x48, .int .i64 x49, .int .i64 x50, .int .i64 x51, .bool x52], .int .i64 0]) w47)))) :
C_tile_ParsePath #[.string a0] w Q := C_fold K_tile_ParsePath (by kernel_rfl) h
noncomputable def B_p_cache_Cache_Tile : Code := match Tryz.f18.body with | some c => c | _ => .skip
noncomputable def X_p_cache_Cache_Tile : Cx := { P := PP, fn := 18, N := 76, tab := tab, results := [.tmp 4, .tmp 5], iter := fun _ => (.none, .none), dyn := fun _ => false, live := fun r => cond (Nat.beq r 6) (some []) (cond (Nat.beq r 11) (some [0, 6]) (cond (Nat.beq r 12) (some []) (none))) }
theorem K_p_cache_Cache_Tile : OkF X_p_cache_Cache_Tile B_p_cache_Cache_Tile Tryz.f18 := ⟨⟨tab_ok, mix_ok⟩, Tryz.func18, by kernel_rfl, by kernel_rfl, by kernel_rfl, by kernel_rfl⟩
noncomputable def N_p_cache_Cache_Tile.j6 (Q : Value → World → Prop) (w : World) : Prop := Nd X_p_cache_Cache_Tile Q [] [.code (B_p_cache_Cache_Tile.r.r.r.r.l.r.l.l), .code (B_p_cache_Cache_Tile.r.r.r.r.l.r.l.r), .code (B_p_cache_Cache_Tile.r.r.r.r.r)] w
noncomputable def N_p_cache_Cache_Tile.j11 (Q : Value → World → Prop) (s0 : Option Addr) (s6 : Addr) (w : World) : Prop := Nd X_p_cache_Cache_Tile Q [(0, 0, .pointer s0), (6, 6, .pointer (some s6))] [.code (B_p_cache_Cache_Tile.r.r.r.r.r.r.r.l.r.l.l), .code (B_p_cache_Cache_Tile.r.r.r.r.r.r.r.l.r.l.r), .code (B_p_cache_Cache_Tile.r.r.r.r.r.r.r.r)] w
noncomputable def N_p_cache_Cache_Tile.j12 (Q : Value → World → Prop) (w : World) : Prop := Nd X_p_cache_Cache_Tile Q [] [.code (B_p_cache_Cache_Tile.r.r.r.r.r.r.r.l.r.l.r.l), .code (B_p_cache_Cache_Tile.r.r.r.r.r.r.r.l.r.l.r.r), .code (B_p_cache_Cache_Tile.r.r.r.r.r.r.r.r)] w
theorem N_p_cache_Cache_Tile.j6_eq (Q : Value → World → Prop) (w : World) (h :
  Q (.tuple #[.slice none 0 0, .int .i64 161]) w) :
N_p_cache_Cache_Tile.j6 Q w := Nd_fold K_p_cache_Cache_Tile (by kernel_rfl) h
theorem N_p_cache_Cache_Tile.j11_eq (Q : Value → World → Prop) (s0 : Option Addr) (s6 : Addr) (w : World) (h :
  drw w fun w1 =>
  opnA s0 fun ad2 =>
  opnI .i64 (w1.cell? (s6.add 0)) fun x3 =>
  opnI .i64 (w1.cell? (s6.add 1)) fun x4 =>
  opnI .i64 (w1.cell? (s6.add 2)) fun x5 =>
  C_p_cache_usage_cache_numbers_int_forget #[.pointer (some (ad2.add 0)), .agg #[.int .i64 x3, .int .i64 x4, .int .i64 x5]] w1 fun v6 w7 =>
  opnT (some v6) fun x8 =>
  x8.size = 0 ∧
  N_p_cache_Cache_Tile.j12 Q w7) :
N_p_cache_Cache_Tile.j11 Q s0 s6 w := Nd_fold K_p_cache_Cache_Tile (by kernel_rfl) h
theorem N_p_cache_Cache_Tile.j12_eq (Q : Value → World → Prop) (w : World) (h :
  Q (.tuple #[.slice none 0 0, .int .i64 161]) w) :
N_p_cache_Cache_Tile.j12 Q w := Nd_fold K_p_cache_Cache_Tile (by kernel_rfl) h
noncomputable def B_p_cache_Cache_List : Code := match Tryz.f19.body with | some c => c | _ => .skip
noncomputable def X_p_cache_Cache_List : Cx := { P := PP, fn := 19, N := 41, tab := tab, results := [.tmp 2], iter := fun _ => (.none, .none), dyn := fun _ => false, live := fun r => cond (Nat.beq r 3) (some [0, 3, 19, 20, 21]) (none) }
theorem K_p_cache_Cache_List : OkF X_p_cache_Cache_List B_p_cache_Cache_List Tryz.f19 := ⟨⟨tab_ok, mix_ok⟩, Tryz.func19, by kernel_rfl, by kernel_rfl, by kernel_rfl, by kernel_rfl⟩
noncomputable def N_p_cache_Cache_List.j3 (Q : Value → World → Prop) (s0 : Option Addr) (s3 : Option Addr) (s3n : Nat) (s3c : Nat) (s19 : Option Addr) (s19n : Nat) (s19c : Nat) (s20 : Int) (s21 : Int) (w : World) : Prop := Nd X_p_cache_Cache_List Q [(0, 0, .pointer s0), (3, 3, .slice s3 s3n s3c), (19, 19, .slice s19 s19n s19c), (20, 20, .int .i64 s20), (21, 21, .int .i64 s21)] [.code (B_p_cache_Cache_List.r.r.l.r.l.l.l), .code (B_p_cache_Cache_List.r.r.l.r.l.l.r), .inLoop (B_p_cache_Cache_List.r.r.l.r.l.l), .inBlock 0, .code (B_p_cache_Cache_List.r.r.r)] w
theorem N_p_cache_Cache_List.j3_eq (Q : Value → World → Prop) (s0 : Option Addr) (s3 : Option Addr) (s3n : Nat) (s3c : Nat) (s19 : Option Addr) (s19n : Nat) (s19c : Nat) (s20 : Int) (s21 : Int) (w : World) (h :
  cond (decide (s21 < s20))
  ((0 : Int) ≤ s21 ∧
  s21 < ((s19n : Nat) : Int) ∧
  opnA s19 fun ad1 =>
  opnI .i64 (w.cell? ((ad1.add (Int.toNat s21 * 3)).add 0)) fun x2 =>
  opnI .i64 (w.cell? ((ad1.add (Int.toNat s21 * 3)).add 1)) fun x3 =>
  opnI .i64 (w.cell? ((ad1.add (Int.toNat s21 * 3)).add 2)) fun x4 =>
  alC #[.int .i64 0, .int .i64 0, .int .i64 0] 106 w fun p5 w6 =>
  Array.size (#[.int .i64 x2, .int .i64 x3, .int .i64 x4] : Array Value) = 3 ∧
  stC (p5.add 0) (.int .i64 x2) w6 fun w7 =>
  stC (p5.add 1) (.int .i64 x3) w7 fun w8 =>
  stC (p5.add 2) (.int .i64 x4) w8 fun w9 =>
  drw w9 fun w10 =>
  opnA s0 fun ad11 =>
  opnI .i64 (w10.cell? (p5.add 0)) fun x12 =>
  opnI .i64 (w10.cell? (p5.add 1)) fun x13 =>
  opnI .i64 (w10.cell? (p5.add 2)) fun x14 =>
  C_p_cache_usage_cache_numbers_int_value #[.pointer (some (ad11.add 0)), .agg #[.int .i64 x12, .int .i64 x13, .int .i64 x14]] w10 fun v15 w16 =>
  opnT (some v15) fun x17 =>
  x17.size = 2 ∧
  opnI .i64 (x17[0]?) fun x18 =>
  opnB (x17[1]?) fun x19 =>
  opnI .i64 (w16.cell? (p5.add 0)) fun x20 =>
  opnI .i64 (w16.cell? (p5.add 1)) fun x21 =>
  opnI .i64 (w16.cell? (p5.add 2)) fun x22 =>
  C_cache_numbers_tile #[.agg #[.int .i64 x20, .int .i64 x21, .int .i64 x22], .int .i64 x18] w16 fun v23 w24 =>
  opnG (some v23) fun x25 =>
  x25.size = 5 ∧
  opnI .i64 (x25[0]?) fun x26 =>
  opnI .i64 (x25[1]?) fun x27 =>
  opnI .i64 (x25[2]?) fun x28 =>
  opnI .i64 (x25[3]?) fun x29 =>
  opnB (x25[4]?) fun x30 =>
  alC #[.int .i64 x26, .int .i64 x27, .int .i64 x28, .int .i64 x29, .bool x30] 41 w24 fun p31 w32 =>
  sem PP (Builtin.append_ #[46, 46] 46 #[.slice s3 s3n s3c, .slice (some p31) 1 1]) w32 fun v33 w34 =>
  opnL (some v33) fun x35 x35n x35c =>
  N_p_cache_Cache_List.j3 Q s0 x35 x35n x35c s19 s19n s19c s20 (IntKind.wrap .i64 (s21 + 1)) w34)
  (Q (.slice s3 s3n s3c) w)) :
N_p_cache_Cache_List.j3 Q s0 s3 s3n s3c s19 s19n s19c s20 s21 w := Nd_fold K_p_cache_Cache_List (by kernel_rfl) h
theorem C_p_cache_Cache_List_eq (Q : Value → World → Prop) (a0 : Option Addr) (w : World) (h :
  opnA a0 fun ad1 =>
  opnL (w.cell? ((ad1.add 0).add 0)) fun x2 x2n x2c =>
  sem PP (Instr.makeSlice 46 (.int .i64 0) (.int .i64 ((x2n : Nat) : Int))) w fun v3 w4 =>
  opnL (some v3) fun x5 x5n x5c =>
  opnA a0 fun ad6 =>
  opnL (w4.cell? ((ad6.add 0).add 0)) fun x7 x7n x7c =>
  N_p_cache_Cache_List.j3 Q a0 x5 x5n x5c x7 x7n x7c ((x7n : Nat) : Int) 0 w4) :
C_p_cache_Cache_List #[.pointer a0] w Q := C_fold K_p_cache_Cache_List (by kernel_rfl) h
noncomputable def B_p_disk_Disk_Pending : Code := match Tryz.f20.body with | some c => c | _ => .skip
noncomputable def X_p_disk_Disk_Pending : Cx := { P := PP, fn := 20, N := 51, tab := tab, results := [.tmp 2], iter := fun r => cond (Nat.beq r 42) (.one .ptr, .one (.int .i64)) ((.none, .none)), dyn := fun r => cond (Nat.beq r 30) true (false), live := fun r => cond (Nat.beq r 6) (some [0, 3, 4, 5, 23, 24, 25]) (cond (Nat.beq r 13) (some [8, 42]) (none)) }
theorem K_p_disk_Disk_Pending : OkF X_p_disk_Disk_Pending B_p_disk_Disk_Pending Tryz.f20 := ⟨⟨tab_ok, mix_ok⟩, Tryz.func20, by kernel_rfl, by kernel_rfl, by kernel_rfl, by kernel_rfl⟩
noncomputable def N_p_disk_Disk_Pending.j6 (Q : Value → World → Prop) (s0 : Option Addr) (s3 : Addr) (s4 : Addr) (s5c0 : Addr) (s5c1 : Addr) (s23 : Option Addr) (s23n : Nat) (s23c : Nat) (s24 : Int) (s25 : Int) (w : World) : Prop := Nd X_p_disk_Disk_Pending Q [(0, 0, .pointer s0), (3, 3, .pointer (some s3)), (4, 4, .pointer (some s4)), (5, 5, .func (.func 62) #[] #[.pointer (some s5c0), .pointer (some s5c1)]), (23, 23, .slice s23 s23n s23c), (24, 24, .int .i64 s24), (25, 25, .int .i64 s25)] [.code (B_p_disk_Disk_Pending.r.r.r.r.r.l.r.l.l.l), .code (B_p_disk_Disk_Pending.r.r.r.r.r.l.r.l.l.r), .inLoop (B_p_disk_Disk_Pending.r.r.r.r.r.l.r.l.l), .inBlock 0, .code (B_p_disk_Disk_Pending.r.r.r.r.r.r)] w
noncomputable def N_p_disk_Disk_Pending.j13 (Q : Value → World → Prop) (s8 : Int) (s42 : Addr) (w : World) : Prop := Nd X_p_disk_Disk_Pending Q [(8, 8, .int .i64 s8), (42, 42, .pointer (some s42))] [.code (B_p_disk_Disk_Pending.r.r.r.r.r.r.r.l.r.l.l.l), .code (B_p_disk_Disk_Pending.r.r.r.r.r.r.r.l.r.l.l.r), .inLoop (B_p_disk_Disk_Pending.r.r.r.r.r.r.r.l.r.l.l), .inBlock 2, .code (B_p_disk_Disk_Pending.r.r.r.r.r.r.r.r)] w
theorem N_p_disk_Disk_Pending.j6_eq (Q : Value → World → Prop) (s0 : Option Addr) (s3 : Addr) (s4 : Addr) (s5c0 : Addr) (s5c1 : Addr) (s23 : Option Addr) (s23n : Nat) (s23c : Nat) (s24 : Int) (s25 : Int) (w : World) (h :
  cond (decide (s25 < s24))
  ((0 : Int) ≤ s25 ∧
  s25 < ((s23n : Nat) : Int) ∧
  opnA s23 fun ad1 =>
  opnV (w.cell? ((ad1.add (Int.toNat s25 * 1)).add 0)) fun x2 =>
  alZ PP 133 w fun p3 w4 =>
  Array.size (#[x2] : Array Value) = 1 ∧
  stC (p3.add 0) x2 w4 fun w5 =>
  opnV (w5.cell? (p3.add 0)) fun x6 =>
  opnM (w5.cell? s3) fun x7 =>
  invk PP x6 #[.map x7] w5 fun v8 w9 =>
  opnT (some v8) fun x10 =>
  x10.size = 0 ∧
  C_p_disk_Disk_Pending_S1 #[.pointer (some s5c0), .pointer (some s5c1)] w9 fun v11 w12 =>
  opnT (some v11) fun x13 =>
  x13.size = 0 ∧
  N_p_disk_Disk_Pending.j6 Q s0 s3 s4 s5c0 s5c1 s23 s23n s23c s24 (IntKind.wrap .i64 (s25 + 1)) w12)
  (opnA s0 fun ad14 =>
  opnL (w.cell? (ad14.add 3)) fun x15 x15n x15c =>
  opnM (w.cell? s4) fun x16 =>
  sem PP (Instr.range 130 (.map x16)) w fun v17 w18 =>
  opnP (some v17) fun x19 =>
  opnA x19 fun ad20 =>
  N_p_disk_Disk_Pending.j13 Q ((x15n : Nat) : Int) ad20 w18)) :
N_p_disk_Disk_Pending.j6 Q s0 s3 s4 s5c0 s5c1 s23 s23n s23c s24 s25 w := Nd_fold K_p_disk_Disk_Pending (by kernel_rfl) h
theorem N_p_disk_Disk_Pending.j13_eq (Q : Value → World → Prop) (s8 : Int) (s42 : Addr) (w : World) (h :
  sem PP (Instr.next (.pointer (some s42)) false 0) w fun v1 w2 =>
  opnN v1
  (Q (.int .i64 s8) w2)
  fun k3 x4 =>
  opnP (some k3) fun x5 =>
  opnI .i64 (some x4) fun x6 =>
  sem PP (Instr.entry (.pointer (some s42))) w2 fun v7 w8 =>
  opnT (some v7) fun x9 =>
  x9.size = 2 ∧
  opnP (x9[0]?) fun x10 =>
  opnI .i64 (x9[1]?) fun x11 =>
  N_p_disk_Disk_Pending.j13 Q (IntKind.wrap .i64 (s8 + x11)) s42 w8) :
N_p_disk_Disk_Pending.j13 Q s8 s42 w := Nd_fold K_p_disk_Disk_Pending (by kernel_rfl) h
end Go.Proofs.YtcigjlbpdkkflaaGreatDoor
set_option maxRecDepth 100000
namespace Go.Proofs.YtcigjlbpdkkflaaGreatDoor
open Go.Sh
noncomputable def B_l16_begun : Code := match Tryz.f21.body with | some c => c | _ => .skip
noncomputable def X_l16_begun : Cx := { P := PP, fn := 21, N := 46, tab := tab, results := [.tmp 2, .tmp 3, .tmp 4], iter := fun _ => (.none, .none), dyn := fun _ => false, live := fun r => cond (Nat.beq r 3) (some []) (none) }
theorem K_l16_begun : OkF X_l16_begun B_l16_begun Tryz.f21 := ⟨⟨tab_ok, mix_ok⟩, Tryz.func21, by kernel_rfl, by kernel_rfl, by kernel_rfl, by kernel_rfl⟩
noncomputable def N_l16_begun.j3 (Q : Value → World → Prop) (w : World) : Prop := Nd X_l16_begun Q [] [.code (B_l16_begun.r.r.l.r.l.l), .code (B_l16_begun.r.r.l.r.l.r), .code (B_l16_begun.r.r.r)] w
theorem N_l16_begun.j3_eq (Q : Value → World → Prop) (w : World) (h :
  Q (.tuple #[.pointer none, .pointer none, .bool false]) w) :
N_l16_begun.j3 Q w := Nd_fold K_l16_begun (by kernel_rfl) h
theorem C_l16_begun_eq (Q : Value → World → Prop) (a0 : Int) (w : World) (h :
  C_disk_New #[.int .i64 1099511627776] w fun v1 w2 =>
  opnT (some v1) fun x3 =>
  x3.size = 2 ∧
  opnP (x3[0]?) fun x4 =>
  opnI .i64 (x3[1]?) fun x5 =>
  C_l16_num #[.int .i64 x5] w2 fun v6 w7 =>
  opnI .i64 (some v6) fun x8 =>
  cond (x8 != 0)
  (N_l16_begun.j3 Q w7)
  (semR PP (do eqGuard .eql 27 (.tmp 16) (.const (.pointer none)) (.pointer x4) (.pointer none); binOp .eql 27 (.pointer x4) (.pointer none)) w7 fun x9 =>
  opnB (some x9) fun x10 =>
  cond x10
  (N_l16_begun.j3 Q w7)
  (C_cache_Open #[.pointer x4, .string (⟨#[99, 48]⟩ : ByteArray), .int .i64 a0] w7 fun v11 w12 =>
  opnT (some v11) fun x13 =>
  x13.size = 2 ∧
  opnP (x13[0]?) fun x14 =>
  opnI .i64 (x13[1]?) fun x15 =>
  C_l16_num #[.int .i64 x15] w12 fun v16 w17 =>
  opnI .i64 (some v16) fun x18 =>
  cond (x18 == 0)
  (semR PP (do eqGuard .neq 30 (.tmp 31) (.const (.pointer none)) (.pointer x14) (.pointer none); binOp .neq 30 (.pointer x14) (.pointer none)) w17 fun x19 =>
  opnB (some x19) fun x20 =>
  cond x20
  (C_p_cache_Cache_Head #[.pointer x14] w17 fun v21 w22 =>
  opnL (some v21) fun x23 x23n x23c =>
  cond (((x23n : Nat) : Int) == 0)
  (C_p_cache_Cache_List #[.pointer x14] w22 fun v24 w25 =>
  opnL (some v24) fun x26 x26n x26c =>
  Q (.tuple #[.pointer x4, .pointer x14, .bool (((x26n : Nat) : Int) == 0)]) w25)
  (Q (.tuple #[.pointer x4, .pointer x14, .bool false]) w22))
  (Q (.tuple #[.pointer x4, .pointer x14, .bool false]) w17))
  (Q (.tuple #[.pointer x4, .pointer x14, .bool false]) w17)))) :
C_l16_begun #[.int .i64 a0] w Q := C_fold K_l16_begun (by kernel_rfl) h
noncomputable def B_l16_asked : Code := match Tryz.f23.body with | some c => c | _ => .skip
noncomputable def X_l16_asked : Cx := { P := PP, fn := 23, N := 52, tab := tab, results := [.tmp 4, .tmp 5], iter := fun _ => (.none, .none), dyn := fun _ => false, live := fun r => cond (Nat.beq r 4) (some [0, 3, 6, 7, 8]) (cond (Nat.beq r 5) (some [0, 3, 6, 7, 8]) (cond (Nat.beq r 8) (some [0, 3, 6, 7, 8]) (none))) }
theorem K_l16_asked : OkF X_l16_asked B_l16_asked Tryz.f23 := ⟨⟨tab_ok, mix_ok⟩, Tryz.func23, by kernel_rfl, by kernel_rfl, by kernel_rfl, by kernel_rfl⟩
noncomputable def N_l16_asked.j4 (Q : Value → World → Prop) (s0 : Option Addr) (s0n : Nat) (s0c : Nat) (s3 : Addr) (s6 : Option Addr) (s6n : Nat) (s6c : Nat) (s7 : Option Addr) (s7n : Nat) (s7c : Nat) (s8 : Int) (w : World) : Prop := Nd X_l16_asked Q [(0, 0, .slice s0 s0n s0c), (3, 3, .pointer (some s3)), (6, 6, .slice s6 s6n s6c), (7, 7, .slice s7 s7n s7c), (8, 8, .int .i64 s8)] [.code (B_l16_asked.r.r.r.l.r.l.l.l.l), .code (B_l16_asked.r.r.r.l.r.l.l.l.r), .code (B_l16_asked.r.r.r.l.r.l.l.r), .inLoop (B_l16_asked.r.r.r.l.r.l.l), .inBlock 0, .code (B_l16_asked.r.r.r.r)] w
noncomputable def N_l16_asked.j5 (Q : Value → World → Prop) (s0 : Option Addr) (s0n : Nat) (s0c : Nat) (s3 : Addr) (s6 : Option Addr) (s6n : Nat) (s6c : Nat) (s7 : Option Addr) (s7n : Nat) (s7c : Nat) (s8 : Int) (w : World) : Prop := Nd X_l16_asked Q [(0, 0, .slice s0 s0n s0c), (3, 3, .pointer (some s3)), (6, 6, .slice s6 s6n s6c), (7, 7, .slice s7 s7n s7c), (8, 8, .int .i64 s8)] [.code (B_l16_asked.r.r.r.l.r.l.l.r.r), .inLoop (B_l16_asked.r.r.r.l.r.l.l), .inBlock 0, .code (B_l16_asked.r.r.r.r)] w
noncomputable def N_l16_asked.j8 (Q : Value → World → Prop) (s0 : Option Addr) (s0n : Nat) (s0c : Nat) (s3 : Addr) (s6 : Option Addr) (s6n : Nat) (s6c : Nat) (s7 : Option Addr) (s7n : Nat) (s7c : Nat) (s8 : Int) (w : World) : Prop := Nd X_l16_asked Q [(0, 0, .slice s0 s0n s0c), (3, 3, .pointer (some s3)), (6, 6, .slice s6 s6n s6c), (7, 7, .slice s7 s7n s7c), (8, 8, .int .i64 s8)] [.code (B_l16_asked.r.r.r.l.r.l.l.r.l.l.r.r), .inBlock 1, .code (B_l16_asked.r.r.r.l.r.l.l.r.r), .inLoop (B_l16_asked.r.r.r.l.r.l.l), .inBlock 0, .code (B_l16_asked.r.r.r.r)] w
theorem N_l16_asked.j4_eq (Q : Value → World → Prop) (s0 : Option Addr) (s0n : Nat) (s0c : Nat) (s3 : Addr) (s6 : Option Addr) (s6n : Nat) (s6c : Nat) (s7 : Option Addr) (s7n : Nat) (s7c : Nat) (s8 : Int) (w : World) (h :
  cond (decide (s8 < ((s0n : Nat) : Int)))
  (drw w fun w1 =>
  (0 : Int) ≤ s8 ∧
  s8 < ((s0n : Nat) : Int) ∧
  opnA s0 fun ad2 =>
  opnI .i64 (w1.cell? ((ad2.add (Int.toNat s8 * 5)).add 0)) fun x3 =>
  opnI .i64 (w1.cell? ((ad2.add (Int.toNat s8 * 5)).add 1)) fun x4 =>
  opnI .i64 (w1.cell? ((ad2.add (Int.toNat s8 * 5)).add 2)) fun x5 =>
  opnI .i64 (w1.cell? ((ad2.add (Int.toNat s8 * 5)).add 3)) fun x6 =>
  opnB (w1.cell? ((ad2.add (Int.toNat s8 * 5)).add 4)) fun x7 =>
  opnI .i64 (w1.cell? (s3.add 0)) fun x8 =>
  opnI .i64 (w1.cell? (s3.add 1)) fun x9 =>
  opnI .i64 (w1.cell? (s3.add 2)) fun x10 =>
  opnI .i64 (w1.cell? (s3.add 3)) fun x11 =>
  opnB (w1.cell? (s3.add 4)) fun x12 =>
  C_l16_same #[.agg #[.int .i64 x3, .int .i64 x4, .int .i64 x5, .int .i64 x6, .bool x7], .agg #[.int .i64 x8, .int .i64 x9, .int .i64 x10, .int .i64 x11, .bool x12]] w1 fun v13 w14 =>
  opnB (some v13) fun x15 =>
  cond x15
  ((0 : Int) ≤ s8 ∧
  s8 < ((s0n : Nat) : Int) ∧
  opnA s0 fun ad16 =>
  opnI .i64 (w14.cell? ((ad16.add (Int.toNat s8 * 5)).add 3)) fun x17 =>
  opnI .i64 (w14.cell? (s3.add 3)) fun x18 =>
  cond (decide (x17 ≥ x18))
  ((0 : Int) ≤ s8 ∧
  s8 < ((s0n : Nat) : Int) ∧
  opnA s0 fun ad19 =>
  opnI .i64 (w14.cell? ((ad19.add (Int.toNat s8 * 5)).add 0)) fun x20 =>
  opnI .i64 (w14.cell? ((ad19.add (Int.toNat s8 * 5)).add 1)) fun x21 =>
  opnI .i64 (w14.cell? ((ad19.add (Int.toNat s8 * 5)).add 2)) fun x22 =>
  opnI .i64 (w14.cell? ((ad19.add (Int.toNat s8 * 5)).add 3)) fun x23 =>
  opnB (w14.cell? ((ad19.add (Int.toNat s8 * 5)).add 4)) fun x24 =>
  alC #[.int .i64 x20, .int .i64 x21, .int .i64 x22, .int .i64 x23, .bool x24] 41 w14 fun p25 w26 =>
  sem PP (Builtin.append_ #[46, 46] 46 #[.slice s7 s7n s7c, .slice (some p25) 1 1]) w26 fun v27 w28 =>
  opnL (some v27) fun x29 x29n x29c =>
  N_l16_asked.j5 Q s0 s0n s0c s3 s6 s6n s6c x29 x29n x29c s8 w28)
  (N_l16_asked.j8 Q s0 s0n s0c s3 s6 s6n s6c s7 s7n s7c s8 w14))
  (N_l16_asked.j8 Q s0 s0n s0c s3 s6 s6n s6c s7 s7n s7c s8 w14))
  (sem PP (Builtin.append_ #[46, 46] 46 #[.slice s6 s6n s6c, .slice s7 s7n s7c]) w fun v30 w31 =>
  opnL (some v30) fun x32 x32n x32c =>
  Q (.tuple #[.slice x32 x32n x32c, .bool (decide (((s7n : Nat) : Int) > 0))]) w31)) :
N_l16_asked.j4 Q s0 s0n s0c s3 s6 s6n s6c s7 s7n s7c s8 w := Nd_fold K_l16_asked (by kernel_rfl) h
theorem N_l16_asked.j5_eq (Q : Value → World → Prop) (s0 : Option Addr) (s0n : Nat) (s0c : Nat) (s3 : Addr) (s6 : Option Addr) (s6n : Nat) (s6c : Nat) (s7 : Option Addr) (s7n : Nat) (s7c : Nat) (s8 : Int) (w : World) (h :
  N_l16_asked.j4 Q s0 s0n s0c s3 s6 s6n s6c s7 s7n s7c (IntKind.wrap .i64 (s8 + 1)) w) :
N_l16_asked.j5 Q s0 s0n s0c s3 s6 s6n s6c s7 s7n s7c s8 w := Nd_fold K_l16_asked (by kernel_rfl) h
theorem N_l16_asked.j8_eq (Q : Value → World → Prop) (s0 : Option Addr) (s0n : Nat) (s0c : Nat) (s3 : Addr) (s6 : Option Addr) (s6n : Nat) (s6c : Nat) (s7 : Option Addr) (s7n : Nat) (s7c : Nat) (s8 : Int) (w : World) (h :
  (0 : Int) ≤ s8 ∧
  s8 < ((s0n : Nat) : Int) ∧
  opnA s0 fun ad1 =>
  opnI .i64 (w.cell? ((ad1.add (Int.toNat s8 * 5)).add 0)) fun x2 =>
  opnI .i64 (w.cell? ((ad1.add (Int.toNat s8 * 5)).add 1)) fun x3 =>
  opnI .i64 (w.cell? ((ad1.add (Int.toNat s8 * 5)).add 2)) fun x4 =>
  opnI .i64 (w.cell? ((ad1.add (Int.toNat s8 * 5)).add 3)) fun x5 =>
  opnB (w.cell? ((ad1.add (Int.toNat s8 * 5)).add 4)) fun x6 =>
  alC #[.int .i64 x2, .int .i64 x3, .int .i64 x4, .int .i64 x5, .bool x6] 41 w fun p7 w8 =>
  sem PP (Builtin.append_ #[46, 46] 46 #[.slice s6 s6n s6c, .slice (some p7) 1 1]) w8 fun v9 w10 =>
  opnL (some v9) fun x11 x11n x11c =>
  N_l16_asked.j5 Q s0 s0n s0c s3 x11 x11n x11c s7 s7n s7c s8 w10) :
N_l16_asked.j8 Q s0 s0n s0c s3 s6 s6n s6c s7 s7n s7c s8 w := Nd_fold K_l16_asked (by kernel_rfl) h
noncomputable def B_p_cache_Cache_Put : Code := match Tryz.f24.body with | some c => c | _ => .skip
noncomputable def X_p_cache_Cache_Put : Cx := { P := PP, fn := 24, N := 140, tab := tab, results := [.tmp 6], iter := fun _ => (.none, .none), dyn := fun _ => false, live := fun r => cond (Nat.beq r 12) (some [0, 2, 4, 7, 8, 9]) (cond (Nat.beq r 17) (some [0, 2, 4, 7, 9]) (cond (Nat.beq r 18) (some [0, 2, 4, 7]) (cond (Nat.beq r 19) (some [0, 2, 4, 7, 11]) (cond (Nat.beq r 20) (some [0, 2, 4, 7, 11, 12]) (cond (Nat.beq r 21) (some [0, 2, 4, 7, 14]) (cond (Nat.beq r 22) (some [14]) (cond (Nat.beq r 23) (some [0, 2, 4, 7]) (cond (Nat.beq r 24) (some [0, 2, 4, 7, 15]) (cond (Nat.beq r 25) (some [15]) (cond (Nat.beq r 26) (some [0, 2, 4, 7]) (cond (Nat.beq r 27) (some [0, 2, 4, 7]) (cond (Nat.beq r 28) (some [0, 4, 7, 16]) (cond (Nat.beq r 29) (some [16]) (cond (Nat.beq r 30) (some [0, 4, 7]) (cond (Nat.beq r 31) (some []) (none)))))))))))))))) }
theorem K_p_cache_Cache_Put : OkF X_p_cache_Cache_Put B_p_cache_Cache_Put Tryz.f24 := ⟨⟨tab_ok, mix_ok⟩, Tryz.func24, by kernel_rfl, by kernel_rfl, by kernel_rfl, by kernel_rfl⟩
noncomputable def N_p_cache_Cache_Put.j12 (Q : Value → World → Prop) (s0 : Option Addr) (s2 : Option Addr) (s2n : Nat) (s2c : Nat) (s4 : Addr) (s7 : Addr) (s8 : Int) (s9 : Bool) (w : World) : Prop := Nd X_p_cache_Cache_Put Q [(0, 0, .pointer s0), (2, 2, .slice s2 s2n s2c), (4, 4, .pointer (some s4)), (7, 7, .pointer (some s7)), (8, 8, .int .i64 s8), (9, 9, .bool s9)] [.code (B_p_cache_Cache_Put.r.r.r.r.r.r.r.l.l), .code (B_p_cache_Cache_Put.r.r.r.r.r.r.r.l.r), .code (B_p_cache_Cache_Put.r.r.r.r.r.r.r.r)] w
noncomputable def N_p_cache_Cache_Put.j17 (Q : Value → World → Prop) (s0 : Option Addr) (s2 : Option Addr) (s2n : Nat) (s2c : Nat) (s4 : Addr) (s7 : Addr) (s9 : Bool) (w : World) : Prop := Nd X_p_cache_Cache_Put Q [(0, 0, .pointer s0), (2, 2, .slice s2 s2n s2c), (4, 4, .pointer (some s4)), (7, 7, .pointer (some s7)), (9, 9, .bool s9)] [.code (B_p_cache_Cache_Put.r.r.r.r.r.r.r.r.l.l), .code (B_p_cache_Cache_Put.r.r.r.r.r.r.r.r.l.r), .code (B_p_cache_Cache_Put.r.r.r.r.r.r.r.r.r)] w
noncomputable def N_p_cache_Cache_Put.j18 (Q : Value → World → Prop) (s0 : Option Addr) (s2 : Option Addr) (s2n : Nat) (s2c : Nat) (s4 : Addr) (s7 : Addr) (w : World) : Prop := Nd X_p_cache_Cache_Put Q [(0, 0, .pointer s0), (2, 2, .slice s2 s2n s2c), (4, 4, .pointer (some s4)), (7, 7, .pointer (some s7))] [.code (B_p_cache_Cache_Put.r.r.r.r.r.r.r.r.l.r.l.l), .code (B_p_cache_Cache_Put.r.r.r.r.r.r.r.r.l.r.l.r), .code (B_p_cache_Cache_Put.r.r.r.r.r.r.r.r.r)] w
noncomputable def N_p_cache_Cache_Put.j19 (Q : Value → World → Prop) (s0 : Option Addr) (s2 : Option Addr) (s2n : Nat) (s2c : Nat) (s4 : Addr) (s7 : Addr) (s11 : Addr) (w : World) : Prop := Nd X_p_cache_Cache_Put Q [(0, 0, .pointer s0), (2, 2, .slice s2 s2n s2c), (4, 4, .pointer (some s4)), (7, 7, .pointer (some s7)), (11, 11, .pointer (some s11))] [.code (B_p_cache_Cache_Put.r.r.r.r.r.r.r.r.l.r.l.r.l), .code (B_p_cache_Cache_Put.r.r.r.r.r.r.r.r.l.r.l.r.r), .code (B_p_cache_Cache_Put.r.r.r.r.r.r.r.r.r)] w
noncomputable def N_p_cache_Cache_Put.j20 (Q : Value → World → Prop) (s0 : Option Addr) (s2 : Option Addr) (s2n : Nat) (s2c : Nat) (s4 : Addr) (s7 : Addr) (s11 : Addr) (s12 : Int) (w : World) : Prop := Nd X_p_cache_Cache_Put Q [(0, 0, .pointer s0), (2, 2, .slice s2 s2n s2c), (4, 4, .pointer (some s4)), (7, 7, .pointer (some s7)), (11, 11, .pointer (some s11)), (12, 12, .int .i64 s12)] [.code (B_p_cache_Cache_Put.r.r.r.r.r.r.r.r.l.r.l.r.r.l), .code (B_p_cache_Cache_Put.r.r.r.r.r.r.r.r.l.r.l.r.r.r), .code (B_p_cache_Cache_Put.r.r.r.r.r.r.r.r.r)] w
noncomputable def N_p_cache_Cache_Put.j21 (Q : Value → World → Prop) (s0 : Option Addr) (s2 : Option Addr) (s2n : Nat) (s2c : Nat) (s4 : Addr) (s7 : Addr) (s14 : Int) (w : World) : Prop := Nd X_p_cache_Cache_Put Q [(0, 0, .pointer s0), (2, 2, .slice s2 s2n s2c), (4, 4, .pointer (some s4)), (7, 7, .pointer (some s7)), (14, 14, .int .i64 s14)] [.code (B_p_cache_Cache_Put.r.r.r.r.r.r.r.r.l.r.l.r.r.r.l), .code (B_p_cache_Cache_Put.r.r.r.r.r.r.r.r.l.r.l.r.r.r.r), .code (B_p_cache_Cache_Put.r.r.r.r.r.r.r.r.r)] w
noncomputable def N_p_cache_Cache_Put.j22 (Q : Value → World → Prop) (s14 : Int) (w : World) : Prop := Nd X_p_cache_Cache_Put Q [(14, 14, .int .i64 s14)] [.code (B_p_cache_Cache_Put.r.r.r.r.r.r.r.r.l.r.l.r.r.r.r.l.l), .code (B_p_cache_Cache_Put.r.r.r.r.r.r.r.r.l.r.l.r.r.r.r.l.r), .code (B_p_cache_Cache_Put.r.r.r.r.r.r.r.r.r)] w
noncomputable def N_p_cache_Cache_Put.j23 (Q : Value → World → Prop) (s0 : Option Addr) (s2 : Option Addr) (s2n : Nat) (s2c : Nat) (s4 : Addr) (s7 : Addr) (w : World) : Prop := Nd X_p_cache_Cache_Put Q [(0, 0, .pointer s0), (2, 2, .slice s2 s2n s2c), (4, 4, .pointer (some s4)), (7, 7, .pointer (some s7))] [.code (B_p_cache_Cache_Put.r.r.r.r.r.r.r.r.r.l.l), .code (B_p_cache_Cache_Put.r.r.r.r.r.r.r.r.r.l.r), .code (B_p_cache_Cache_Put.r.r.r.r.r.r.r.r.r.r)] w
noncomputable def N_p_cache_Cache_Put.j24 (Q : Value → World → Prop) (s0 : Option Addr) (s2 : Option Addr) (s2n : Nat) (s2c : Nat) (s4 : Addr) (s7 : Addr) (s15 : Int) (w : World) : Prop := Nd X_p_cache_Cache_Put Q [(0, 0, .pointer s0), (2, 2, .slice s2 s2n s2c), (4, 4, .pointer (some s4)), (7, 7, .pointer (some s7)), (15, 15, .int .i64 s15)] [.code (B_p_cache_Cache_Put.r.r.r.r.r.r.r.r.r.l.r.l), .code (B_p_cache_Cache_Put.r.r.r.r.r.r.r.r.r.l.r.r), .code (B_p_cache_Cache_Put.r.r.r.r.r.r.r.r.r.r)] w
noncomputable def N_p_cache_Cache_Put.j25 (Q : Value → World → Prop) (s15 : Int) (w : World) : Prop := Nd X_p_cache_Cache_Put Q [(15, 15, .int .i64 s15)] [.code (B_p_cache_Cache_Put.r.r.r.r.r.r.r.r.r.l.r.r.l.l), .code (B_p_cache_Cache_Put.r.r.r.r.r.r.r.r.r.l.r.r.l.r), .code (B_p_cache_Cache_Put.r.r.r.r.r.r.r.r.r.r)] w
noncomputable def N_p_cache_Cache_Put.j26 (Q : Value → World → Prop) (s0 : Option Addr) (s2 : Option Addr) (s2n : Nat) (s2c : Nat) (s4 : Addr) (s7 : Addr) (w : World) : Prop := Nd X_p_cache_Cache_Put Q [(0, 0, .pointer s0), (2, 2, .slice s2 s2n s2c), (4, 4, .pointer (some s4)), (7, 7, .pointer (some s7))] [.code (B_p_cache_Cache_Put.r.r.r.r.r.r.r.r.r.r.l), .code (B_p_cache_Cache_Put.r.r.r.r.r.r.r.r.r.r.r)] w
noncomputable def N_p_cache_Cache_Put.j27 (Q : Value → World → Prop) (s0 : Option Addr) (s2 : Option Addr) (s2n : Nat) (s2c : Nat) (s4 : Addr) (s7 : Addr) (w : World) : Prop := Nd X_p_cache_Cache_Put Q [(0, 0, .pointer s0), (2, 2, .slice s2 s2n s2c), (4, 4, .pointer (some s4)), (7, 7, .pointer (some s7))] [.code (B_p_cache_Cache_Put.r.r.r.r.r.r.r.r.r.r.r.l.l), .code (B_p_cache_Cache_Put.r.r.r.r.r.r.r.r.r.r.r.l.r), .code (B_p_cache_Cache_Put.r.r.r.r.r.r.r.r.r.r.r.r)] w
noncomputable def N_p_cache_Cache_Put.j28 (Q : Value → World → Prop) (s0 : Option Addr) (s4 : Addr) (s7 : Addr) (s16 : Int) (w : World) : Prop := Nd X_p_cache_Cache_Put Q [(0, 0, .pointer s0), (4, 4, .pointer (some s4)), (7, 7, .pointer (some s7)), (16, 16, .int .i64 s16)] [.code (B_p_cache_Cache_Put.r.r.r.r.r.r.r.r.r.r.r.l.r.l), .code (B_p_cache_Cache_Put.r.r.r.r.r.r.r.r.r.r.r.l.r.r), .code (B_p_cache_Cache_Put.r.r.r.r.r.r.r.r.r.r.r.r)] w
noncomputable def N_p_cache_Cache_Put.j29 (Q : Value → World → Prop) (s16 : Int) (w : World) : Prop := Nd X_p_cache_Cache_Put Q [(16, 16, .int .i64 s16)] [.code (B_p_cache_Cache_Put.r.r.r.r.r.r.r.r.r.r.r.l.r.r.l.l), .code (B_p_cache_Cache_Put.r.r.r.r.r.r.r.r.r.r.r.l.r.r.l.r), .code (B_p_cache_Cache_Put.r.r.r.r.r.r.r.r.r.r.r.r)] w
noncomputable def N_p_cache_Cache_Put.j30 (Q : Value → World → Prop) (s0 : Option Addr) (s4 : Addr) (s7 : Addr) (w : World) : Prop := Nd X_p_cache_Cache_Put Q [(0, 0, .pointer s0), (4, 4, .pointer (some s4)), (7, 7, .pointer (some s7))] [.code (B_p_cache_Cache_Put.r.r.r.r.r.r.r.r.r.r.r.r.l), .code (B_p_cache_Cache_Put.r.r.r.r.r.r.r.r.r.r.r.r.r)] w
noncomputable def N_p_cache_Cache_Put.j31 (Q : Value → World → Prop) (w : World) : Prop := Nd X_p_cache_Cache_Put Q [] [.code (B_p_cache_Cache_Put.r.r.r.r.r.r.r.r.r.r.r.r.r.l), .code (B_p_cache_Cache_Put.r.r.r.r.r.r.r.r.r.r.r.r.r.r)] w
theorem N_p_cache_Cache_Put.j12_eq (Q : Value → World → Prop) (s0 : Option Addr) (s2 : Option Addr) (s2n : Nat) (s2c : Nat) (s4 : Addr) (s7 : Addr) (s8 : Int) (s9 : Bool) (w : World) (h :
  cond s9
  (opnI .i64 (w.cell? (s4.add 3)) fun x1 =>
  cond (decide (s8 < x1))
  (opnI .i64 (w.cell? (s4.add 0)) fun x2 =>
  opnI .i64 (w.cell? (s4.add 1)) fun x3 =>
  opnI .i64 (w.cell? (s4.add 2)) fun x4 =>
  opnI .i64 (w.cell? (s4.add 3)) fun x5 =>
  opnB (w.cell? (s4.add 4)) fun x6 =>
  C_p_cache_Cache_Drop #[.pointer s0, .agg #[.int .i64 x2, .int .i64 x3, .int .i64 x4, .int .i64 x5, .bool x6]] w fun v7 w8 =>
  opnI .i64 (some v7) fun x9 =>
  cond (x9 != 0)
  (Q (.int .i64 x9) w8)
  (N_p_cache_Cache_Put.j17 Q s0 s2 s2n s2c s4 s7 false w8))
  (N_p_cache_Cache_Put.j17 Q s0 s2 s2n s2c s4 s7 true w))
  (N_p_cache_Cache_Put.j17 Q s0 s2 s2n s2c s4 s7 false w)) :
N_p_cache_Cache_Put.j12 Q s0 s2 s2n s2c s4 s7 s8 s9 w := Nd_fold K_p_cache_Cache_Put (by kernel_rfl) h
theorem N_p_cache_Cache_Put.j17_eq (Q : Value → World → Prop) (s0 : Option Addr) (s2 : Option Addr) (s2n : Nat) (s2c : Nat) (s4 : Addr) (s7 : Addr) (s9 : Bool) (w : World) (h :
  drw w fun w1 =>
  cond (!s9)
  (opnA s0 fun ad2 =>
  opnA s0 fun ad3 =>
  opnL (w1.cell? ((ad2.add 0).add 0)) fun x4 x4n x4c =>
  opnI .i64 (w1.cell? (ad3.add 4)) fun x5 =>
  cond (decide (((x4n : Nat) : Int) ≥ x5))
  (N_p_cache_Cache_Put.j18 Q s0 s2 s2n s2c s4 s7 w1)
  (N_p_cache_Cache_Put.j23 Q s0 s2 s2n s2c s4 s7 w1))
  (N_p_cache_Cache_Put.j23 Q s0 s2 s2n s2c s4 s7 w1)) :
N_p_cache_Cache_Put.j17 Q s0 s2 s2n s2c s4 s7 s9 w := Nd_fold K_p_cache_Cache_Put (by kernel_rfl) h
theorem N_p_cache_Cache_Put.j20_eq (Q : Value → World → Prop) (s0 : Option Addr) (s2 : Option Addr) (s2n : Nat) (s2c : Nat) (s4 : Addr) (s7 : Addr) (s11 : Addr) (s12 : Int) (w : World) (h :
  opnI .i64 (w.cell? (s11.add 0)) fun x1 =>
  opnI .i64 (w.cell? (s11.add 1)) fun x2 =>
  opnI .i64 (w.cell? (s11.add 2)) fun x3 =>
  C_cache_numbers_tile #[.agg #[.int .i64 x1, .int .i64 x2, .int .i64 x3], .int .i64 s12] w fun v4 w5 =>
  opnG (some v4) fun x6 =>
  x6.size = 5 ∧
  opnI .i64 (x6[0]?) fun x7 =>
  opnI .i64 (x6[1]?) fun x8 =>
  opnI .i64 (x6[2]?) fun x9 =>
  opnI .i64 (x6[3]?) fun x10 =>
  opnB (x6[4]?) fun x11 =>
  C_p_cache_Cache_Drop #[.pointer s0, .agg #[.int .i64 x7, .int .i64 x8, .int .i64 x9, .int .i64 x10, .bool x11]] w5 fun v12 w13 =>
  opnI .i64 (some v12) fun x14 =>
  N_p_cache_Cache_Put.j21 Q s0 s2 s2n s2c s4 s7 x14 w13) :
N_p_cache_Cache_Put.j20 Q s0 s2 s2n s2c s4 s7 s11 s12 w := Nd_fold K_p_cache_Cache_Put (by kernel_rfl) h
theorem N_p_cache_Cache_Put.j21_eq (Q : Value → World → Prop) (s0 : Option Addr) (s2 : Option Addr) (s2n : Nat) (s2c : Nat) (s4 : Addr) (s7 : Addr) (s14 : Int) (w : World) (h :
  cond (s14 != 0)
  (N_p_cache_Cache_Put.j22 Q s14 w)
  (N_p_cache_Cache_Put.j23 Q s0 s2 s2n s2c s4 s7 w)) :
N_p_cache_Cache_Put.j21 Q s0 s2 s2n s2c s4 s7 s14 w := Nd_fold K_p_cache_Cache_Put (by kernel_rfl) h
theorem N_p_cache_Cache_Put.j22_eq (Q : Value → World → Prop) (s14 : Int) (w : World) (h :
  Q (.int .i64 s14) w) :
N_p_cache_Cache_Put.j22 Q s14 w := Nd_fold K_p_cache_Cache_Put (by kernel_rfl) h
theorem N_p_cache_Cache_Put.j24_eq (Q : Value → World → Prop) (s0 : Option Addr) (s2 : Option Addr) (s2n : Nat) (s2c : Nat) (s4 : Addr) (s7 : Addr) (s15 : Int) (w : World) (h :
  cond (s15 != 0)
  (N_p_cache_Cache_Put.j25 Q s15 w)
  (N_p_cache_Cache_Put.j26 Q s0 s2 s2n s2c s4 s7 w)) :
N_p_cache_Cache_Put.j24 Q s0 s2 s2n s2c s4 s7 s15 w := Nd_fold K_p_cache_Cache_Put (by kernel_rfl) h
theorem N_p_cache_Cache_Put.j25_eq (Q : Value → World → Prop) (s15 : Int) (w : World) (h :
  Q (.int .i64 s15) w) :
N_p_cache_Cache_Put.j25 Q s15 w := Nd_fold K_p_cache_Cache_Put (by kernel_rfl) h
theorem N_p_cache_Cache_Put.j26_eq (Q : Value → World → Prop) (s0 : Option Addr) (s2 : Option Addr) (s2n : Nat) (s2c : Nat) (s4 : Addr) (s7 : Addr) (w : World) (h :
  drw w fun w1 =>
  opnA s0 fun ad2 =>
  opnI .i64 (w1.cell? (s7.add 0)) fun x3 =>
  opnI .i64 (w1.cell? (s7.add 1)) fun x4 =>
  opnI .i64 (w1.cell? (s7.add 2)) fun x5 =>
  C_p_cache_usage_cache_numbers_int_forget #[.pointer (some (ad2.add 0)), .agg #[.int .i64 x3, .int .i64 x4, .int .i64 x5]] w1 fun v6 w7 =>
  opnT (some v6) fun x8 =>
  x8.size = 0 ∧
  N_p_cache_Cache_Put.j27 Q s0 s2 s2n s2c s4 s7 w7) :
N_p_cache_Cache_Put.j26 Q s0 s2 s2n s2c s4 s7 w := Nd_fold K_p_cache_Cache_Put (by kernel_rfl) h
theorem N_p_cache_Cache_Put.j28_eq (Q : Value → World → Prop) (s0 : Option Addr) (s4 : Addr) (s7 : Addr) (s16 : Int) (w : World) (h :
  cond (s16 != 0)
  (N_p_cache_Cache_Put.j29 Q s16 w)
  (N_p_cache_Cache_Put.j30 Q s0 s4 s7 w)) :
N_p_cache_Cache_Put.j28 Q s0 s4 s7 s16 w := Nd_fold K_p_cache_Cache_Put (by kernel_rfl) h
theorem N_p_cache_Cache_Put.j29_eq (Q : Value → World → Prop) (s16 : Int) (w : World) (h :
  Q (.int .i64 s16) w) :
N_p_cache_Cache_Put.j29 Q s16 w := Nd_fold K_p_cache_Cache_Put (by kernel_rfl) h
theorem N_p_cache_Cache_Put.j30_eq (Q : Value → World → Prop) (s0 : Option Addr) (s4 : Addr) (s7 : Addr) (w : World) (h :
  drw w fun w1 =>
  opnA s0 fun ad2 =>
  opnI .i64 (w1.cell? (s7.add 0)) fun x3 =>
  opnI .i64 (w1.cell? (s7.add 1)) fun x4 =>
  opnI .i64 (w1.cell? (s7.add 2)) fun x5 =>
  opnI .i64 (w1.cell? (s4.add 3)) fun x6 =>
  C_p_cache_usage_cache_numbers_int_lay #[.pointer (some (ad2.add 0)), .agg #[.int .i64 x3, .int .i64 x4, .int .i64 x5], .int .i64 x6] w1 fun v7 w8 =>
  opnT (some v7) fun x9 =>
  x9.size = 0 ∧
  N_p_cache_Cache_Put.j31 Q w8) :
N_p_cache_Cache_Put.j30 Q s0 s4 s7 w := Nd_fold K_p_cache_Cache_Put (by kernel_rfl) h
theorem N_p_cache_Cache_Put.j31_eq (Q : Value → World → Prop) (w : World) (h :
  Q (.int .i64 0) w) :
N_p_cache_Cache_Put.j31 Q w := Nd_fold K_p_cache_Cache_Put (by kernel_rfl) h
noncomputable def B_l16_bytesOf : Code := match Tryz.f25.body with | some c => c | _ => .skip
noncomputable def X_l16_bytesOf : Cx := { P := PP, fn := 25, N := 35, tab := tab, results := [.tmp 4], iter := fun _ => (.none, .none), dyn := fun _ => false, live := fun r => cond (Nat.beq r 3) (some [1, 2, 5, 6]) (none) }
theorem K_l16_bytesOf : OkF X_l16_bytesOf B_l16_bytesOf Tryz.f25 := ⟨⟨tab_ok, mix_ok⟩, Tryz.func25, by kernel_rfl, by kernel_rfl, by kernel_rfl, by kernel_rfl⟩
noncomputable def N_l16_bytesOf.j3 (Q : Value → World → Prop) (s1 : Int) (s2 : Addr) (s5 : Option Addr) (s5n : Nat) (s5c : Nat) (s6 : Int) (w : World) : Prop := Nd X_l16_bytesOf Q [(1, 1, .int .i64 s1), (2, 2, .pointer (some s2)), (5, 5, .slice s5 s5n s5c), (6, 6, .int .i64 s6)] [.code (B_l16_bytesOf.r.r.l.r.l.l.l.l), .code (B_l16_bytesOf.r.r.l.r.l.l.l.r), .code (B_l16_bytesOf.r.r.l.r.l.l.r), .inLoop (B_l16_bytesOf.r.r.l.r.l.l), .inBlock 0, .code (B_l16_bytesOf.r.r.r)] w
theorem N_l16_bytesOf.j3_eq (Q : Value → World → Prop) (s1 : Int) (s2 : Addr) (s5 : Option Addr) (s5n : Nat) (s5c : Nat) (s6 : Int) (w : World) (h :
  cond (decide (s6 < ((s5n : Nat) : Int)))
  (opnI .i64 (w.cell? (s2.add 1)) fun x1 =>
  opnI .i64 (w.cell? (s2.add 2)) fun x2 =>
  32 ≠ (0 : Int) ∧
  (0 : Int) ≤ s6 ∧
  s6 < ((s5n : Nat) : Int) ∧
  opnA s5 fun ad3 =>
  stC (ad3.add (Int.toNat s6 * 1)) (.int .u8 (IntKind.wrap .u8 (IntKind.wrap .i64 ((IntKind.wrap .i64 ((IntKind.wrap .i64 ((IntKind.wrap .i64 (x1 * 64)) + (IntKind.wrap .i64 (x2 * 16)))) + (IntKind.wrap .i64 (Int.tdiv s6 32)))) + (IntKind.wrap .i64 (s1 * 7)))))) w fun w4 =>
  N_l16_bytesOf.j3 Q s1 s2 s5 s5n s5c (IntKind.wrap .i64 (s6 + 1)) w4)
  (Q (.slice s5 s5n s5c) w)) :
N_l16_bytesOf.j3 Q s1 s2 s5 s5n s5c s6 w := Nd_fold K_l16_bytesOf (by kernel_rfl) h
noncomputable def B_l16_put : Code := match Tryz.f26.body with | some c => c | _ => .skip
noncomputable def X_l16_put : Cx := { P := PP, fn := 26, N := 60, tab := tab, results := [.tmp 6], iter := fun _ => (.none, .none), dyn := fun _ => false, live := fun r => cond (Nat.beq r 7) (some [0, 2, 4, 7, 8, 9, 10]) (cond (Nat.beq r 8) (some [0, 2, 4, 7, 8, 9, 10]) (cond (Nat.beq r 16) (some [7, 8]) (cond (Nat.beq r 17) (some [7]) (none)))) }
theorem K_l16_put : OkF X_l16_put B_l16_put Tryz.f26 := ⟨⟨tab_ok, mix_ok⟩, Tryz.func26, by kernel_rfl, by kernel_rfl, by kernel_rfl, by kernel_rfl⟩
noncomputable def N_l16_put.j7 (Q : Value → World → Prop) (s0 : Option Addr) (s0n : Nat) (s0c : Nat) (s2 : Int) (s4 : Addr) (s7 : Option Addr) (s7n : Nat) (s7c : Nat) (s8 : Addr) (s9 : Bool) (s10 : Int) (w : World) : Prop := Nd X_l16_put Q [(0, 0, .slice s0 s0n s0c), (2, 2, .int .i64 s2), (4, 4, .pointer (some s4)), (7, 7, .slice s7 s7n s7c), (8, 8, .pointer (some s8)), (9, 9, .bool s9), (10, 10, .int .i64 s10)] [.code (B_l16_put.r.r.r.r.r.l.r.l.l.l.l), .code (B_l16_put.r.r.r.r.r.l.r.l.l.l.r), .code (B_l16_put.r.r.r.r.r.l.r.l.l.r), .inLoop (B_l16_put.r.r.r.r.r.l.r.l.l), .inBlock 0, .code (B_l16_put.r.r.r.r.r.r)] w
noncomputable def N_l16_put.j8 (Q : Value → World → Prop) (s0 : Option Addr) (s0n : Nat) (s0c : Nat) (s2 : Int) (s4 : Addr) (s7 : Option Addr) (s7n : Nat) (s7c : Nat) (s8 : Addr) (s9 : Bool) (s10 : Int) (w : World) : Prop := Nd X_l16_put Q [(0, 0, .slice s0 s0n s0c), (2, 2, .int .i64 s2), (4, 4, .pointer (some s4)), (7, 7, .slice s7 s7n s7c), (8, 8, .pointer (some s8)), (9, 9, .bool s9), (10, 10, .int .i64 s10)] [.code (B_l16_put.r.r.r.r.r.l.r.l.l.r.r), .inLoop (B_l16_put.r.r.r.r.r.l.r.l.l), .inBlock 0, .code (B_l16_put.r.r.r.r.r.r)] w
noncomputable def N_l16_put.j16 (Q : Value → World → Prop) (s7 : Option Addr) (s7n : Nat) (s7c : Nat) (s8 : Addr) (w : World) : Prop := Nd X_l16_put Q [(7, 7, .slice s7 s7n s7c), (8, 8, .pointer (some s8))] [.code (B_l16_put.r.r.r.r.r.r.r.l), .code (B_l16_put.r.r.r.r.r.r.r.r)] w
noncomputable def N_l16_put.j17 (Q : Value → World → Prop) (s7 : Option Addr) (s7n : Nat) (s7c : Nat) (w : World) : Prop := Nd X_l16_put Q [(7, 7, .slice s7 s7n s7c)] [.code (B_l16_put.r.r.r.r.r.r.r.r.l), .code (B_l16_put.r.r.r.r.r.r.r.r.r)] w
theorem N_l16_put.j7_eq (Q : Value → World → Prop) (s0 : Option Addr) (s0n : Nat) (s0c : Nat) (s2 : Int) (s4 : Addr) (s7 : Option Addr) (s7n : Nat) (s7c : Nat) (s8 : Addr) (s9 : Bool) (s10 : Int) (w : World) (h :
  cond (decide (s10 < ((s0n : Nat) : Int)))
  (drw w fun w1 =>
  (0 : Int) ≤ s10 ∧
  s10 < ((s0n : Nat) : Int) ∧
  opnA s0 fun ad2 =>
  opnI .i64 (w1.cell? ((ad2.add (Int.toNat s10 * 5)).add 0)) fun x3 =>
  opnI .i64 (w1.cell? ((ad2.add (Int.toNat s10 * 5)).add 1)) fun x4 =>
  opnI .i64 (w1.cell? ((ad2.add (Int.toNat s10 * 5)).add 2)) fun x5 =>
  opnI .i64 (w1.cell? ((ad2.add (Int.toNat s10 * 5)).add 3)) fun x6 =>
  opnB (w1.cell? ((ad2.add (Int.toNat s10 * 5)).add 4)) fun x7 =>
  opnI .i64 (w1.cell? (s4.add 0)) fun x8 =>
  opnI .i64 (w1.cell? (s4.add 1)) fun x9 =>
  opnI .i64 (w1.cell? (s4.add 2)) fun x10 =>
  opnI .i64 (w1.cell? (s4.add 3)) fun x11 =>
  opnB (w1.cell? (s4.add 4)) fun x12 =>
  C_l16_same #[.agg #[.int .i64 x3, .int .i64 x4, .int .i64 x5, .int .i64 x6, .bool x7], .agg #[.int .i64 x8, .int .i64 x9, .int .i64 x10, .int .i64 x11, .bool x12]] w1 fun v13 w14 =>
  opnB (some v13) fun x15 =>
  cond x15
  (drw w14 fun w16 =>
  (0 : Int) ≤ s10 ∧
  s10 < ((s0n : Nat) : Int) ∧
  opnA s0 fun ad17 =>
  opnI .i64 (w16.cell? ((ad17.add (Int.toNat s10 * 5)).add 3)) fun x18 =>
  opnI .i64 (w16.cell? (s4.add 3)) fun x19 =>
  cond (decide (x18 > x19))
  ((0 : Int) ≤ s10 ∧
  s10 < ((s0n : Nat) : Int) ∧
  opnA s0 fun ad20 =>
  opnI .i64 (w16.cell? ((ad20.add (Int.toNat s10 * 5)).add 0)) fun x21 =>
  opnI .i64 (w16.cell? ((ad20.add (Int.toNat s10 * 5)).add 1)) fun x22 =>
  opnI .i64 (w16.cell? ((ad20.add (Int.toNat s10 * 5)).add 2)) fun x23 =>
  opnI .i64 (w16.cell? ((ad20.add (Int.toNat s10 * 5)).add 3)) fun x24 =>
  opnB (w16.cell? ((ad20.add (Int.toNat s10 * 5)).add 4)) fun x25 =>
  Array.size (#[.int .i64 x21, .int .i64 x22, .int .i64 x23, .int .i64 x24, .bool x25] : Array Value) = 5 ∧
  stC (s8.add 0) (.int .i64 x21) w16 fun w26 =>
  stC (s8.add 1) (.int .i64 x22) w26 fun w27 =>
  stC (s8.add 2) (.int .i64 x23) w27 fun w28 =>
  stC (s8.add 3) (.int .i64 x24) w28 fun w29 =>
  stC (s8.add 4) (.bool x25) w29 fun w30 =>
  N_l16_put.j8 Q s0 s0n s0c s2 s4 s7 s7n s7c s8 true s10 w30)
  (N_l16_put.j8 Q s0 s0n s0c s2 s4 s7 s7n s7c s8 true s10 w16))
  ((0 : Int) ≤ s10 ∧
  s10 < ((s0n : Nat) : Int) ∧
  opnA s0 fun ad31 =>
  opnI .i64 (w14.cell? ((ad31.add (Int.toNat s10 * 5)).add 0)) fun x32 =>
  opnI .i64 (w14.cell? ((ad31.add (Int.toNat s10 * 5)).add 1)) fun x33 =>
  opnI .i64 (w14.cell? ((ad31.add (Int.toNat s10 * 5)).add 2)) fun x34 =>
  opnI .i64 (w14.cell? ((ad31.add (Int.toNat s10 * 5)).add 3)) fun x35 =>
  opnB (w14.cell? ((ad31.add (Int.toNat s10 * 5)).add 4)) fun x36 =>
  alC #[.int .i64 x32, .int .i64 x33, .int .i64 x34, .int .i64 x35, .bool x36] 41 w14 fun p37 w38 =>
  sem PP (Builtin.append_ #[46, 46] 46 #[.slice s7 s7n s7c, .slice (some p37) 1 1]) w38 fun v39 w40 =>
  opnL (some v39) fun x41 x41n x41c =>
  N_l16_put.j8 Q s0 s0n s0c s2 s4 x41 x41n x41c s8 s9 s10 w40))
  (cond (!s9)
  (cond (((s7n : Nat) : Int) == s2)
  ((0 : Int) ≤ 1 ∧
  1 ≤ ((s7n : Nat) : Int) ∧
  N_l16_put.j16 Q (slA s7 (Int.toNat 1) s7c 5) (s7n - (Int.toNat 1)) (s7c - (Int.toNat 1)) s8 w)
  (N_l16_put.j16 Q s7 s7n s7c s8 w))
  (N_l16_put.j16 Q s7 s7n s7c s8 w))) :
N_l16_put.j7 Q s0 s0n s0c s2 s4 s7 s7n s7c s8 s9 s10 w := Nd_fold K_l16_put (by kernel_rfl) h
theorem N_l16_put.j8_eq (Q : Value → World → Prop) (s0 : Option Addr) (s0n : Nat) (s0c : Nat) (s2 : Int) (s4 : Addr) (s7 : Option Addr) (s7n : Nat) (s7c : Nat) (s8 : Addr) (s9 : Bool) (s10 : Int) (w : World) (h :
  N_l16_put.j7 Q s0 s0n s0c s2 s4 s7 s7n s7c s8 s9 (IntKind.wrap .i64 (s10 + 1)) w) :
N_l16_put.j8 Q s0 s0n s0c s2 s4 s7 s7n s7c s8 s9 s10 w := Nd_fold K_l16_put (by kernel_rfl) h
theorem N_l16_put.j16_eq (Q : Value → World → Prop) (s7 : Option Addr) (s7n : Nat) (s7c : Nat) (s8 : Addr) (w : World) (h :
  opnI .i64 (w.cell? (s8.add 0)) fun x1 =>
  opnI .i64 (w.cell? (s8.add 1)) fun x2 =>
  opnI .i64 (w.cell? (s8.add 2)) fun x3 =>
  opnI .i64 (w.cell? (s8.add 3)) fun x4 =>
  opnB (w.cell? (s8.add 4)) fun x5 =>
  alC #[.int .i64 x1, .int .i64 x2, .int .i64 x3, .int .i64 x4, .bool x5] 41 w fun p6 w7 =>
  sem PP (Builtin.append_ #[46, 46] 46 #[.slice s7 s7n s7c, .slice (some p6) 1 1]) w7 fun v8 w9 =>
  opnL (some v8) fun x10 x10n x10c =>
  N_l16_put.j17 Q x10 x10n x10c w9) :
N_l16_put.j16 Q s7 s7n s7c s8 w := Nd_fold K_l16_put (by kernel_rfl) h
theorem N_l16_put.j17_eq (Q : Value → World → Prop) (s7 : Option Addr) (s7n : Nat) (s7c : Nat) (w : World) (h :
  Q (.slice s7 s7n s7c) w) :
N_l16_put.j17 Q s7 s7n s7c w := Nd_fold K_l16_put (by kernel_rfl) h
noncomputable def B_l16_headOf : Code := match Tryz.f29.body with | some c => c | _ => .skip
noncomputable def X_l16_headOf : Cx := { P := PP, fn := 29, N := 29, tab := tab, results := [.tmp 2], iter := fun _ => (.none, .none), dyn := fun _ => false, live := fun r => cond (Nat.beq r 3) (some [0, 3, 4]) (none) }
theorem K_l16_headOf : OkF X_l16_headOf B_l16_headOf Tryz.f29 := ⟨⟨tab_ok, mix_ok⟩, Tryz.func29, by kernel_rfl, by kernel_rfl, by kernel_rfl, by kernel_rfl⟩
noncomputable def N_l16_headOf.j3 (Q : Value → World → Prop) (s0 : Int) (s3 : Option Addr) (s3n : Nat) (s3c : Nat) (s4 : Int) (w : World) : Prop := Nd X_l16_headOf Q [(0, 0, .int .i64 s0), (3, 3, .slice s3 s3n s3c), (4, 4, .int .i64 s4)] [.code (B_l16_headOf.r.r.l.r.l.l.l.l), .code (B_l16_headOf.r.r.l.r.l.l.l.r), .code (B_l16_headOf.r.r.l.r.l.l.r), .inLoop (B_l16_headOf.r.r.l.r.l.l), .inBlock 0, .code (B_l16_headOf.r.r.r)] w
theorem N_l16_headOf.j3_eq (Q : Value → World → Prop) (s0 : Int) (s3 : Option Addr) (s3n : Nat) (s3c : Nat) (s4 : Int) (w : World) (h :
  cond (decide (s4 < 40))
  (C_l16_within #[.int .i64 (IntKind.wrap .i64 (s0 + s4)), .int .i64 26] w fun v1 w2 =>
  opnI .i64 (some v1) fun x3 =>
  (0 : Int) ≤ s4 ∧
  s4 < ((s3n : Nat) : Int) ∧
  opnA s3 fun ad4 =>
  stC (ad4.add (Int.toNat s4 * 1)) (.int .u8 (IntKind.wrap .u8 (IntKind.wrap .i64 (97 + x3)))) w2 fun w5 =>
  N_l16_headOf.j3 Q s0 s3 s3n s3c (IntKind.wrap .i64 (s4 + 1)) w5)
  ((0 : Int) ≤ 0 ∧
  0 < ((s3n : Nat) : Int) ∧
  opnA s3 fun ad6 =>
  stC (ad6.add (Int.toNat 0 * 1)) (.int .u8 (IntKind.wrap .u8 s0)) w fun w7 =>
  (0 : Int) ≤ 1 ∧
  1 < ((s3n : Nat) : Int) ∧
  opnA s3 fun ad8 =>
  stC (ad8.add (Int.toNat 1 * 1)) (.int .u8 (IntKind.wrap .u8 (shrI .i64 s0 8))) w7 fun w9 =>
  Q (.slice s3 s3n s3c) w9)) :
N_l16_headOf.j3 Q s0 s3 s3n s3c s4 w := Nd_fold K_l16_headOf (by kernel_rfl) h
theorem C_l16_headOf_eq (Q : Value → World → Prop) (a0 : Int) (w : World) (h :
  sem PP (Instr.makeSlice 24 (.int .i64 40) (.int .i64 40)) w fun v1 w2 =>
  opnL (some v1) fun x3 x3n x3c =>
  N_l16_headOf.j3 Q a0 x3 x3n x3c 0 w2) :
C_l16_headOf #[.int .i64 a0] w Q := C_fold K_l16_headOf (by kernel_rfl) h
noncomputable def B_p_cache_Cache_SetHead : Code := match Tryz.f30.body with | some c => c | _ => .skip
noncomputable def X_p_cache_Cache_SetHead : Cx := { P := PP, fn := 30, N := 69, tab := tab, results := [.tmp 6], iter := fun _ => (.none, .none), dyn := fun r => cond (Nat.beq r 58) true (false), live := fun r => cond (Nat.beq r 12) (some [3, 5, 52, 53, 54]) (none) }
theorem K_p_cache_Cache_SetHead : OkF X_p_cache_Cache_SetHead B_p_cache_Cache_SetHead Tryz.f30 := ⟨⟨tab_ok, mix_ok⟩, Tryz.func30, by kernel_rfl, by kernel_rfl, by kernel_rfl, by kernel_rfl⟩
noncomputable def N_p_cache_Cache_SetHead.j12 (Q : Value → World → Prop) (s3 : Addr) (s5 : Addr) (s52 : Option Addr) (s52n : Nat) (s52c : Nat) (s53 : Int) (s54 : Int) (w : World) : Prop := Nd X_p_cache_Cache_SetHead Q [(3, 3, .pointer (some s3)), (5, 5, .pointer (some s5)), (52, 52, .slice s52 s52n s52c), (53, 53, .int .i64 s53), (54, 54, .int .i64 s54)] [.code (B_p_cache_Cache_SetHead.r.r.r.r.r.r.r.l.r.l.l.l), .code (B_p_cache_Cache_SetHead.r.r.r.r.r.r.r.l.r.l.l.r), .inLoop (B_p_cache_Cache_SetHead.r.r.r.r.r.r.r.l.r.l.l), .inBlock 0, .code (B_p_cache_Cache_SetHead.r.r.r.r.r.r.r.r)] w
theorem N_p_cache_Cache_SetHead.j12_eq (Q : Value → World → Prop) (s3 : Addr) (s5 : Addr) (s52 : Option Addr) (s52n : Nat) (s52c : Nat) (s53 : Int) (s54 : Int) (w : World) (h :
  cond (decide (s54 < s53))
  ((0 : Int) ≤ s54 ∧
  s54 < ((s52n : Nat) : Int) ∧
  opnA s52 fun ad1 =>
  opnV (w.cell? (ad1.add (Int.toNat s54 * 1))) fun x2 =>
  invk PP x2 #[] w fun v3 w4 =>
  opnI .i64 (some v3) fun x5 =>
  cond (x5 != 0)
  (Q (.int .i64 x5) w4)
  (N_p_cache_Cache_SetHead.j12 Q s3 s5 s52 s52n s52c s53 (IntKind.wrap .i64 (s54 + 1)) w4))
  (drw w fun w6 =>
  opnP (w6.cell? s3) fun x7 =>
  opnL (w6.cell? s5) fun x8 x8n x8c =>
  C_bytes_Clone #[.slice x8 x8n x8c] w6 fun v9 w10 =>
  opnL (some v9) fun x11 x11n x11c =>
  (opnP (w10.cell? s3) fun x12 =>
  ((.pointer x12) : Value) = .pointer x7) ∧
  opnA x7 fun ad13 =>
  stC (ad13.add 5) (.slice x11 x11n x11c) w10 fun w14 =>
  Q (.int .i64 0) w14)) :
N_p_cache_Cache_SetHead.j12 Q s3 s5 s52 s52n s52c s53 s54 w := Nd_fold K_p_cache_Cache_SetHead (by kernel_rfl) h
theorem C_p_cache_Cache_SetHead_eq (Q : Value → World → Prop) (a0 : Option Addr) (a1 : Option Addr) (a1n : Nat) (a1c : Nat) (a2 : Option Addr) (a2n : Nat) (a2c : Nat) (w : World) (h :
  alC #[.pointer a0] 30 w fun p1 w2 =>
  alC #[.slice a2 a2n a2c] 24 w2 fun p3 w4 =>
  opnP (w4.cell? p1) fun x5 =>
  opnA x5 fun ad6 =>
  opnL (w4.cell? (ad6.add 5)) fun x7 x7n x7c =>
  C_bytes_Equal #[.slice a1 a1n a1c, .slice x7 x7n x7c] w4 fun v8 w9 =>
  opnB (some v8) fun x10 =>
  cond (!x10)
  (Q (.int .i64 162) w9)
  (opnL (w9.cell? p3) fun x11 x11n x11c =>
  cond (decide (((x11n : Nat) : Int) > 65536))
  (Q (.int .i64 2) w9)
  (drw w9 fun w12 =>
  opnP (w12.cell? p1) fun x13 =>
  opnA x13 fun ad14 =>
  opnP (w12.cell? (ad14.add 2)) fun x15 =>
  opnP (w12.cell? p1) fun x16 =>
  C_p_cache_Cache_headFile #[.pointer x16] w12 fun v17 w18 =>
  opnS (some v17) fun x19 =>
  (opnP (w18.cell? (ad14.add 2)) fun x20 =>
  ((.pointer x20) : Value) = .pointer x15) ∧
  (opnP (w18.cell? p1) fun x21 =>
  ((.pointer x21) : Value) = .pointer x13) ∧
  C_p_disk_Disk_Read #[.pointer x15, .string x19] w18 fun v22 w23 =>
  opnT (some v22) fun x24 =>
  x24.size = 2 ∧
  opnL (x24[0]?) fun x25 x25n x25c =>
  opnI .i64 (x24[1]?) fun x26 =>
  cond (x26 == 125)
  (Q (.int .i64 x26) w23)
  (C_bytes_Equal #[.slice x25 x25n x25c, .slice a1 a1n a1c] w23 fun v27 w28 =>
  opnB (some v27) fun x29 =>
  cond (!x29)
  (Q (.int .i64 162) w28)
  (opnP (w28.cell? p1) fun x30 =>
  C_p_cache_Cache_headFile #[.pointer x30] w28 fun v31 w32 =>
  opnS (some v31) fun x33 =>
  x33.size + (⟨#[46, 110, 101, 119]⟩ : ByteArray).size ≤ 9223372036854775807 ∧
  alC #[.string (⟨#[]⟩ : ByteArray)] 9 w32 fun p34 w35 =>
  stC p34 (.string (x33 ++ (⟨#[46, 110, 101, 119]⟩ : ByteArray))) w35 fun w36 =>
  opnP (w36.cell? p1) fun x37 =>
  opnA x37 fun ad38 =>
  opnP (w36.cell? (ad38.add 2)) fun x39 =>
  alC #[.func (.func 68) #[] #[.pointer (some p1), .pointer (some p34)], .func (.func 69) #[] #[.pointer (some p1), .pointer (some p34), .pointer (some p3)], .func (.func 70) #[] #[.pointer (some p1), .pointer (some p34)], .func (.func 72) #[] #[.pointer (some p1), .pointer (some p34)], .func (.func 49) #[.pointer x39] #[]] 110 w36 fun p40 w41 =>
  N_p_cache_Cache_SetHead.j12 Q p1 p3 (some p40) 5 5 ((5 : Nat) : Int) 0 w41))))) :
C_p_cache_Cache_SetHead #[.pointer a0, .slice a1 a1n a1c, .slice a2 a2n a2c] w Q := C_fold K_p_cache_Cache_SetHead (by kernel_rfl) h
noncomputable def B_l16_CachePlan_arm : Code := match Tryz.f31.body with | some c => c | _ => .skip
noncomputable def X_l16_CachePlan_arm : Cx := { P := PP, fn := 31, N := 43, tab := tab, results := [.tmp 6], iter := fun _ => (.none, .none), dyn := fun _ => false, live := fun r => cond (Nat.beq r 2) (some []) (cond (Nat.beq r 4) (some []) (none)) }
theorem K_l16_CachePlan_arm : OkF X_l16_CachePlan_arm B_l16_CachePlan_arm Tryz.f31 := ⟨⟨tab_ok, mix_ok⟩, Tryz.func31, by kernel_rfl, by kernel_rfl, by kernel_rfl, by kernel_rfl⟩
noncomputable def N_l16_CachePlan_arm.j2 (Q : Value → World → Prop) (w : World) : Prop := Nd X_l16_CachePlan_arm Q [] [.code (B_l16_CachePlan_arm.r.l.r.l.l), .code (B_l16_CachePlan_arm.r.l.r.l.r), .code (B_l16_CachePlan_arm.r.r)] w
noncomputable def N_l16_CachePlan_arm.j4 (Q : Value → World → Prop) (w : World) : Prop := Nd X_l16_CachePlan_arm Q [] [.code (B_l16_CachePlan_arm.r.r.r.l), .code (B_l16_CachePlan_arm.r.r.r.r)] w
theorem N_l16_CachePlan_arm.j2_eq (Q : Value → World → Prop) (w : World) (h :
  Q (.bool false) w) :
N_l16_CachePlan_arm.j2 Q w := Nd_fold K_l16_CachePlan_arm (by kernel_rfl) h
theorem N_l16_CachePlan_arm.j4_eq (Q : Value → World → Prop) (w : World) (h :
  Q (.bool true) w) :
N_l16_CachePlan_arm.j4 Q w := Nd_fold K_l16_CachePlan_arm (by kernel_rfl) h
theorem C_l16_CachePlan_arm_eq (Q : Value → World → Prop) (a0_0 : Option Addr) (a0_0n : Nat) (a0_0c : Nat) (a0_1 : Option Addr) (a0_1n : Nat) (a0_1c : Nat) (a0_2 : Option Addr) (a0_2n : Nat) (a0_2c : Nat) (a0_3 : Option Addr) (a0_3n : Nat) (a0_3c : Nat) (a0_4 : Int) (a1 : Option Addr) (a2 : Int) (w : World) (h :
  alC #[.slice a0_0 a0_0n a0_0c, .slice a0_1 a0_1n a0_1c, .slice a0_2 a0_2n a0_2c, .slice a0_3 a0_3n a0_3c, .int .i64 a0_4] 51 w fun p1 w2 =>
  opnL (w2.cell? (p1.add 1)) fun x3 x3n x3c =>
  cond (decide (a2 ≥ ((x3n : Nat) : Int)))
  (N_l16_CachePlan_arm.j2 Q w2)
  (opnL (w2.cell? (p1.add 2)) fun x4 x4n x4c =>
  cond (decide (a2 ≥ ((x4n : Nat) : Int)))
  (N_l16_CachePlan_arm.j2 Q w2)
  (opnL (w2.cell? (p1.add 1)) fun x5 x5n x5c =>
  (0 : Int) ≤ a2 ∧
  a2 < ((x5n : Nat) : Int) ∧
  opnA x5 fun ad6 =>
  opnI .i64 (w2.cell? (ad6.add (Int.toNat a2 * 1))) fun x7 =>
  cond (decide (x7 < 1))
  (N_l16_CachePlan_arm.j2 Q w2)
  (drw w2 fun w8 =>
  opnL (w8.cell? (p1.add 1)) fun x9 x9n x9c =>
  (0 : Int) ≤ a2 ∧
  a2 < ((x9n : Nat) : Int) ∧
  opnA x9 fun ad10 =>
  opnI .i64 (w8.cell? (ad10.add (Int.toNat a2 * 1))) fun x11 =>
  opnL (w8.cell? (p1.add 2)) fun x12 x12n x12c =>
  (0 : Int) ≤ a2 ∧
  a2 < ((x12n : Nat) : Int) ∧
  opnA x12 fun ad13 =>
  opnI .i64 (w8.cell? (ad13.add (Int.toNat a2 * 1))) fun x14 =>
  (alC #[.int .i64 125, .int .i64 124, .int .i64 123] 31 w8 fun p15 w16 =>
  (opnI .i64 (w16.cell? (ad13.add (Int.toNat a2 * 1))) fun x17 =>
  ((.int .i64 x17) : Value) = .int .i64 x14) ∧
  (opnL (w16.cell? (p1.add 2)) fun x18 x18n x18c =>
  ((.slice x18 x18n x18c) : Value) = .slice x12 x12n x12c) ∧
  (opnI .i64 (w16.cell? (ad10.add (Int.toNat a2 * 1))) fun x19 =>
  ((.int .i64 x19) : Value) = .int .i64 x11) ∧
  (opnL (w16.cell? (p1.add 1)) fun x20 x20n x20c =>
  ((.slice x20 x20n x20c) : Value) = .slice x9 x9n x9c) ∧
  C_l16_within #[.int .i64 x14, .int .i64 3] w16 fun v21 w22 =>
  opnI .i64 (some v21) fun x23 =>
  (opnI .i64 (w22.cell? (ad10.add (Int.toNat a2 * 1))) fun x24 =>
  ((.int .i64 x24) : Value) = .int .i64 x11) ∧
  (opnL (w22.cell? (p1.add 1)) fun x25 x25n x25c =>
  ((.slice x25 x25n x25c) : Value) = .slice x9 x9n x9c) ∧
  (0 : Int) ≤ x23 ∧
  x23 < ((3 : Nat) : Int) ∧
  opnA (some p15) fun ad26 =>
  opnI .i64 (w22.cell? (ad26.add (Int.toNat x23 * 1))) fun x27 =>
  C_p_disk_Disk_Fail #[.pointer a1, .int .i64 x11, .int .i64 x27] w22 fun v28 w29 =>
  opnI .i64 (some v28) fun x30 =>
  N_l16_CachePlan_arm.j4 Q w29) ∧
  (C_l16_within #[.int .i64 x14, .int .i64 3] w8 fun v31 w32 =>
  opnI .i64 (some v31) fun x33 =>
  (opnI .i64 (w32.cell? (ad10.add (Int.toNat a2 * 1))) fun x34 =>
  ((.int .i64 x34) : Value) = .int .i64 x11) ∧
  (opnL (w32.cell? (p1.add 1)) fun x35 x35n x35c =>
  ((.slice x35 x35n x35c) : Value) = .slice x9 x9n x9c) ∧
  alC #[.int .i64 125, .int .i64 124, .int .i64 123] 31 w32 fun p36 w37 =>
  (opnI .i64 (w37.cell? (ad13.add (Int.toNat a2 * 1))) fun x38 =>
  ((.int .i64 x38) : Value) = .int .i64 x14) ∧
  (opnL (w37.cell? (p1.add 2)) fun x39 x39n x39c =>
  ((.slice x39 x39n x39c) : Value) = .slice x12 x12n x12c) ∧
  (opnI .i64 (w37.cell? (ad10.add (Int.toNat a2 * 1))) fun x40 =>
  ((.int .i64 x40) : Value) = .int .i64 x11) ∧
  (opnL (w37.cell? (p1.add 1)) fun x41 x41n x41c =>
  ((.slice x41 x41n x41c) : Value) = .slice x9 x9n x9c) ∧
  (0 : Int) ≤ x33 ∧
  x33 < ((3 : Nat) : Int) ∧
  opnA (some p36) fun ad42 =>
  opnI .i64 (w37.cell? (ad42.add (Int.toNat x33 * 1))) fun x43 =>
  C_p_disk_Disk_Fail #[.pointer a1, .int .i64 x11, .int .i64 x43] w37 fun v44 w45 =>
  opnI .i64 (some v44) fun x46 =>
  N_l16_CachePlan_arm.j4 Q w45))))) :
C_l16_CachePlan_arm #[.agg #[.slice a0_0 a0_0n a0_0c, .slice a0_1 a0_1n a0_1c, .slice a0_2 a0_2n a0_2c, .slice a0_3 a0_3n a0_3c, .int .i64 a0_4], .pointer a1, .int .i64 a2] w Q := C_fold K_l16_CachePlan_arm (by kernel_rfl) h
noncomputable def B_l16_CachePlan_crashed : Code := match Tryz.f32.body with | some c => c | _ => .skip
noncomputable def X_l16_CachePlan_crashed : Cx := { P := PP, fn := 32, N := 63, tab := tab, results := [.tmp 6, .tmp 7, .tmp 8], iter := fun _ => (.none, .none), dyn := fun _ => false, live := fun r => cond (Nat.beq r 3) (some [1, 2, 3, 9, 10]) (none) }
theorem K_l16_CachePlan_crashed : OkF X_l16_CachePlan_crashed B_l16_CachePlan_crashed Tryz.f32 := ⟨⟨tab_ok, mix_ok⟩, Tryz.func32, by kernel_rfl, by kernel_rfl, by kernel_rfl, by kernel_rfl⟩
noncomputable def N_l16_CachePlan_crashed.j3 (Q : Value → World → Prop) (s1 : Option Addr) (s2 : Int) (s3 : Addr) (s9 : Option Addr) (s9n : Nat) (s9c : Nat) (s10 : Int) (w : World) : Prop := Nd X_l16_CachePlan_crashed Q [(1, 1, .pointer s1), (2, 2, .int .i64 s2), (3, 3, .pointer (some s3)), (9, 9, .slice s9 s9n s9c), (10, 10, .int .i64 s10)] [.code (B_l16_CachePlan_crashed.r.r.l.r.l.l.l.l), .code (B_l16_CachePlan_crashed.r.r.l.r.l.l.l.r), .code (B_l16_CachePlan_crashed.r.r.l.r.l.l.r), .inLoop (B_l16_CachePlan_crashed.r.r.l.r.l.l), .inBlock 0, .code (B_l16_CachePlan_crashed.r.r.r)] w
theorem N_l16_CachePlan_crashed.j3_eq (Q : Value → World → Prop) (s1 : Option Addr) (s2 : Int) (s3 : Addr) (s9 : Option Addr) (s9n : Nat) (s9c : Nat) (s10 : Int) (w : World) (h :
  opnL (w.cell? (s3.add 3)) fun x1 x1n x1c =>
  cond (decide (s10 < ((x1n : Nat) : Int)))
  (opnL (w.cell? (s3.add 3)) fun x2 x2n x2c =>
  (0 : Int) ≤ s10 ∧
  s10 < ((x2n : Nat) : Int) ∧
  opnA x2 fun ad3 =>
  opnI .i64 (w.cell? (ad3.add (Int.toNat s10 * 1))) fun x4 =>
  alC #[.int .i64 (IntKind.wrap .i64 (x4 + s2))] 3 w fun p5 w6 =>
  sem PP (Builtin.append_ #[49, 49] 49 #[.slice s9 s9n s9c, .slice (some p5) 1 1]) w6 fun v7 w8 =>
  opnL (some v7) fun x9 x9n x9c =>
  N_l16_CachePlan_crashed.j3 Q s1 s2 s3 x9 x9n x9c (IntKind.wrap .i64 (s10 + 1)) w8)
  (C_p_disk_Disk_Crash #[.pointer s1, .slice s9 s9n s9c] w fun v10 w11 =>
  opnP (some v10) fun x12 =>
  semR PP (do eqGuard .eql 27 (.tmp 36) (.const (.pointer none)) (.pointer x12) (.pointer none); binOp .eql 27 (.pointer x12) (.pointer none)) w11 fun x13 =>
  opnB (some x13) fun x14 =>
  cond x14
  (Q (.tuple #[.pointer none, .pointer none, .bool false]) w11)
  (C_p_disk_Disk_Files #[.pointer x12] w11 fun v15 w16 =>
  opnL (some v15) fun x17 x17n x17c =>
  C_l16_loaded #[.slice x17 x17n x17c] w16 fun v18 w19 =>
  opnT (some v18) fun x20 =>
  x20.size = 2 ∧
  opnP (x20[0]?) fun x21 =>
  opnB (x20[1]?) fun x22 =>
  cond (!x22)
  (Q (.tuple #[.pointer none, .pointer none, .bool false]) w19)
  (opnI .i64 (w19.cell? (s3.add 4)) fun x23 =>
  C_l16_within #[.int .i64 x23, .int .i64 20] w19 fun v24 w25 =>
  opnI .i64 (some v24) fun x26 =>
  C_cache_Open #[.pointer x21, .string (⟨#[99, 48]⟩ : ByteArray), .int .i64 x26] w25 fun v27 w28 =>
  opnT (some v27) fun x29 =>
  x29.size = 2 ∧
  opnP (x29[0]?) fun x30 =>
  opnI .i64 (x29[1]?) fun x31 =>
  C_l16_num #[.int .i64 x31] w28 fun v32 w33 =>
  opnI .i64 (some v32) fun x34 =>
  cond (x34 == 0)
  (semR PP (do eqGuard .neq 30 (.tmp 60) (.const (.pointer none)) (.pointer x30) (.pointer none); binOp .neq 30 (.pointer x30) (.pointer none)) w33 fun x35 =>
  opnB (some x35) fun x36 =>
  Q (.tuple #[.pointer x21, .pointer x30, .bool x36]) w33)
  (Q (.tuple #[.pointer x21, .pointer x30, .bool false]) w33))))) :
N_l16_CachePlan_crashed.j3 Q s1 s2 s3 s9 s9n s9c s10 w := Nd_fold K_l16_CachePlan_crashed (by kernel_rfl) h
theorem C_l16_CachePlan_crashed_eq (Q : Value → World → Prop) (a0_0 : Option Addr) (a0_0n : Nat) (a0_0c : Nat) (a0_1 : Option Addr) (a0_1n : Nat) (a0_1c : Nat) (a0_2 : Option Addr) (a0_2n : Nat) (a0_2c : Nat) (a0_3 : Option Addr) (a0_3n : Nat) (a0_3c : Nat) (a0_4 : Int) (a1 : Option Addr) (a2 : Int) (w : World) (h :
  alC #[.slice a0_0 a0_0n a0_0c, .slice a0_1 a0_1n a0_1c, .slice a0_2 a0_2n a0_2c, .slice a0_3 a0_3n a0_3c, .int .i64 a0_4] 51 w fun p1 w2 =>
  N_l16_CachePlan_crashed.j3 Q a1 a2 p1 none 0 0 0 w2) :
C_l16_CachePlan_crashed #[.agg #[.slice a0_0 a0_0n a0_0c, .slice a0_1 a0_1n a0_1c, .slice a0_2 a0_2n a0_2c, .slice a0_3 a0_3n a0_3c, .int .i64 a0_4], .pointer a1, .int .i64 a2] w Q := C_fold K_l16_CachePlan_crashed (by kernel_rfl) h
noncomputable def B_disk_New : Code := match Tryz.f34.body with | some c => c | _ => .skip
noncomputable def X_disk_New : Cx := { P := PP, fn := 34, N := 12, tab := tab, results := [.tmp 2, .tmp 3], iter := fun _ => (.none, .none), dyn := fun _ => false, live := fun _ => none }
theorem K_disk_New : OkF X_disk_New B_disk_New Tryz.f34 := ⟨⟨tab_ok, mix_ok⟩, Tryz.func34, by kernel_rfl, by kernel_rfl, by kernel_rfl, by kernel_rfl⟩
theorem C_disk_New_eq (Q : Value → World → Prop) (a0 : Int) (w : World) (h :
  C_disk_bounded #[.int .i64 a0] w fun v1 w2 =>
  opnB (some v1) fun x3 =>
  cond (!x3)
  (Q (.tuple #[.pointer none, .int .i64 1]) w2)
  (alM w2 fun r4 w5 =>
  alM w5 fun r6 w7 =>
  alC #[.int .i64 a0, .map (some r4), .map (some r6), .slice none 0 0, .int .i64 0, .int .i64 0, .int .i64 0, .int .i64 0, .bool false] 119 w7 fun p8 w9 =>
  Q (.tuple #[.pointer (some p8), .int .i64 0]) w9)) :
C_disk_New #[.int .i64 a0] w Q := C_fold K_disk_New (by kernel_rfl) h
end Go.Proofs.YtcigjlbpdkkflaaGreatDoor
set_option maxRecDepth 100000
namespace Go.Proofs.YtcigjlbpdkkflaaGreatDoor
open Go.Sh
noncomputable def B_cache_named : Code := match Tryz.f41.body with | some c => c | _ => .skip
noncomputable def X_cache_named : Cx := { P := PP, fn := 41, N := 35, tab := tab, results := [.tmp 2], iter := fun _ => (.none, .none), dyn := fun _ => false, live := fun r => cond (Nat.beq r 2) (some [0, 6, 7]) (cond (Nat.beq r 6) (some []) (cond (Nat.beq r 7) (some [0, 6, 7]) (none))) }
theorem K_cache_named : OkF X_cache_named B_cache_named Tryz.f41 := ⟨⟨tab_ok, mix_ok⟩, Tryz.func41, by kernel_rfl, by kernel_rfl, by kernel_rfl, by kernel_rfl⟩
noncomputable def N_cache_named.j2 (Q : Value → World → Prop) (s0 : ByteArray) (s6 : Int) (s7 : Int) (w : World) : Prop := Nd X_cache_named Q [(0, 0, .string s0), (6, 6, .int .i64 s6), (7, 7, .int .i64 s7)] [.code (B_cache_named.r.l.r.l.l.l), .code (B_cache_named.r.l.r.l.l.r), .inLoop (B_cache_named.r.l.r.l.l), .inBlock 0, .code (B_cache_named.r.r)] w
noncomputable def N_cache_named.j6 (Q : Value → World → Prop) (w : World) : Prop := Nd X_cache_named Q [] [.code (B_cache_named.r.l.r.l.l.r.r.l.l.r.r.r.l.l), .code (B_cache_named.r.l.r.l.l.r.r.l.l.r.r.r.l.r), .inBlock 1, .code (B_cache_named.r.l.r.l.l.r.r.r), .inLoop (B_cache_named.r.l.r.l.l), .inBlock 0, .code (B_cache_named.r.r)] w
noncomputable def N_cache_named.j7 (Q : Value → World → Prop) (s0 : ByteArray) (s6 : Int) (s7 : Int) (w : World) : Prop := Nd X_cache_named Q [(0, 0, .string s0), (6, 6, .int .i64 s6), (7, 7, .int .i64 s7)] [.code (B_cache_named.r.l.r.l.l.r.r.r), .inLoop (B_cache_named.r.l.r.l.l), .inBlock 0, .code (B_cache_named.r.r)] w
theorem N_cache_named.j2_eq (Q : Value → World → Prop) (s0 : ByteArray) (s6 : Int) (s7 : Int) (w : World) (h :
  cond (decide (s7 < s6))
  ((0 : Int) ≤ s7 ∧
  s7 < ((s0.size : Nat) : Int) ∧
  cond (decide ((bt s0 (Int.toNat s7)) < 97))
  (cond (decide ((bt s0 (Int.toNat s7)) < 48))
  (N_cache_named.j6 Q w)
  (cond (decide ((bt s0 (Int.toNat s7)) > 57))
  (N_cache_named.j6 Q w)
  (N_cache_named.j7 Q s0 s6 s7 w)))
  (cond (decide ((bt s0 (Int.toNat s7)) > 122))
  (cond (decide ((bt s0 (Int.toNat s7)) < 48))
  (N_cache_named.j6 Q w)
  (cond (decide ((bt s0 (Int.toNat s7)) > 57))
  (N_cache_named.j6 Q w)
  (N_cache_named.j7 Q s0 s6 s7 w)))
  (N_cache_named.j7 Q s0 s6 s7 w)))
  (cond (!(s0.toList == (⟨#[]⟩ : ByteArray).toList))
  (Q (.bool (decide (((s0.size : Nat) : Int) ≤ 30))) w)
  (Q (.bool false) w))) :
N_cache_named.j2 Q s0 s6 s7 w := Nd_fold K_cache_named (by kernel_rfl) h
theorem N_cache_named.j6_eq (Q : Value → World → Prop) (w : World) (h :
  Q (.bool false) w) :
N_cache_named.j6 Q w := Nd_fold K_cache_named (by kernel_rfl) h
theorem N_cache_named.j7_eq (Q : Value → World → Prop) (s0 : ByteArray) (s6 : Int) (s7 : Int) (w : World) (h :
  N_cache_named.j2 Q s0 s6 (IntKind.wrap .i64 (s7 + 1)) w) :
N_cache_named.j7 Q s0 s6 s7 w := Nd_fold K_cache_named (by kernel_rfl) h
theorem C_cache_named_eq (Q : Value → World → Prop) (a0 : ByteArray) (w : World) (h :
  N_cache_named.j2 Q a0 ((a0.size : Nat) : Int) 0 w) :
C_cache_named #[.string a0] w Q := C_fold K_cache_named (by kernel_rfl) h
noncomputable def B_p_disk_Disk_Read : Code := match Tryz.f42.body with | some c => c | _ => .skip
noncomputable def X_p_disk_Disk_Read : Cx := { P := PP, fn := 42, N := 27, tab := tab, results := [.tmp 4, .tmp 5], iter := fun _ => (.none, .none), dyn := fun _ => false, live := fun _ => none }
theorem K_p_disk_Disk_Read : OkF X_p_disk_Disk_Read B_p_disk_Disk_Read Tryz.f42 := ⟨⟨tab_ok, mix_ok⟩, Tryz.func42, by kernel_rfl, by kernel_rfl, by kernel_rfl, by kernel_rfl⟩
theorem C_p_disk_Disk_Read_eq (Q : Value → World → Prop) (a0 : Option Addr) (a1 : ByteArray) (w : World) (h :
  opnA a0 fun ad1 =>
  opnB (w.cell? (ad1.add 8)) fun x2 =>
  cond x2
  (Q (.tuple #[.slice none 0 0, .int .i64 125]) w)
  (C_p_disk_Disk_there #[.pointer a0, .string a1] w fun v3 w4 =>
  opnI .i64 (some v3) fun x5 =>
  cond (x5 != 0)
  (Q (.tuple #[.slice none 0 0, .int .i64 x5]) w4)
  (opnA a0 fun ad6 =>
  opnM (w4.cell? (ad6.add 1)) fun x7 =>
  semR PP (Instr.lookup 116 (.map x7) (.string a1) false) w4 fun x8 =>
  opnP (some x8) fun x9 =>
  opnA x9 fun ad10 =>
  opnL (w4.cell? (ad10.add 0)) fun x11 x11n x11c =>
  C_slices_Clone_byte_byte #[.slice x11 x11n x11c] w4 fun v12 w13 =>
  opnL (some v12) fun x14 x14n x14c =>
  Q (.tuple #[.slice x14 x14n x14c, .int .i64 0]) w13))) :
C_p_disk_Disk_Read #[.pointer a0, .string a1] w Q := C_fold K_p_disk_Disk_Read (by kernel_rfl) h
noncomputable def B_p_cache_Cache_headFile : Code := match Tryz.f43.body with | some c => c | _ => .skip
noncomputable def X_p_cache_Cache_headFile : Cx := { P := PP, fn := 43, N := 8, tab := tab, results := [.tmp 2], iter := fun _ => (.none, .none), dyn := fun _ => false, live := fun _ => none }
theorem K_p_cache_Cache_headFile : OkF X_p_cache_Cache_headFile B_p_cache_Cache_headFile Tryz.f43 := ⟨⟨tab_ok, mix_ok⟩, Tryz.func43, by kernel_rfl, by kernel_rfl, by kernel_rfl, by kernel_rfl⟩
theorem C_p_cache_Cache_headFile_eq (Q : Value → World → Prop) (a0 : Option Addr) (w : World) (h :
  opnA a0 fun ad1 =>
  opnS (w.cell? (ad1.add 3)) fun x2 =>
  x2.size + (⟨#[104, 101, 97, 100]⟩ : ByteArray).size ≤ 9223372036854775807 ∧
  Q (.string (x2 ++ (⟨#[104, 101, 97, 100]⟩ : ByteArray))) w) :
C_p_cache_Cache_headFile #[.pointer a0] w Q := C_fold K_p_cache_Cache_headFile (by kernel_rfl) h
noncomputable def B_p_disk_Disk_List : Code := match Tryz.f44.body with | some c => c | _ => .skip
noncomputable def X_p_disk_Disk_List : Cx := { P := PP, fn := 44, N := 30, tab := tab, results := [.tmp 4], iter := fun r => cond (Nat.beq r 15) (.one .str, .one .ptr) ((.none, .none)), dyn := fun _ => false, live := fun r => cond (Nat.beq r 5) (some [1, 5, 15]) (none) }
theorem K_p_disk_Disk_List : OkF X_p_disk_Disk_List B_p_disk_Disk_List Tryz.f44 := ⟨⟨tab_ok, mix_ok⟩, Tryz.func44, by kernel_rfl, by kernel_rfl, by kernel_rfl, by kernel_rfl⟩
noncomputable def N_p_disk_Disk_List.j5 (Q : Value → World → Prop) (s1 : ByteArray) (s5 : Option Addr) (s5n : Nat) (s5c : Nat) (s15 : Addr) (w : World) : Prop := Nd X_p_disk_Disk_List Q [(1, 1, .string s1), (5, 5, .slice s5 s5n s5c), (15, 15, .pointer (some s15))] [.code (B_p_disk_Disk_List.r.r.r.l.r.l.l.l), .code (B_p_disk_Disk_List.r.r.r.l.r.l.l.r), .inLoop (B_p_disk_Disk_List.r.r.r.l.r.l.l), .inBlock 0, .code (B_p_disk_Disk_List.r.r.r.r)] w
theorem N_p_disk_Disk_List.j5_eq (Q : Value → World → Prop) (s1 : ByteArray) (s5 : Option Addr) (s5n : Nat) (s5c : Nat) (s15 : Addr) (w : World) (h :
  sem PP (Instr.next (.pointer (some s15)) false 0) w fun v1 w2 =>
  opnN v1
  (C_slices_Sort_string_string #[.slice s5 s5n s5c] w2 fun v5 w6 =>
  opnT (some v5) fun x7 =>
  x7.size = 0 ∧
  Q (.slice s5 s5n s5c) w6)
  fun k3 x4 =>
  opnS (some k3) fun x8 =>
  opnP (some x4) fun x9 =>
  sem PP (Instr.entry (.pointer (some s15))) w2 fun v10 w11 =>
  opnT (some v10) fun x12 =>
  x12.size = 2 ∧
  opnS (x12[0]?) fun x13 =>
  opnP (x12[1]?) fun x14 =>
  C_strings_HasPrefix #[.string x13, .string s1] w11 fun v15 w16 =>
  opnB (some v15) fun x17 =>
  cond x17
  (alC #[.string x13] 9 w16 fun p18 w19 =>
  sem PP (Builtin.append_ #[100, 100] 100 #[.slice s5 s5n s5c, .slice (some p18) 1 1]) w19 fun v20 w21 =>
  opnL (some v20) fun x22 x22n x22c =>
  N_p_disk_Disk_List.j5 Q s1 x22 x22n x22c s15 w21)
  (N_p_disk_Disk_List.j5 Q s1 s5 s5n s5c s15 w16)) :
N_p_disk_Disk_List.j5 Q s1 s5 s5n s5c s15 w := Nd_fold K_p_disk_Disk_List (by kernel_rfl) h
theorem C_p_disk_Disk_List_eq (Q : Value → World → Prop) (a0 : Option Addr) (a1 : ByteArray) (w : World) (h :
  opnA a0 fun ad1 =>
  opnB (w.cell? (ad1.add 8)) fun x2 =>
  cond x2
  (Q (.slice none 0 0) w)
  (opnA a0 fun ad3 =>
  opnM (w.cell? (ad3.add 1)) fun x4 =>
  sem PP (Instr.range 116 (.map x4)) w fun v5 w6 =>
  opnP (some v5) fun x7 =>
  opnA x7 fun ad8 =>
  N_p_disk_Disk_List.j5 Q a1 none 0 0 ad8 w6)) :
C_p_disk_Disk_List #[.pointer a0, .string a1] w Q := C_fold K_p_disk_Disk_List (by kernel_rfl) h
noncomputable def B_p_cache_Cache_good : Code := match Tryz.f45.body with | some c => c | _ => .skip
noncomputable def X_p_cache_Cache_good : Cx := { P := PP, fn := 45, N := 47, tab := tab, results := [.cell 4 41, .tmp 5], iter := fun _ => (.none, .none), dyn := fun _ => false, live := fun r => cond (Nat.beq r 3) (some [4]) (none) }
theorem K_p_cache_Cache_good : OkF X_p_cache_Cache_good B_p_cache_Cache_good Tryz.f45 := ⟨⟨tab_ok, mix_ok⟩, Tryz.func45, by kernel_rfl, by kernel_rfl, by kernel_rfl, by kernel_rfl⟩
noncomputable def N_p_cache_Cache_good.j3 (Q : Value → World → Prop) (s4 : Addr) (w : World) : Prop := Nd X_p_cache_Cache_good Q [(4, 4, .pointer (some s4))] [.code (B_p_cache_Cache_good.r.r.l.r.l.l), .code (B_p_cache_Cache_good.r.r.l.r.l.r), .code (B_p_cache_Cache_good.r.r.r)] w
theorem N_p_cache_Cache_good.j3_eq (Q : Value → World → Prop) (s4 : Addr) (w : World) (h :
  Array.size (#[.int .i64 0, .int .i64 0, .int .i64 0, .int .i64 0, .bool false] : Array Value) = 5 ∧
  stC (s4.add 0) (.int .i64 0) w fun w1 =>
  stC (s4.add 1) (.int .i64 0) w1 fun w2 =>
  stC (s4.add 2) (.int .i64 0) w2 fun w3 =>
  stC (s4.add 3) (.int .i64 0) w3 fun w4 =>
  stC (s4.add 4) (.bool false) w4 fun w5 =>
  opnI .i64 (w5.cell? (s4.add 0)) fun x6 =>
  opnI .i64 (w5.cell? (s4.add 1)) fun x7 =>
  opnI .i64 (w5.cell? (s4.add 2)) fun x8 =>
  opnI .i64 (w5.cell? (s4.add 3)) fun x9 =>
  opnB (w5.cell? (s4.add 4)) fun x10 =>
  Q (.tuple #[.agg #[.int .i64 x6, .int .i64 x7, .int .i64 x8, .int .i64 x9, .bool x10], .bool false]) w5) :
N_p_cache_Cache_good.j3 Q s4 w := Nd_fold K_p_cache_Cache_good (by kernel_rfl) h
theorem C_p_cache_Cache_good_eq (Q : Value → World → Prop) (a0 : Option Addr) (a1 : ByteArray) (w : World) (h :
  alC #[.int .i64 0, .int .i64 0, .int .i64 0, .int .i64 0, .bool false] 41 w fun p1 w2 =>
  opnA a0 fun ad3 =>
  opnS (w2.cell? (ad3.add 3)) fun x4 =>
  (0 : Int) ≤ ((x4.size : Nat) : Int) ∧
  ((x4.size : Nat) : Int) ≤ ((a1.size : Nat) : Int) ∧
  C_tile_ParsePath #[.string (a1.extract (Int.toNat ((x4.size : Nat) : Int)) a1.size)] w2 fun v5 w6 =>
  opnT (some v5) fun x7 =>
  x7.size = 2 ∧
  opnG (x7[0]?) fun x8 =>
  x8.size = 5 ∧
  opnI .i64 (x8[0]?) fun x9 =>
  opnI .i64 (x8[1]?) fun x10 =>
  opnI .i64 (x8[2]?) fun x11 =>
  opnI .i64 (x8[3]?) fun x12 =>
  opnB (x8[4]?) fun x13 =>
  opnI .i64 (x7[1]?) fun x14 =>
  alC #[.int .i64 0, .int .i64 0, .int .i64 0, .int .i64 0, .bool false] 41 w6 fun p15 w16 =>
  Array.size (#[.int .i64 x9, .int .i64 x10, .int .i64 x11, .int .i64 x12, .bool x13] : Array Value) = 5 ∧
  stC (p15.add 0) (.int .i64 x9) w16 fun w17 =>
  stC (p15.add 1) (.int .i64 x10) w17 fun w18 =>
  stC (p15.add 2) (.int .i64 x11) w18 fun w19 =>
  stC (p15.add 3) (.int .i64 x12) w19 fun w20 =>
  stC (p15.add 4) (.bool x13) w20 fun w21 =>
  cond (x14 != 0)
  (N_p_cache_Cache_good.j3 Q p1 w21)
  (opnB (w21.cell? (p15.add 4)) fun x22 =>
  cond x22
  (N_p_cache_Cache_good.j3 Q p1 w21)
  (opnA a0 fun ad23 =>
  opnP (w21.cell? (ad23.add 2)) fun x24 =>
  C_p_disk_Disk_Read #[.pointer x24, .string a1] w21 fun v25 w26 =>
  opnT (some v25) fun x27 =>
  x27.size = 2 ∧
  opnL (x27[0]?) fun x28 x28n x28c =>
  opnI .i64 (x27[1]?) fun x29 =>
  drw w26 fun w30 =>
  cond (x29 == 0)
  (opnI .i64 (w30.cell? (p15.add 0)) fun x31 =>
  opnI .i64 (w30.cell? (p15.add 1)) fun x32 =>
  opnI .i64 (w30.cell? (p15.add 2)) fun x33 =>
  opnI .i64 (w30.cell? (p15.add 3)) fun x34 =>
  opnB (w30.cell? (p15.add 4)) fun x35 =>
  opnI .i64 (w30.cell? (p15.add 3)) fun x36 =>
  Array.size (#[.int .i64 x31, .int .i64 x32, .int .i64 x33, .int .i64 x34, .bool x35] : Array Value) = 5 ∧
  stC (p1.add 0) (.int .i64 x31) w30 fun w37 =>
  stC (p1.add 1) (.int .i64 x32) w37 fun w38 =>
  stC (p1.add 2) (.int .i64 x33) w38 fun w39 =>
  stC (p1.add 3) (.int .i64 x34) w39 fun w40 =>
  stC (p1.add 4) (.bool x35) w40 fun w41 =>
  (opnI .i64 (w41.cell? (p15.add 3)) fun x42 =>
  ((.int .i64 x42) : Value) = .int .i64 x36) ∧
  opnI .i64 (w41.cell? (p1.add 0)) fun x43 =>
  opnI .i64 (w41.cell? (p1.add 1)) fun x44 =>
  opnI .i64 (w41.cell? (p1.add 2)) fun x45 =>
  opnI .i64 (w41.cell? (p1.add 3)) fun x46 =>
  opnB (w41.cell? (p1.add 4)) fun x47 =>
  Q (.tuple #[.agg #[.int .i64 x43, .int .i64 x44, .int .i64 x45, .int .i64 x46, .bool x47], .bool (((x28n : Nat) : Int) == (IntKind.wrap .i64 (32 * x36)))]) w41)
  (opnI .i64 (w30.cell? (p15.add 0)) fun x48 =>
  opnI .i64 (w30.cell? (p15.add 1)) fun x49 =>
  opnI .i64 (w30.cell? (p15.add 2)) fun x50 =>
  opnI .i64 (w30.cell? (p15.add 3)) fun x51 =>
  opnB (w30.cell? (p15.add 4)) fun x52 =>
  Array.size (#[.int .i64 x48, .int .i64 x49, .int .i64 x50, .int .i64 x51, .bool x52] : Array Value) = 5 ∧
  stC (p1.add 0) (.int .i64 x48) w30 fun w53 =>
  stC (p1.add 1) (.int .i64 x49) w53 fun w54 =>
  stC (p1.add 2) (.int .i64 x50) w54 fun w55 =>
  stC (p1.add 3) (.int .i64 x51) w55 fun w56 =>
  stC (p1.add 4) (.bool x52) w56 fun w57 =>
  opnI .i64 (w57.cell? (p1.add 0)) fun x58 =>
  opnI .i64 (w57.cell? (p1.add 1)) fun x59 =>
  opnI .i64 (w57.cell? (p1.add 2)) fun x60 =>
  opnI .i64 (w57.cell? (p1.add 3)) fun x61 =>
  opnB (w57.cell? (p1.add 4)) fun x62 =>
  Q (.tuple #[.agg #[.int .i64 x58, .int .i64 x59, .int .i64 x60, .int .i64 x61, .bool x62], .bool false]) w57)))) :
C_p_cache_Cache_good #[.pointer a0, .string a1] w Q := C_fold K_p_cache_Cache_good (by kernel_rfl) h
noncomputable def B_cache_numbersOf : Code := match Tryz.f46.body with | some c => c | _ => .skip
noncomputable def X_cache_numbersOf : Cx := { P := PP, fn := 46, N := 10, tab := tab, results := [.cell 2 106], iter := fun _ => (.none, .none), dyn := fun _ => false, live := fun _ => none }
theorem K_cache_numbersOf : OkF X_cache_numbersOf B_cache_numbersOf Tryz.f46 := ⟨⟨tab_ok, mix_ok⟩, Tryz.func46, by kernel_rfl, by kernel_rfl, by kernel_rfl, by kernel_rfl⟩
theorem C_cache_numbersOf_eq (Q : Value → World → Prop) (a0_0 : Int) (a0_1 : Int) (a0_2 : Int) (a0_3 : Int) (a0_4 : Bool) (w : World) (h :
  alC #[.int .i64 a0_0, .int .i64 a0_1, .int .i64 a0_2, .int .i64 a0_3, .bool a0_4] 41 w fun p1 w2 =>
  alC #[.int .i64 0, .int .i64 0, .int .i64 0] 106 w2 fun p3 w4 =>
  opnI .i64 (w4.cell? (p1.add 0)) fun x5 =>
  opnI .i64 (w4.cell? (p1.add 1)) fun x6 =>
  opnI .i64 (w4.cell? (p1.add 2)) fun x7 =>
  Array.size (#[.int .i64 x5, .int .i64 x6, .int .i64 x7] : Array Value) = 3 ∧
  stC (p3.add 0) (.int .i64 x5) w4 fun w8 =>
  stC (p3.add 1) (.int .i64 x6) w8 fun w9 =>
  stC (p3.add 2) (.int .i64 x7) w9 fun w10 =>
  opnI .i64 (w10.cell? (p3.add 0)) fun x11 =>
  opnI .i64 (w10.cell? (p3.add 1)) fun x12 =>
  opnI .i64 (w10.cell? (p3.add 2)) fun x13 =>
  Q (.agg #[.int .i64 x11, .int .i64 x12, .int .i64 x13]) w10) :
C_cache_numbersOf #[.agg #[.int .i64 a0_0, .int .i64 a0_1, .int .i64 a0_2, .int .i64 a0_3, .bool a0_4]] w Q := C_fold K_cache_numbersOf (by kernel_rfl) h
noncomputable def B_p_cache_usage_cache_numbers_int_lay : Code := match Tryz.f47.body with | some c => c | _ => .skip
noncomputable def X_p_cache_usage_cache_numbers_int_lay : Cx := { P := PP, fn := 47, N := 34, tab := tab, results := [], iter := fun _ => (.none, .none), dyn := fun _ => false, live := fun r => cond (Nat.beq r 4) (some [0, 2, 4]) (cond (Nat.beq r 5) (some [0, 4]) (none)) }
theorem K_p_cache_usage_cache_numbers_int_lay : OkF X_p_cache_usage_cache_numbers_int_lay B_p_cache_usage_cache_numbers_int_lay Tryz.f47 := ⟨⟨tab_ok, mix_ok⟩, Tryz.func47, by kernel_rfl, by kernel_rfl, by kernel_rfl, by kernel_rfl⟩
noncomputable def N_p_cache_usage_cache_numbers_int_lay.j4 (Q : Value → World → Prop) (s0 : Option Addr) (s2 : Int) (s4 : Addr) (w : World) : Prop := Nd X_p_cache_usage_cache_numbers_int_lay Q [(0, 0, .pointer s0), (2, 2, .int .i64 s2), (4, 4, .pointer (some s4))] [.code (B_p_cache_usage_cache_numbers_int_lay.r.r.r.l), .code (B_p_cache_usage_cache_numbers_int_lay.r.r.r.r)] w
noncomputable def N_p_cache_usage_cache_numbers_int_lay.j5 (Q : Value → World → Prop) (s0 : Option Addr) (s4 : Addr) (w : World) : Prop := Nd X_p_cache_usage_cache_numbers_int_lay Q [(0, 0, .pointer s0), (4, 4, .pointer (some s4))] [.code (B_p_cache_usage_cache_numbers_int_lay.r.r.r.r)] w
theorem N_p_cache_usage_cache_numbers_int_lay.j4_eq (Q : Value → World → Prop) (s0 : Option Addr) (s2 : Int) (s4 : Addr) (w : World) (h :
  drw w fun w1 =>
  opnA s0 fun ad2 =>
  opnM (w1.cell? (ad2.add 1)) fun x3 =>
  opnI .i64 (w1.cell? (s4.add 0)) fun x4 =>
  opnI .i64 (w1.cell? (s4.add 1)) fun x5 =>
  opnI .i64 (w1.cell? (s4.add 2)) fun x6 =>
  semU PP (Instr.mapUpdate 93 (.map x3) (.agg #[.int .i64 x4, .int .i64 x5, .int .i64 x6]) (.int .i64 s2)) w1 fun w7 =>
  N_p_cache_usage_cache_numbers_int_lay.j5 Q s0 s4 w7) :
N_p_cache_usage_cache_numbers_int_lay.j4 Q s0 s2 s4 w := Nd_fold K_p_cache_usage_cache_numbers_int_lay (by kernel_rfl) h
theorem N_p_cache_usage_cache_numbers_int_lay.j5_eq (Q : Value → World → Prop) (s0 : Option Addr) (s4 : Addr) (w : World) (h :
  drw w fun w1 =>
  opnA s0 fun ad2 =>
  opnL (w1.cell? (ad2.add 0)) fun x3 x3n x3c =>
  opnI .i64 (w1.cell? (s4.add 0)) fun x4 =>
  opnI .i64 (w1.cell? (s4.add 1)) fun x5 =>
  opnI .i64 (w1.cell? (s4.add 2)) fun x6 =>
  alC #[.int .i64 x4, .int .i64 x5, .int .i64 x6] 106 w1 fun p7 w8 =>
  (opnL (w8.cell? (ad2.add 0)) fun x9 x9n x9c =>
  ((.slice x9 x9n x9c) : Value) = .slice x3 x3n x3c) ∧
  sem PP (Builtin.append_ #[92, 92] 92 #[.slice x3 x3n x3c, .slice (some p7) 1 1]) w8 fun v10 w11 =>
  opnL (some v10) fun x12 x12n x12c =>
  opnA s0 fun ad13 =>
  stC (ad13.add 0) (.slice x12 x12n x12c) w11 fun w14 =>
  Q (.tuple #[]) w14) :
N_p_cache_usage_cache_numbers_int_lay.j5 Q s0 s4 w := Nd_fold K_p_cache_usage_cache_numbers_int_lay (by kernel_rfl) h
theorem C_p_cache_usage_cache_numbers_int_lay_eq (Q : Value → World → Prop) (a0 : Option Addr) (a1_0 : Int) (a1_1 : Int) (a1_2 : Int) (a2 : Int) (w : World) (h :
  alC #[.int .i64 a1_0, .int .i64 a1_1, .int .i64 a1_2] 106 w fun p1 w2 =>
  opnI .i64 (w2.cell? (p1.add 0)) fun x3 =>
  opnI .i64 (w2.cell? (p1.add 1)) fun x4 =>
  opnI .i64 (w2.cell? (p1.add 2)) fun x5 =>
  C_p_cache_usage_cache_numbers_int_forget #[.pointer a0, .agg #[.int .i64 x3, .int .i64 x4, .int .i64 x5]] w2 fun v6 w7 =>
  opnT (some v6) fun x8 =>
  x8.size = 0 ∧
  opnA a0 fun ad9 =>
  opnM (w7.cell? (ad9.add 1)) fun x10 =>
  cond x10.isNone
  (alM w7 fun r11 w12 =>
  opnA a0 fun ad13 =>
  stC (ad13.add 1) (.map (some r11)) w12 fun w14 =>
  N_p_cache_usage_cache_numbers_int_lay.j4 Q a0 a2 p1 w14)
  (N_p_cache_usage_cache_numbers_int_lay.j4 Q a0 a2 p1 w7)) :
C_p_cache_usage_cache_numbers_int_lay #[.pointer a0, .agg #[.int .i64 a1_0, .int .i64 a1_1, .int .i64 a1_2], .int .i64 a2] w Q := C_fold K_p_cache_usage_cache_numbers_int_lay (by kernel_rfl) h
noncomputable def B_p_cache_Cache_remove : Code := match Tryz.f48.body with | some c => c | _ => .skip
noncomputable def X_p_cache_Cache_remove : Cx := { P := PP, fn := 48, N := 15, tab := tab, results := [.tmp 4], iter := fun _ => (.none, .none), dyn := fun _ => false, live := fun _ => none }
theorem K_p_cache_Cache_remove : OkF X_p_cache_Cache_remove B_p_cache_Cache_remove Tryz.f48 := ⟨⟨tab_ok, mix_ok⟩, Tryz.func48, by kernel_rfl, by kernel_rfl, by kernel_rfl, by kernel_rfl⟩
theorem C_p_cache_Cache_remove_eq (Q : Value → World → Prop) (a0 : Option Addr) (a1 : ByteArray) (w : World) (h :
  opnA a0 fun ad1 =>
  opnP (w.cell? (ad1.add 2)) fun x2 =>
  C_p_disk_Disk_Remove #[.pointer x2, .string a1] w fun v3 w4 =>
  opnI .i64 (some v3) fun x5 =>
  cond (x5 != 121)
  (Q (.int .i64 x5) w4)
  (Q (.int .i64 0) w4)) :
C_p_cache_Cache_remove #[.pointer a0, .string a1] w Q := C_fold K_p_cache_Cache_remove (by kernel_rfl) h
noncomputable def B_p_disk_Disk_SyncNames : Code := match Tryz.f49.body with | some c => c | _ => .skip
noncomputable def X_p_disk_Disk_SyncNames : Cx := { P := PP, fn := 49, N := 6, tab := tab, results := [.tmp 2], iter := fun _ => (.none, .none), dyn := fun _ => false, live := fun _ => none }
theorem K_p_disk_Disk_SyncNames : OkF X_p_disk_Disk_SyncNames B_p_disk_Disk_SyncNames Tryz.f49 := ⟨⟨tab_ok, mix_ok⟩, Tryz.func49, by kernel_rfl, by kernel_rfl, by kernel_rfl, by kernel_rfl⟩
theorem C_p_disk_Disk_SyncNames_eq (Q : Value → World → Prop) (a0 : Option Addr) (w : World) (h :
  alC #[.pointer a0] 27 w fun p1 w2 =>
  opnP (w2.cell? p1) fun x3 =>
  C_p_disk_Disk_act #[.pointer x3, .func (.func 96) #[] #[], .func (.func 97) #[] #[.pointer (some p1)]] w2 fun v4 w5 =>
  opnI .i64 (some v4) fun x6 =>
  Q (.int .i64 x6) w5) :
C_p_disk_Disk_SyncNames #[.pointer a0] w Q := C_fold K_p_disk_Disk_SyncNames (by kernel_rfl) h
noncomputable def B_bytes_Clone : Code := match Tryz.f50.body with | some c => c | _ => .skip
noncomputable def X_bytes_Clone : Cx := { P := PP, fn := 50, N := 8, tab := tab, results := [.tmp 2], iter := fun _ => (.none, .none), dyn := fun _ => false, live := fun _ => none }
theorem K_bytes_Clone : OkF X_bytes_Clone B_bytes_Clone Tryz.f50 := ⟨⟨tab_ok, mix_ok⟩, Tryz.func50, by kernel_rfl, by kernel_rfl, by kernel_rfl, by kernel_rfl⟩
theorem C_bytes_Clone_eq (Q : Value → World → Prop) (a0 : Option Addr) (a0n : Nat) (a0c : Nat) (w : World) (h :
  cond a0.isNone
  (Q (.slice none 0 0) w)
  (alC #[] 5 w fun p1 w2 =>
  sem PP (Builtin.append_ #[24, 24] 24 #[.slice (some p1) 0 0, .slice a0 a0n a0c]) w2 fun v3 w4 =>
  opnL (some v3) fun x5 x5n x5c =>
  Q (.slice x5 x5n x5c) w4)) :
C_bytes_Clone #[.slice a0 a0n a0c] w Q := C_fold K_bytes_Clone (by kernel_rfl) h
noncomputable def B_slices_Clone_byte_byte : Code := match Tryz.f51.body with | some c => c | _ => .skip
noncomputable def X_slices_Clone_byte_byte : Cx := { P := PP, fn := 51, N := 8, tab := tab, results := [.tmp 2], iter := fun _ => (.none, .none), dyn := fun _ => false, live := fun _ => none }
theorem K_slices_Clone_byte_byte : OkF X_slices_Clone_byte_byte B_slices_Clone_byte_byte Tryz.f51 := ⟨⟨tab_ok, mix_ok⟩, Tryz.func51, by kernel_rfl, by kernel_rfl, by kernel_rfl, by kernel_rfl⟩
theorem C_slices_Clone_byte_byte_eq (Q : Value → World → Prop) (a0 : Option Addr) (a0n : Nat) (a0c : Nat) (w : World) (h :
  cond a0.isNone
  (Q (.slice none 0 0) w)
  (alC #[] 5 w fun p1 w2 =>
  sem PP (Builtin.append_ #[24, 24] 24 #[.slice (some p1) 0 0, .slice a0 a0n a0c]) w2 fun v3 w4 =>
  opnL (some v3) fun x5 x5n x5c =>
  Q (.slice x5 x5n x5c) w4)) :
C_slices_Clone_byte_byte #[.slice a0 a0n a0c] w Q := C_fold K_slices_Clone_byte_byte (by kernel_rfl) h
noncomputable def B_disk_named : Code := match Tryz.f52.body with | some c => c | _ => .skip
noncomputable def X_disk_named : Cx := { P := PP, fn := 52, N := 48, tab := tab, results := [.tmp 2], iter := fun _ => (.none, .none), dyn := fun _ => false, live := fun r => cond (Nat.beq r 2) (some []) (cond (Nat.beq r 4) (some [0, 15, 16]) (cond (Nat.beq r 7) (some []) (cond (Nat.beq r 10) (some [31, 32, 33]) (cond (Nat.beq r 13) (some []) (none))))) }
theorem K_disk_named : OkF X_disk_named B_disk_named Tryz.f52 := ⟨⟨tab_ok, mix_ok⟩, Tryz.func52, by kernel_rfl, by kernel_rfl, by kernel_rfl, by kernel_rfl⟩
noncomputable def N_disk_named.j2 (Q : Value → World → Prop) (w : World) : Prop := Nd X_disk_named Q [] [.code (B_disk_named.r.l.r.l.l), .code (B_disk_named.r.l.r.l.r), .code (B_disk_named.r.r)] w
noncomputable def N_disk_named.j4 (Q : Value → World → Prop) (s0 : ByteArray) (s15 : Int) (s16 : Int) (w : World) : Prop := Nd X_disk_named Q [(0, 0, .string s0), (15, 15, .int .i64 s15), (16, 16, .int .i64 s16)] [.code (B_disk_named.r.r.l.r.l.l.l), .code (B_disk_named.r.r.l.r.l.l.r), .inLoop (B_disk_named.r.r.l.r.l.l), .inBlock 0, .code (B_disk_named.r.r.r)] w
noncomputable def N_disk_named.j7 (Q : Value → World → Prop) (w : World) : Prop := Nd X_disk_named Q [] [.code (B_disk_named.r.r.l.r.l.l.r.r.l.l.r.r.l.l), .code (B_disk_named.r.r.l.r.l.l.r.r.l.l.r.r.l.r), .inBlock 1, .code (B_disk_named.r.r.l.r.l.l.r.r.r), .inLoop (B_disk_named.r.r.l.r.l.l), .inBlock 0, .code (B_disk_named.r.r.r)] w
noncomputable def N_disk_named.j10 (Q : Value → World → Prop) (s31 : Option Addr) (s31n : Nat) (s31c : Nat) (s32 : Int) (s33 : Int) (w : World) : Prop := Nd X_disk_named Q [(31, 31, .slice s31 s31n s31c), (32, 32, .int .i64 s32), (33, 33, .int .i64 s33)] [.code (B_disk_named.r.r.r.l.r.l.l.l), .code (B_disk_named.r.r.r.l.r.l.l.r), .inLoop (B_disk_named.r.r.r.l.r.l.l), .inBlock 2, .code (B_disk_named.r.r.r.r)] w
noncomputable def N_disk_named.j13 (Q : Value → World → Prop) (w : World) : Prop := Nd X_disk_named Q [] [.code (B_disk_named.r.r.r.l.r.l.l.r.r.l.l.r.r.l.l), .code (B_disk_named.r.r.r.l.r.l.l.r.r.l.l.r.r.l.r), .inBlock 3, .code (B_disk_named.r.r.r.l.r.l.l.r.r.r), .inLoop (B_disk_named.r.r.r.l.r.l.l), .inBlock 2, .code (B_disk_named.r.r.r.r)] w
theorem N_disk_named.j2_eq (Q : Value → World → Prop) (w : World) (h :
  Q (.bool false) w) :
N_disk_named.j2 Q w := Nd_fold K_disk_named (by kernel_rfl) h
theorem N_disk_named.j4_eq (Q : Value → World → Prop) (s0 : ByteArray) (s15 : Int) (s16 : Int) (w : World) (h :
  cond (decide (s16 < s15))
  ((0 : Int) ≤ s16 ∧
  s16 < ((s0.size : Nat) : Int) ∧
  cond (decide ((bt s0 (Int.toNat s16)) < 33))
  (N_disk_named.j7 Q w)
  ((0 : Int) ≤ s16 ∧
  s16 < ((s0.size : Nat) : Int) ∧
  cond (decide ((bt s0 (Int.toNat s16)) > 126))
  (N_disk_named.j7 Q w)
  (N_disk_named.j4 Q s0 s15 (IntKind.wrap .i64 (s16 + 1)) w)))
  (C_strings_Split #[.string s0, .string (⟨#[47]⟩ : ByteArray)] w fun v1 w2 =>
  opnL (some v1) fun x3 x3n x3c =>
  N_disk_named.j10 Q x3 x3n x3c ((x3n : Nat) : Int) 0 w2)) :
N_disk_named.j4 Q s0 s15 s16 w := Nd_fold K_disk_named (by kernel_rfl) h
theorem N_disk_named.j7_eq (Q : Value → World → Prop) (w : World) (h :
  Q (.bool false) w) :
N_disk_named.j7 Q w := Nd_fold K_disk_named (by kernel_rfl) h
theorem N_disk_named.j10_eq (Q : Value → World → Prop) (s31 : Option Addr) (s31n : Nat) (s31c : Nat) (s32 : Int) (s33 : Int) (w : World) (h :
  cond (decide (s33 < s32))
  ((0 : Int) ≤ s33 ∧
  s33 < ((s31n : Nat) : Int) ∧
  opnA s31 fun ad1 =>
  opnS (w.cell? (ad1.add (Int.toNat s33 * 1))) fun x2 =>
  cond (x2.toList == (⟨#[]⟩ : ByteArray).toList)
  (N_disk_named.j13 Q w)
  (cond (x2.toList == (⟨#[46]⟩ : ByteArray).toList)
  (N_disk_named.j13 Q w)
  (cond (x2.toList == (⟨#[46, 46]⟩ : ByteArray).toList)
  (N_disk_named.j13 Q w)
  (N_disk_named.j10 Q s31 s31n s31c s32 (IntKind.wrap .i64 (s33 + 1)) w))))
  (Q (.bool true) w)) :
N_disk_named.j10 Q s31 s31n s31c s32 s33 w := Nd_fold K_disk_named (by kernel_rfl) h
theorem N_disk_named.j13_eq (Q : Value → World → Prop) (w : World) (h :
  Q (.bool false) w) :
N_disk_named.j13 Q w := Nd_fold K_disk_named (by kernel_rfl) h
theorem C_disk_named_eq (Q : Value → World → Prop) (a0 : ByteArray) (w : World) (h :
  cond (decide (((a0.size : Nat) : Int) < 1))
  (N_disk_named.j2 Q w)
  (cond (decide (((a0.size : Nat) : Int) > 255))
  (N_disk_named.j2 Q w)
  (N_disk_named.j4 Q a0 ((a0.size : Nat) : Int) 0 w))) :
C_disk_named #[.string a0] w Q := C_fold K_disk_named (by kernel_rfl) h
noncomputable def B_p_disk_Disk_Used : Code := match Tryz.f53.body with | some c => c | _ => .skip
noncomputable def X_p_disk_Disk_Used : Cx := { P := PP, fn := 53, N := 27, tab := tab, results := [.tmp 2], iter := fun r => cond (Nat.beq r 14) (.one .str, .one .ptr) ((.none, .none)), dyn := fun _ => false, live := fun r => cond (Nat.beq r 5) (some [3, 14]) (none) }
theorem K_p_disk_Disk_Used : OkF X_p_disk_Disk_Used B_p_disk_Disk_Used Tryz.f53 := ⟨⟨tab_ok, mix_ok⟩, Tryz.func53, by kernel_rfl, by kernel_rfl, by kernel_rfl, by kernel_rfl⟩
noncomputable def N_p_disk_Disk_Used.j5 (Q : Value → World → Prop) (s3 : Int) (s14 : Addr) (w : World) : Prop := Nd X_p_disk_Disk_Used Q [(3, 3, .int .i64 s3), (14, 14, .pointer (some s14))] [.code (B_p_disk_Disk_Used.r.r.r.l.r.l.l.l), .code (B_p_disk_Disk_Used.r.r.r.l.r.l.l.r), .inLoop (B_p_disk_Disk_Used.r.r.r.l.r.l.l), .inBlock 0, .code (B_p_disk_Disk_Used.r.r.r.r)] w
theorem N_p_disk_Disk_Used.j5_eq (Q : Value → World → Prop) (s3 : Int) (s14 : Addr) (w : World) (h :
  sem PP (Instr.next (.pointer (some s14)) false 0) w fun v1 w2 =>
  opnN v1
  (Q (.int .i64 s3) w2)
  fun k3 x4 =>
  opnS (some k3) fun x5 =>
  opnP (some x4) fun x6 =>
  sem PP (Instr.entry (.pointer (some s14))) w2 fun v7 w8 =>
  opnT (some v7) fun x9 =>
  x9.size = 2 ∧
  opnS (x9[0]?) fun x10 =>
  opnP (x9[1]?) fun x11 =>
  opnA x11 fun ad12 =>
  opnL (w8.cell? (ad12.add 0)) fun x13 x13n x13c =>
  N_p_disk_Disk_Used.j5 Q (IntKind.wrap .i64 (s3 + ((x13n : Nat) : Int))) s14 w8) :
N_p_disk_Disk_Used.j5 Q s3 s14 w := Nd_fold K_p_disk_Disk_Used (by kernel_rfl) h
theorem C_p_disk_Disk_Used_eq (Q : Value → World → Prop) (a0 : Option Addr) (w : World) (h :
  opnA a0 fun ad1 =>
  opnB (w.cell? (ad1.add 8)) fun x2 =>
  cond x2
  (Q (.int .i64 0) w)
  (opnA a0 fun ad3 =>
  opnM (w.cell? (ad3.add 1)) fun x4 =>
  sem PP (Instr.range 116 (.map x4)) w fun v5 w6 =>
  opnP (some v5) fun x7 =>
  opnA x7 fun ad8 =>
  N_p_disk_Disk_Used.j5 Q 0 ad8 w6)) :
C_p_disk_Disk_Used #[.pointer a0] w Q := C_fold K_p_disk_Disk_Used (by kernel_rfl) h
noncomputable def B_tile_guess : Code := match Tryz.f55.body with | some c => c | _ => .skip
noncomputable def X_tile_guess : Cx := { P := PP, fn := 55, N := 79, tab := tab, results := [.cell 2 41], iter := fun _ => (.none, .none), dyn := fun _ => false, live := fun r => cond (Nat.beq r 14) (some [2, 4, 5]) (cond (Nat.beq r 15) (some [2, 4, 7]) (cond (Nat.beq r 16) (some [2, 4]) (none))) }
theorem K_tile_guess : OkF X_tile_guess B_tile_guess Tryz.f55 := ⟨⟨tab_ok, mix_ok⟩, Tryz.func55, by kernel_rfl, by kernel_rfl, by kernel_rfl, by kernel_rfl⟩
noncomputable def N_tile_guess.j14 (Q : Value → World → Prop) (s2 : Addr) (s4 : Addr) (s5 : Option Addr) (s5n : Nat) (s5c : Nat) (w : World) : Prop := Nd X_tile_guess Q [(2, 2, .pointer (some s2)), (4, 4, .pointer (some s4)), (5, 5, .slice s5 s5n s5c)] [.code (B_tile_guess.r.r.r.r.r.r.r.r.r.r.l), .code (B_tile_guess.r.r.r.r.r.r.r.r.r.r.r)] w
noncomputable def N_tile_guess.j15 (Q : Value → World → Prop) (s2 : Addr) (s4 : Addr) (s7 : ByteArray) (w : World) : Prop := Nd X_tile_guess Q [(2, 2, .pointer (some s2)), (4, 4, .pointer (some s4)), (7, 7, .string s7)] [.code (B_tile_guess.r.r.r.r.r.r.r.r.r.r.r.l), .code (B_tile_guess.r.r.r.r.r.r.r.r.r.r.r.r)] w
noncomputable def N_tile_guess.j16 (Q : Value → World → Prop) (s2 : Addr) (s4 : Addr) (w : World) : Prop := Nd X_tile_guess Q [(2, 2, .pointer (some s2)), (4, 4, .pointer (some s4))] [.code (B_tile_guess.r.r.r.r.r.r.r.r.r.r.r.r.l), .code (B_tile_guess.r.r.r.r.r.r.r.r.r.r.r.r.r)] w
theorem N_tile_guess.j14_eq (Q : Value → World → Prop) (s2 : Addr) (s4 : Addr) (s5 : Option Addr) (s5n : Nat) (s5c : Nat) (w : World) (h :
  C_strings_Join #[.slice s5 s5n s5c, .string (⟨#[]⟩ : ByteArray)] w fun v1 w2 =>
  opnS (some v1) fun x3 =>
  C_strings_ReplaceAll #[.string x3, .string (⟨#[120]⟩ : ByteArray), .string (⟨#[]⟩ : ByteArray)] w2 fun v4 w5 =>
  opnS (some v4) fun x6 =>
  C_strings_TrimSuffix #[.string x6, .string (⟨#[46, 112]⟩ : ByteArray)] w5 fun v7 w8 =>
  opnS (some v7) fun x9 =>
  N_tile_guess.j15 Q s2 s4 x9 w8) :
N_tile_guess.j14 Q s2 s4 s5 s5n s5c w := Nd_fold K_tile_guess (by kernel_rfl) h
theorem N_tile_guess.j15_eq (Q : Value → World → Prop) (s2 : Addr) (s4 : Addr) (s7 : ByteArray) (w : World) (h :
  C_strconv_ParseInt #[.string s7, .int .i64 10, .int .i64 64] w fun v1 w2 =>
  opnT (some v1) fun x3 =>
  x3.size = 2 ∧
  opnI .i64 (x3[0]?) fun x4 =>
  opnV (x3[1]?) fun x5 =>
  stC (s4.add 2) (.int .i64 x4) w2 fun w6 =>
  N_tile_guess.j16 Q s2 s4 w6) :
N_tile_guess.j15 Q s2 s4 s7 w := Nd_fold K_tile_guess (by kernel_rfl) h
theorem N_tile_guess.j16_eq (Q : Value → World → Prop) (s2 : Addr) (s4 : Addr) (w : World) (h :
  opnI .i64 (w.cell? (s4.add 0)) fun x1 =>
  opnI .i64 (w.cell? (s4.add 1)) fun x2 =>
  opnI .i64 (w.cell? (s4.add 2)) fun x3 =>
  opnI .i64 (w.cell? (s4.add 3)) fun x4 =>
  opnB (w.cell? (s4.add 4)) fun x5 =>
  Array.size (#[.int .i64 x1, .int .i64 x2, .int .i64 x3, .int .i64 x4, .bool x5] : Array Value) = 5 ∧
  stC (s2.add 0) (.int .i64 x1) w fun w6 =>
  stC (s2.add 1) (.int .i64 x2) w6 fun w7 =>
  stC (s2.add 2) (.int .i64 x3) w7 fun w8 =>
  stC (s2.add 3) (.int .i64 x4) w8 fun w9 =>
  stC (s2.add 4) (.bool x5) w9 fun w10 =>
  opnI .i64 (w10.cell? (s2.add 0)) fun x11 =>
  opnI .i64 (w10.cell? (s2.add 1)) fun x12 =>
  opnI .i64 (w10.cell? (s2.add 2)) fun x13 =>
  opnI .i64 (w10.cell? (s2.add 3)) fun x14 =>
  opnB (w10.cell? (s2.add 4)) fun x15 =>
  Q (.agg #[.int .i64 x11, .int .i64 x12, .int .i64 x13, .int .i64 x14, .bool x15]) w10) :
N_tile_guess.j16 Q s2 s4 w := Nd_fold K_tile_guess (by kernel_rfl) h
theorem C_tile_guess_eq (Q : Value → World → Prop) (a0 : ByteArray) (w : World) (h :
  alC #[.int .i64 0, .int .i64 0, .int .i64 0, .int .i64 0, .bool false] 41 w fun p1 w2 =>
  C_strings_Split #[.string a0, .string (⟨#[47]⟩ : ByteArray)] w2 fun v3 w4 =>
  opnL (some v3) fun x5 x5n x5c =>
  cond (decide (((x5n : Nat) : Int) < 4))
  (Array.size (#[.int .i64 0, .int .i64 0, .int .i64 0, .int .i64 0, .bool false] : Array Value) = 5 ∧
  stC (p1.add 0) (.int .i64 0) w4 fun w6 =>
  stC (p1.add 1) (.int .i64 0) w6 fun w7 =>
  stC (p1.add 2) (.int .i64 0) w7 fun w8 =>
  stC (p1.add 3) (.int .i64 0) w8 fun w9 =>
  stC (p1.add 4) (.bool false) w9 fun w10 =>
  opnI .i64 (w10.cell? (p1.add 0)) fun x11 =>
  opnI .i64 (w10.cell? (p1.add 1)) fun x12 =>
  opnI .i64 (w10.cell? (p1.add 2)) fun x13 =>
  opnI .i64 (w10.cell? (p1.add 3)) fun x14 =>
  opnB (w10.cell? (p1.add 4)) fun x15 =>
  Q (.agg #[.int .i64 x11, .int .i64 x12, .int .i64 x13, .int .i64 x14, .bool x15]) w10)
  (alC #[.int .i64 0, .int .i64 0, .int .i64 0, .int .i64 0, .bool false] 41 w4 fun p16 w17 =>
  (0 : Int) ≤ 1 ∧
  1 < ((x5n : Nat) : Int) ∧
  opnA x5 fun ad18 =>
  opnS (w17.cell? (ad18.add (Int.toNat 1 * 1))) fun x19 =>
  C_strconv_Atoi #[.string x19] w17 fun v20 w21 =>
  opnT (some v20) fun x22 =>
  x22.size = 2 ∧
  opnI .i64 (x22[0]?) fun x23 =>
  opnV (x22[1]?) fun x24 =>
  stC (p16.add 0) (.int .i64 x23) w21 fun w25 =>
  (0 : Int) ≤ 2 ∧
  2 < ((x5n : Nat) : Int) ∧
  opnA x5 fun ad26 =>
  opnS (w25.cell? (ad26.add (Int.toNat 2 * 1))) fun x27 =>
  stC (p16.add 4) (.bool (x27.toList == (⟨#[100, 97, 116, 97]⟩ : ByteArray).toList)) w25 fun w28 =>
  (0 : Int) ≤ 2 ∧
  2 < ((x5n : Nat) : Int) ∧
  opnA x5 fun ad29 =>
  opnS (w28.cell? (ad29.add (Int.toNat 2 * 1))) fun x30 =>
  C_strconv_Atoi #[.string x30] w28 fun v31 w32 =>
  opnT (some v31) fun x33 =>
  x33.size = 2 ∧
  opnI .i64 (x33[0]?) fun x34 =>
  opnV (x33[1]?) fun x35 =>
  stC (p16.add 1) (.int .i64 x34) w32 fun w36 =>
  (0 : Int) ≤ 3 ∧
  3 ≤ ((x5n : Nat) : Int) ∧
  opnI .i64 (w36.cell? (p16.add 0)) fun x37 =>
  C_tile_full #[.int .i64 (bits .and .i64 x37 15)] w36 fun v38 w39 =>
  opnI .i64 (some v38) fun x40 =>
  stC (p16.add 3) (.int .i64 x40) w39 fun w41 =>
  cond (decide (((x5n - (Int.toNat 3) : Nat) : Int) > 1))
  ((0 : Int) ≤ IntKind.wrap .i64 (((x5n - (Int.toNat 3) : Nat) : Int) - 2) ∧
  (IntKind.wrap .i64 (((x5n - (Int.toNat 3) : Nat) : Int) - 2)) < (((x5n - (Int.toNat 3)) : Nat) : Int) ∧
  opnA (slA x5 (Int.toNat 3) x5c 1) fun ad42 =>
  opnS (w41.cell? (ad42.add (Int.toNat (IntKind.wrap .i64 (((x5n - (Int.toNat 3) : Nat) : Int) - 2)) * 1))) fun x43 =>
  C_strings_HasSuffix #[.string x43, .string (⟨#[46, 112]⟩ : ByteArray)] w41 fun v44 w45 =>
  opnB (some v44) fun x46 =>
  cond x46
  ((0 : Int) ≤ IntKind.wrap .i64 (((x5n - (Int.toNat 3) : Nat) : Int) - 1) ∧
  (IntKind.wrap .i64 (((x5n - (Int.toNat 3) : Nat) : Int) - 1)) < (((x5n - (Int.toNat 3)) : Nat) : Int) ∧
  opnA (slA x5 (Int.toNat 3) x5c 1) fun ad47 =>
  opnS (w45.cell? (ad47.add (Int.toNat (IntKind.wrap .i64 (((x5n - (Int.toNat 3) : Nat) : Int) - 1)) * 1))) fun x48 =>
  C_strconv_Atoi #[.string x48] w45 fun v49 w50 =>
  opnT (some v49) fun x51 =>
  x51.size = 2 ∧
  opnI .i64 (x51[0]?) fun x52 =>
  opnV (x51[1]?) fun x53 =>
  stC (p16.add 3) (.int .i64 x52) w50 fun w54 =>
  (0 : Int) ≤ (IntKind.wrap .i64 (((x5n - (Int.toNat 3) : Nat) : Int) - 1)) ∧
  (IntKind.wrap .i64 (((x5n - (Int.toNat 3) : Nat) : Int) - 1)) ≤ (((x5c - (Int.toNat 3)) : Nat) : Int) ∧
  N_tile_guess.j14 Q p1 p16 (slA (slA x5 (Int.toNat 3) x5c 1) 0 (x5c - (Int.toNat 3)) 1) ((Int.toNat (IntKind.wrap .i64 (((x5n - (Int.toNat 3) : Nat) : Int) - 1))) - 0) ((x5c - (Int.toNat 3)) - 0) w54)
  (N_tile_guess.j14 Q p1 p16 (slA x5 (Int.toNat 3) x5c 1) (x5n - (Int.toNat 3)) (x5c - (Int.toNat 3)) w45))
  (N_tile_guess.j14 Q p1 p16 (slA x5 (Int.toNat 3) x5c 1) (x5n - (Int.toNat 3)) (x5c - (Int.toNat 3)) w41))) :
C_tile_guess #[.string a0] w Q := C_fold K_tile_guess (by kernel_rfl) h
noncomputable def B_tile_Path : Code := match Tryz.f56.body with | some c => c | _ => .skip
noncomputable def X_tile_Path : Cx := { P := PP, fn := 56, N := 55, tab := tab, results := [.tmp 2, .tmp 3], iter := fun _ => (.none, .none), dyn := fun _ => false, live := fun r => cond (Nat.beq r 8) (some [1, 4]) (cond (Nat.beq r 9) (some [1, 4, 5]) (cond (Nat.beq r 11) (some [1, 4, 5]) (cond (Nat.beq r 17) (some [4]) (none)))) }
theorem K_tile_Path : OkF X_tile_Path B_tile_Path Tryz.f56 := ⟨⟨tab_ok, mix_ok⟩, Tryz.func56, by kernel_rfl, by kernel_rfl, by kernel_rfl, by kernel_rfl⟩
noncomputable def N_tile_Path.j8 (Q : Value → World → Prop) (s1 : Addr) (s4 : Addr) (w : World) : Prop := Nd X_tile_Path Q [(1, 1, .pointer (some s1)), (4, 4, .pointer (some s4))] [.code (B_tile_Path.r.r.r.r.r.l), .code (B_tile_Path.r.r.r.r.r.r)] w
noncomputable def N_tile_Path.j9 (Q : Value → World → Prop) (s1 : Addr) (s4 : Addr) (s5 : ByteArray) (w : World) : Prop := Nd X_tile_Path Q [(1, 1, .pointer (some s1)), (4, 4, .pointer (some s4)), (5, 5, .string s5)] [.code (B_tile_Path.r.r.r.r.r.r.l.l.l.l.l), .code (B_tile_Path.r.r.r.r.r.r.l.l.l.l.r), .code (B_tile_Path.r.r.r.r.r.r.l.l.l.r), .inLoop (B_tile_Path.r.r.r.r.r.r.l.l.l), .inBlock 0, .code (B_tile_Path.r.r.r.r.r.r.r)] w
noncomputable def N_tile_Path.j11 (Q : Value → World → Prop) (s1 : Addr) (s4 : Addr) (s5 : ByteArray) (w : World) : Prop := Nd X_tile_Path Q [(1, 1, .pointer (some s1)), (4, 4, .pointer (some s4)), (5, 5, .string s5)] [.code (B_tile_Path.r.r.r.r.r.r.r.l.l.l.l.l), .code (B_tile_Path.r.r.r.r.r.r.r.l.l.l.l.r), .code (B_tile_Path.r.r.r.r.r.r.r.l.l.l.r), .inLoop (B_tile_Path.r.r.r.r.r.r.r.l.l.l), .inBlock 2, .code (B_tile_Path.r.r.r.r.r.r.r.r)] w
noncomputable def N_tile_Path.j17 (Q : Value → World → Prop) (s4 : Addr) (w : World) : Prop := Nd X_tile_Path Q [(4, 4, .pointer (some s4))] [.code (B_tile_Path.r.r.r.r.r.r.r.r.r.r.l), .code (B_tile_Path.r.r.r.r.r.r.r.r.r.r.r)] w
theorem N_tile_Path.j8_eq (Q : Value → World → Prop) (s1 : Addr) (s4 : Addr) (w : World) (h :
  opnI .i64 (w.cell? (s1.add 2)) fun x1 =>
  C_strconv_FormatInt #[.int .i64 x1, .int .i64 10] w fun v2 w3 =>
  opnS (some v2) fun x4 =>
  N_tile_Path.j9 Q s1 s4 x4 w3) :
N_tile_Path.j8 Q s1 s4 w := Nd_fold K_tile_Path (by kernel_rfl) h
theorem N_tile_Path.j9_eq (Q : Value → World → Prop) (s1 : Addr) (s4 : Addr) (s5 : ByteArray) (w : World) (h :
  3 ≠ (0 : Int) ∧
  cond ((Int.tmod ((s5.size : Nat) : Int) 3) != 0)
  ((⟨#[48]⟩ : ByteArray).size + s5.size ≤ 9223372036854775807 ∧
  N_tile_Path.j9 Q s1 s4 ((⟨#[48]⟩ : ByteArray) ++ s5) w)
  (N_tile_Path.j11 Q s1 s4 s5 w)) :
N_tile_Path.j9 Q s1 s4 s5 w := Nd_fold K_tile_Path (by kernel_rfl) h
theorem N_tile_Path.j11_eq (Q : Value → World → Prop) (s1 : Addr) (s4 : Addr) (s5 : ByteArray) (w : World) (h :
  cond (decide (((s5.size : Nat) : Int) > 3))
  ((0 : Int) ≤ 3 ∧
  3 ≤ ((s5.size : Nat) : Int) ∧
  (⟨#[47, 120]⟩ : ByteArray).size + (s5.extract 0 (Int.toNat 3)).size ≤ 9223372036854775807 ∧
  C_p_strings_Builder_WriteString #[.pointer (some s4), .string ((⟨#[47, 120]⟩ : ByteArray) ++ (s5.extract 0 (Int.toNat 3)))] w fun v1 w2 =>
  opnT (some v1) fun x3 =>
  x3.size = 2 ∧
  opnI .i64 (x3[0]?) fun x4 =>
  opnV (x3[1]?) fun x5 =>
  (0 : Int) ≤ 3 ∧
  3 ≤ ((s5.size : Nat) : Int) ∧
  N_tile_Path.j11 Q s1 s4 (s5.extract (Int.toNat 3) s5.size) w2)
  ((⟨#[47]⟩ : ByteArray).size + s5.size ≤ 9223372036854775807 ∧
  C_p_strings_Builder_WriteString #[.pointer (some s4), .string ((⟨#[47]⟩ : ByteArray) ++ s5)] w fun v6 w7 =>
  opnT (some v6) fun x8 =>
  x8.size = 2 ∧
  opnI .i64 (x8[0]?) fun x9 =>
  opnV (x8[1]?) fun x10 =>
  drw w7 fun w11 =>
  opnI .i64 (w11.cell? (s1.add 3)) fun x12 =>
  opnI .i64 (w11.cell? (s1.add 0)) fun x13 =>
  C_tile_full #[.int .i64 x13] w11 fun v14 w15 =>
  opnI .i64 (some v14) fun x16 =>
  (opnI .i64 (w15.cell? (s1.add 3)) fun x17 =>
  ((.int .i64 x17) : Value) = .int .i64 x12) ∧
  cond (decide (x12 < x16))
  (opnI .i64 (w15.cell? (s1.add 3)) fun x18 =>
  C_strconv_Itoa #[.int .i64 x18] w15 fun v19 w20 =>
  opnS (some v19) fun x21 =>
  (⟨#[46, 112, 47]⟩ : ByteArray).size + x21.size ≤ 9223372036854775807 ∧
  C_p_strings_Builder_WriteString #[.pointer (some s4), .string ((⟨#[46, 112, 47]⟩ : ByteArray) ++ x21)] w20 fun v22 w23 =>
  opnT (some v22) fun x24 =>
  x24.size = 2 ∧
  opnI .i64 (x24[0]?) fun x25 =>
  opnV (x24[1]?) fun x26 =>
  N_tile_Path.j17 Q s4 w23)
  (N_tile_Path.j17 Q s4 w15))) :
N_tile_Path.j11 Q s1 s4 s5 w := Nd_fold K_tile_Path (by kernel_rfl) h
theorem N_tile_Path.j17_eq (Q : Value → World → Prop) (s4 : Addr) (w : World) (h :
  C_p_strings_Builder_String #[.pointer (some s4)] w fun v1 w2 =>
  opnS (some v1) fun x3 =>
  Q (.tuple #[.string x3, .int .i64 0]) w2) :
N_tile_Path.j17 Q s4 w := Nd_fold K_tile_Path (by kernel_rfl) h
theorem C_tile_Path_eq (Q : Value → World → Prop) (a0_0 : Int) (a0_1 : Int) (a0_2 : Int) (a0_3 : Int) (a0_4 : Bool) (w : World) (h :
  alC #[.int .i64 a0_0, .int .i64 a0_1, .int .i64 a0_2, .int .i64 a0_3, .bool a0_4] 41 w fun p1 w2 =>
  opnI .i64 (w2.cell? (p1.add 0)) fun x3 =>
  opnI .i64 (w2.cell? (p1.add 1)) fun x4 =>
  opnI .i64 (w2.cell? (p1.add 2)) fun x5 =>
  opnI .i64 (w2.cell? (p1.add 3)) fun x6 =>
  opnB (w2.cell? (p1.add 4)) fun x7 =>
  C_tile_Check #[.agg #[.int .i64 x3, .int .i64 x4, .int .i64 x5, .int .i64 x6, .bool x7]] w2 fun v8 w9 =>
  opnI .i64 (some v8) fun x10 =>
  cond (x10 != 0)
  (Q (.tuple #[.string (⟨#[]⟩ : ByteArray), .int .i64 101]) w9)
  (alC #[.pointer none, .slice none 0 0] 181 w9 fun p11 w12 =>
  opnI .i64 (w12.cell? (p1.add 0)) fun x13 =>
  C_strconv_Itoa #[.int .i64 x13] w12 fun v14 w15 =>
  opnS (some v14) fun x16 =>
  (⟨#[116, 105, 108, 101, 47]⟩ : ByteArray).size + x16.size ≤ 9223372036854775807 ∧
  ((⟨#[116, 105, 108, 101, 47]⟩ : ByteArray) ++ x16).size + (⟨#[47]⟩ : ByteArray).size ≤ 9223372036854775807 ∧
  C_p_strings_Builder_WriteString #[.pointer (some p11), .string (((⟨#[116, 105, 108, 101, 47]⟩ : ByteArray) ++ x16) ++ (⟨#[47]⟩ : ByteArray))] w15 fun v17 w18 =>
  opnT (some v17) fun x19 =>
  x19.size = 2 ∧
  opnI .i64 (x19[0]?) fun x20 =>
  opnV (x19[1]?) fun x21 =>
  opnB (w18.cell? (p1.add 4)) fun x22 =>
  cond x22
  (C_p_strings_Builder_WriteString #[.pointer (some p11), .string (⟨#[100, 97, 116, 97]⟩ : ByteArray)] w18 fun v23 w24 =>
  opnT (some v23) fun x25 =>
  x25.size = 2 ∧
  opnI .i64 (x25[0]?) fun x26 =>
  opnV (x25[1]?) fun x27 =>
  N_tile_Path.j8 Q p1 p11 w24)
  (opnI .i64 (w18.cell? (p1.add 1)) fun x28 =>
  C_strconv_Itoa #[.int .i64 x28] w18 fun v29 w30 =>
  opnS (some v29) fun x31 =>
  C_p_strings_Builder_WriteString #[.pointer (some p11), .string x31] w30 fun v32 w33 =>
  opnT (some v32) fun x34 =>
  x34.size = 2 ∧
  opnI .i64 (x34[0]?) fun x35 =>
  opnV (x34[1]?) fun x36 =>
  N_tile_Path.j8 Q p1 p11 w33))) :
C_tile_Path #[.agg #[.int .i64 a0_0, .int .i64 a0_1, .int .i64 a0_2, .int .i64 a0_3, .bool a0_4]] w Q := C_fold K_tile_Path (by kernel_rfl) h
noncomputable def B_p_cache_usage_cache_numbers_int_value : Code := match Tryz.f58.body with | some c => c | _ => .skip
noncomputable def X_p_cache_usage_cache_numbers_int_value : Cx := { P := PP, fn := 58, N := 19, tab := tab, results := [.tmp 4, .tmp 5], iter := fun _ => (.none, .none), dyn := fun _ => false, live := fun _ => none }
theorem K_p_cache_usage_cache_numbers_int_value : OkF X_p_cache_usage_cache_numbers_int_value B_p_cache_usage_cache_numbers_int_value Tryz.f58 := ⟨⟨tab_ok, mix_ok⟩, Tryz.func58, by kernel_rfl, by kernel_rfl, by kernel_rfl, by kernel_rfl⟩
theorem C_p_cache_usage_cache_numbers_int_value_eq (Q : Value → World → Prop) (a0 : Option Addr) (a1_0 : Int) (a1_1 : Int) (a1_2 : Int) (w : World) (h :
  alC #[.int .i64 a1_0, .int .i64 a1_1, .int .i64 a1_2] 106 w fun p1 w2 =>
  drw w2 fun w3 =>
  opnA a0 fun ad4 =>
  opnM (w3.cell? (ad4.add 1)) fun x5 =>
  opnI .i64 (w3.cell? (p1.add 0)) fun x6 =>
  opnI .i64 (w3.cell? (p1.add 1)) fun x7 =>
  opnI .i64 (w3.cell? (p1.add 2)) fun x8 =>
  semR PP (Instr.lookup 93 (.map x5) (.agg #[.int .i64 x6, .int .i64 x7, .int .i64 x8]) true) w3 fun x9 =>
  opnT (some x9) fun x10 =>
  x10.size = 2 ∧
  opnI .i64 (x10[0]?) fun x11 =>
  opnB (x10[1]?) fun x12 =>
  Q (.tuple #[.int .i64 x11, .bool x12]) w3) :
C_p_cache_usage_cache_numbers_int_value #[.pointer a0, .agg #[.int .i64 a1_0, .int .i64 a1_1, .int .i64 a1_2]] w Q := C_fold K_p_cache_usage_cache_numbers_int_value (by kernel_rfl) h
noncomputable def B_cache_numbers_tile : Code := match Tryz.f60.body with | some c => c | _ => .skip
noncomputable def X_cache_numbers_tile : Cx := { P := PP, fn := 60, N := 13, tab := tab, results := [.cell 4 41], iter := fun _ => (.none, .none), dyn := fun _ => false, live := fun _ => none }
theorem K_cache_numbers_tile : OkF X_cache_numbers_tile B_cache_numbers_tile Tryz.f60 := ⟨⟨tab_ok, mix_ok⟩, Tryz.func60, by kernel_rfl, by kernel_rfl, by kernel_rfl, by kernel_rfl⟩
theorem C_cache_numbers_tile_eq (Q : Value → World → Prop) (a0_0 : Int) (a0_1 : Int) (a0_2 : Int) (a1 : Int) (w : World) (h :
  alC #[.int .i64 a0_0, .int .i64 a0_1, .int .i64 a0_2] 106 w fun p1 w2 =>
  alC #[.int .i64 0, .int .i64 0, .int .i64 0, .int .i64 0, .bool false] 41 w2 fun p3 w4 =>
  opnI .i64 (w4.cell? (p1.add 0)) fun x5 =>
  opnI .i64 (w4.cell? (p1.add 1)) fun x6 =>
  opnI .i64 (w4.cell? (p1.add 2)) fun x7 =>
  Array.size (#[.int .i64 x5, .int .i64 x6, .int .i64 x7, .int .i64 a1, .bool false] : Array Value) = 5 ∧
  stC (p3.add 0) (.int .i64 x5) w4 fun w8 =>
  stC (p3.add 1) (.int .i64 x6) w8 fun w9 =>
  stC (p3.add 2) (.int .i64 x7) w9 fun w10 =>
  stC (p3.add 3) (.int .i64 a1) w10 fun w11 =>
  stC (p3.add 4) (.bool false) w11 fun w12 =>
  opnI .i64 (w12.cell? (p3.add 0)) fun x13 =>
  opnI .i64 (w12.cell? (p3.add 1)) fun x14 =>
  opnI .i64 (w12.cell? (p3.add 2)) fun x15 =>
  opnI .i64 (w12.cell? (p3.add 3)) fun x16 =>
  opnB (w12.cell? (p3.add 4)) fun x17 =>
  Q (.agg #[.int .i64 x13, .int .i64 x14, .int .i64 x15, .int .i64 x16, .bool x17]) w12) :
C_cache_numbers_tile #[.agg #[.int .i64 a0_0, .int .i64 a0_1, .int .i64 a0_2], .int .i64 a1] w Q := C_fold K_cache_numbers_tile (by kernel_rfl) h
end Go.Proofs.YtcigjlbpdkkflaaGreatDoor
set_option maxRecDepth 100000
namespace Go.Proofs.YtcigjlbpdkkflaaGreatDoor
open Go.Sh
noncomputable def B_p_cache_usage_cache_numbers_int_forget : Code := match Tryz.f61.body with | some c => c | _ => .skip
noncomputable def X_p_cache_usage_cache_numbers_int_forget : Cx := { P := PP, fn := 61, N := 38, tab := tab, results := [], iter := fun _ => (.none, .none), dyn := fun _ => false, live := fun r => cond (Nat.beq r 4) (some [0, 3, 4, 20, 21, 22]) (cond (Nat.beq r 8) (some [0, 3, 4, 20, 21, 22]) (none)) }
theorem K_p_cache_usage_cache_numbers_int_forget : OkF X_p_cache_usage_cache_numbers_int_forget B_p_cache_usage_cache_numbers_int_forget Tryz.f61 := ⟨⟨tab_ok, mix_ok⟩, Tryz.func61, by kernel_rfl, by kernel_rfl, by kernel_rfl, by kernel_rfl⟩
noncomputable def N_p_cache_usage_cache_numbers_int_forget.j4 (Q : Value → World → Prop) (s0 : Option Addr) (s3 : Addr) (s4 : Option Addr) (s4n : Nat) (s4c : Nat) (s20 : Option Addr) (s20n : Nat) (s20c : Nat) (s21 : Int) (s22 : Int) (w : World) : Prop := Nd X_p_cache_usage_cache_numbers_int_forget Q [(0, 0, .pointer s0), (3, 3, .pointer (some s3)), (4, 4, .slice s4 s4n s4c), (20, 20, .slice s20 s20n s20c), (21, 21, .int .i64 s21), (22, 22, .int .i64 s22)] [.code (B_p_cache_usage_cache_numbers_int_forget.r.r.r.l.r.l.l.l), .code (B_p_cache_usage_cache_numbers_int_forget.r.r.r.l.r.l.l.r), .inLoop (B_p_cache_usage_cache_numbers_int_forget.r.r.r.l.r.l.l), .inBlock 0, .code (B_p_cache_usage_cache_numbers_int_forget.r.r.r.r)] w
noncomputable def N_p_cache_usage_cache_numbers_int_forget.j8 (Q : Value → World → Prop) (s0 : Option Addr) (s3 : Addr) (s4 : Option Addr) (s4n : Nat) (s4c : Nat) (s20 : Option Addr) (s20n : Nat) (s20c : Nat) (s21 : Int) (s22 : Int) (w : World) : Prop := Nd X_p_cache_usage_cache_numbers_int_forget Q [(0, 0, .pointer s0), (3, 3, .pointer (some s3)), (4, 4, .slice s4 s4n s4c), (20, 20, .slice s20 s20n s20c), (21, 21, .int .i64 s21), (22, 22, .int .i64 s22)] [.code (B_p_cache_usage_cache_numbers_int_forget.r.r.r.l.r.l.l.r.r.r), .inLoop (B_p_cache_usage_cache_numbers_int_forget.r.r.r.l.r.l.l), .inBlock 0, .code (B_p_cache_usage_cache_numbers_int_forget.r.r.r.r)] w
theorem N_p_cache_usage_cache_numbers_int_forget.j4_eq (Q : Value → World → Prop) (s0 : Option Addr) (s3 : Addr) (s4 : Option Addr) (s4n : Nat) (s4c : Nat) (s20 : Option Addr) (s20n : Nat) (s20c : Nat) (s21 : Int) (s22 : Int) (w : World) (h :
  cond (decide (s22 < s21))
  ((0 : Int) ≤ s22 ∧
  s22 < ((s20n : Nat) : Int) ∧
  opnA s20 fun ad1 =>
  opnI .i64 (w.cell? ((ad1.add (Int.toNat s22 * 3)).add 0)) fun x2 =>
  opnI .i64 (w.cell? ((ad1.add (Int.toNat s22 * 3)).add 1)) fun x3 =>
  opnI .i64 (w.cell? ((ad1.add (Int.toNat s22 * 3)).add 2)) fun x4 =>
  alC #[.int .i64 0, .int .i64 0, .int .i64 0] 106 w fun p5 w6 =>
  Array.size (#[.int .i64 x2, .int .i64 x3, .int .i64 x4] : Array Value) = 3 ∧
  stC (p5.add 0) (.int .i64 x2) w6 fun w7 =>
  stC (p5.add 1) (.int .i64 x3) w7 fun w8 =>
  stC (p5.add 2) (.int .i64 x4) w8 fun w9 =>
  opnI .i64 (w9.cell? (p5.add 0)) fun x10 =>
  opnI .i64 (w9.cell? (p5.add 1)) fun x11 =>
  opnI .i64 (w9.cell? (p5.add 2)) fun x12 =>
  opnI .i64 (w9.cell? (s3.add 0)) fun x13 =>
  opnI .i64 (w9.cell? (s3.add 1)) fun x14 =>
  opnI .i64 (w9.cell? (s3.add 2)) fun x15 =>
  semR PP (do eqGuard .neq 106 (.tmp 26) (.tmp 27) (.agg #[.int .i64 x10, .int .i64 x11, .int .i64 x12]) (.agg #[.int .i64 x13, .int .i64 x14, .int .i64 x15]); binOp .neq 106 (.agg #[.int .i64 x10, .int .i64 x11, .int .i64 x12]) (.agg #[.int .i64 x13, .int .i64 x14, .int .i64 x15])) w9 fun x16 =>
  opnB (some x16) fun x17 =>
  cond x17
  (opnI .i64 (w9.cell? (p5.add 0)) fun x18 =>
  opnI .i64 (w9.cell? (p5.add 1)) fun x19 =>
  opnI .i64 (w9.cell? (p5.add 2)) fun x20 =>
  alC #[.int .i64 x18, .int .i64 x19, .int .i64 x20] 106 w9 fun p21 w22 =>
  sem PP (Builtin.append_ #[92, 92] 92 #[.slice s4 s4n s4c, .slice (some p21) 1 1]) w22 fun v23 w24 =>
  opnL (some v23) fun x25 x25n x25c =>
  N_p_cache_usage_cache_numbers_int_forget.j8 Q s0 s3 x25 x25n x25c s20 s20n s20c s21 s22 w24)
  (N_p_cache_usage_cache_numbers_int_forget.j8 Q s0 s3 s4 s4n s4c s20 s20n s20c s21 s22 w9))
  (opnA s0 fun ad26 =>
  stC (ad26.add 0) (.slice s4 s4n s4c) w fun w27 =>
  Q (.tuple #[]) w27)) :
N_p_cache_usage_cache_numbers_int_forget.j4 Q s0 s3 s4 s4n s4c s20 s20n s20c s21 s22 w := Nd_fold K_p_cache_usage_cache_numbers_int_forget (by kernel_rfl) h
theorem N_p_cache_usage_cache_numbers_int_forget.j8_eq (Q : Value → World → Prop) (s0 : Option Addr) (s3 : Addr) (s4 : Option Addr) (s4n : Nat) (s4c : Nat) (s20 : Option Addr) (s20n : Nat) (s20c : Nat) (s21 : Int) (s22 : Int) (w : World) (h :
  N_p_cache_usage_cache_numbers_int_forget.j4 Q s0 s3 s4 s4n s4c s20 s20n s20c s21 (IntKind.wrap .i64 (s22 + 1)) w) :
N_p_cache_usage_cache_numbers_int_forget.j8 Q s0 s3 s4 s4n s4c s20 s20n s20c s21 s22 w := Nd_fold K_p_cache_usage_cache_numbers_int_forget (by kernel_rfl) h
theorem C_p_cache_usage_cache_numbers_int_forget_eq (Q : Value → World → Prop) (a0 : Option Addr) (a1_0 : Int) (a1_1 : Int) (a1_2 : Int) (w : World) (h :
  alC #[.int .i64 a1_0, .int .i64 a1_1, .int .i64 a1_2] 106 w fun p1 w2 =>
  drw w2 fun w3 =>
  opnA a0 fun ad4 =>
  opnM (w3.cell? (ad4.add 1)) fun x5 =>
  opnI .i64 (w3.cell? (p1.add 0)) fun x6 =>
  opnI .i64 (w3.cell? (p1.add 1)) fun x7 =>
  opnI .i64 (w3.cell? (p1.add 2)) fun x8 =>
  sem PP (Builtin.delete_ #[93, 106] 0 #[.map x5, .agg #[.int .i64 x6, .int .i64 x7, .int .i64 x8]]) w3 fun v9 w10 =>
  opnA a0 fun ad11 =>
  opnL (w10.cell? (ad11.add 0)) fun x12 x12n x12c =>
  (0 : Int) ≤ 0 ∧
  0 ≤ ((x12c : Nat) : Int) ∧
  opnA a0 fun ad13 =>
  opnL (w10.cell? (ad13.add 0)) fun x14 x14n x14c =>
  N_p_cache_usage_cache_numbers_int_forget.j4 Q a0 p1 (slA x12 0 x12c 3) ((Int.toNat 0) - 0) (x12c - 0) x14 x14n x14c ((x14n : Nat) : Int) 0 w10) :
C_p_cache_usage_cache_numbers_int_forget #[.pointer a0, .agg #[.int .i64 a1_0, .int .i64 a1_1, .int .i64 a1_2]] w Q := C_fold K_p_cache_usage_cache_numbers_int_forget (by kernel_rfl) h
noncomputable def B_p_disk_Disk_Create : Code := match Tryz.f65.body with | some c => c | _ => .skip
noncomputable def X_p_disk_Disk_Create : Cx := { P := PP, fn := 65, N := 9, tab := tab, results := [.tmp 4], iter := fun _ => (.none, .none), dyn := fun _ => false, live := fun _ => none }
theorem K_p_disk_Disk_Create : OkF X_p_disk_Disk_Create B_p_disk_Disk_Create Tryz.f65 := ⟨⟨tab_ok, mix_ok⟩, Tryz.func65, by kernel_rfl, by kernel_rfl, by kernel_rfl, by kernel_rfl⟩
theorem C_p_disk_Disk_Create_eq (Q : Value → World → Prop) (a0 : Option Addr) (a1 : ByteArray) (w : World) (h :
  alC #[.pointer a0] 27 w fun p1 w2 =>
  alC #[.string a1] 9 w2 fun p3 w4 =>
  opnP (w4.cell? p1) fun x5 =>
  C_p_disk_Disk_act #[.pointer x5, .func (.func 112) #[] #[.pointer (some p3)], .func (.func 113) #[] #[.pointer (some p1), .pointer (some p3)]] w4 fun v6 w7 =>
  opnI .i64 (some v6) fun x8 =>
  Q (.int .i64 x8) w7) :
C_p_disk_Disk_Create #[.pointer a0, .string a1] w Q := C_fold K_p_disk_Disk_Create (by kernel_rfl) h
noncomputable def B_p_disk_Disk_Write : Code := match Tryz.f66.body with | some c => c | _ => .skip
noncomputable def X_p_disk_Disk_Write : Cx := { P := PP, fn := 66, N := 13, tab := tab, results := [.tmp 8], iter := fun _ => (.none, .none), dyn := fun _ => false, live := fun _ => none }
theorem K_p_disk_Disk_Write : OkF X_p_disk_Disk_Write B_p_disk_Disk_Write Tryz.f66 := ⟨⟨tab_ok, mix_ok⟩, Tryz.func66, by kernel_rfl, by kernel_rfl, by kernel_rfl, by kernel_rfl⟩
theorem C_p_disk_Disk_Write_eq (Q : Value → World → Prop) (a0 : Option Addr) (a1 : ByteArray) (a2 : Int) (a3 : Option Addr) (a3n : Nat) (a3c : Nat) (w : World) (h :
  alC #[.pointer a0] 27 w fun p1 w2 =>
  alC #[.string a1] 9 w2 fun p3 w4 =>
  alC #[.int .i64 a2] 3 w4 fun p5 w6 =>
  alC #[.slice a3 a3n a3c] 24 w6 fun p7 w8 =>
  opnP (w8.cell? p1) fun x9 =>
  C_p_disk_Disk_act #[.pointer x9, .func (.func 116) #[] #[.pointer (some p1), .pointer (some p3), .pointer (some p5), .pointer (some p7)], .func (.func 117) #[] #[.pointer (some p7), .pointer (some p1), .pointer (some p3), .pointer (some p5)]] w8 fun v10 w11 =>
  opnI .i64 (some v10) fun x12 =>
  Q (.int .i64 x12) w11) :
C_p_disk_Disk_Write #[.pointer a0, .string a1, .int .i64 a2, .slice a3 a3n a3c] w Q := C_fold K_p_disk_Disk_Write (by kernel_rfl) h
noncomputable def B_bytes_Equal : Code := match Tryz.f67.body with | some c => c | _ => .skip
noncomputable def X_bytes_Equal : Cx := { P := PP, fn := 67, N := 10, tab := tab, results := [.tmp 4], iter := fun _ => (.none, .none), dyn := fun _ => false, live := fun _ => none }
theorem K_bytes_Equal : OkF X_bytes_Equal B_bytes_Equal Tryz.f67 := ⟨⟨tab_ok, mix_ok⟩, Tryz.func67, by kernel_rfl, by kernel_rfl, by kernel_rfl, by kernel_rfl⟩
theorem C_bytes_Equal_eq (Q : Value → World → Prop) (a0 : Option Addr) (a0n : Nat) (a0c : Nat) (a1 : Option Addr) (a1n : Nat) (a1c : Nat) (w : World) (h :
  semR PP (convert 24 9 (.slice a0 a0n a0c)) w fun x1 =>
  opnS (some x1) fun x2 =>
  semR PP (convert 24 9 (.slice a1 a1n a1c)) w fun x3 =>
  opnS (some x3) fun x4 =>
  Q (.bool (x2.toList == x4.toList)) w) :
C_bytes_Equal #[.slice a0 a0n a0c, .slice a1 a1n a1c] w Q := C_fold K_bytes_Equal (by kernel_rfl) h
noncomputable def B_p_cache_Cache_SetHead_S1 : Code := match Tryz.f68.body with | some c => c | _ => .skip
noncomputable def X_p_cache_Cache_SetHead_S1 : Cx := { P := PP, fn := 68, N := 9, tab := tab, results := [.tmp 2], iter := fun _ => (.none, .none), dyn := fun _ => false, live := fun _ => none }
theorem K_p_cache_Cache_SetHead_S1 : OkF X_p_cache_Cache_SetHead_S1 B_p_cache_Cache_SetHead_S1 Tryz.f68 := ⟨⟨tab_ok, mix_ok⟩, Tryz.func68, by kernel_rfl, by kernel_rfl, by kernel_rfl, by kernel_rfl⟩
theorem C_p_cache_Cache_SetHead_S1_eq (Q : Value → World → Prop) (f0 : Addr) (f1 : Addr) (w : World) (h :
  drw w fun w1 =>
  opnP (w1.cell? f0) fun x2 =>
  opnA x2 fun ad3 =>
  opnP (w1.cell? (ad3.add 2)) fun x4 =>
  opnS (w1.cell? f1) fun x5 =>
  C_p_disk_Disk_Create #[.pointer x4, .string x5] w1 fun v6 w7 =>
  opnI .i64 (some v6) fun x8 =>
  Q (.int .i64 x8) w7) :
C_p_cache_Cache_SetHead_S1 #[.pointer (some f0), .pointer (some f1)] w Q := C_fold K_p_cache_Cache_SetHead_S1 (by kernel_rfl) h
noncomputable def B_p_cache_Cache_SetHead_S2 : Code := match Tryz.f69.body with | some c => c | _ => .skip
noncomputable def X_p_cache_Cache_SetHead_S2 : Cx := { P := PP, fn := 69, N := 11, tab := tab, results := [.tmp 3], iter := fun _ => (.none, .none), dyn := fun _ => false, live := fun _ => none }
theorem K_p_cache_Cache_SetHead_S2 : OkF X_p_cache_Cache_SetHead_S2 B_p_cache_Cache_SetHead_S2 Tryz.f69 := ⟨⟨tab_ok, mix_ok⟩, Tryz.func69, by kernel_rfl, by kernel_rfl, by kernel_rfl, by kernel_rfl⟩
theorem C_p_cache_Cache_SetHead_S2_eq (Q : Value → World → Prop) (f0 : Addr) (f1 : Addr) (f2 : Addr) (w : World) (h :
  drw w fun w1 =>
  opnP (w1.cell? f0) fun x2 =>
  opnA x2 fun ad3 =>
  opnP (w1.cell? (ad3.add 2)) fun x4 =>
  opnS (w1.cell? f1) fun x5 =>
  opnL (w1.cell? f2) fun x6 x6n x6c =>
  C_p_disk_Disk_Write #[.pointer x4, .string x5, .int .i64 0, .slice x6 x6n x6c] w1 fun v7 w8 =>
  opnI .i64 (some v7) fun x9 =>
  Q (.int .i64 x9) w8) :
C_p_cache_Cache_SetHead_S2 #[.pointer (some f0), .pointer (some f1), .pointer (some f2)] w Q := C_fold K_p_cache_Cache_SetHead_S2 (by kernel_rfl) h
noncomputable def B_p_cache_Cache_SetHead_S3 : Code := match Tryz.f70.body with | some c => c | _ => .skip
noncomputable def X_p_cache_Cache_SetHead_S3 : Cx := { P := PP, fn := 70, N := 9, tab := tab, results := [.tmp 2], iter := fun _ => (.none, .none), dyn := fun _ => false, live := fun _ => none }
theorem K_p_cache_Cache_SetHead_S3 : OkF X_p_cache_Cache_SetHead_S3 B_p_cache_Cache_SetHead_S3 Tryz.f70 := ⟨⟨tab_ok, mix_ok⟩, Tryz.func70, by kernel_rfl, by kernel_rfl, by kernel_rfl, by kernel_rfl⟩
theorem C_p_cache_Cache_SetHead_S3_eq (Q : Value → World → Prop) (f0 : Addr) (f1 : Addr) (w : World) (h :
  drw w fun w1 =>
  opnP (w1.cell? f0) fun x2 =>
  opnA x2 fun ad3 =>
  opnP (w1.cell? (ad3.add 2)) fun x4 =>
  opnS (w1.cell? f1) fun x5 =>
  C_p_disk_Disk_Sync #[.pointer x4, .string x5] w1 fun v6 w7 =>
  opnI .i64 (some v6) fun x8 =>
  Q (.int .i64 x8) w7) :
C_p_cache_Cache_SetHead_S3 #[.pointer (some f0), .pointer (some f1)] w Q := C_fold K_p_cache_Cache_SetHead_S3 (by kernel_rfl) h
noncomputable def B_p_disk_Disk_Sync : Code := match Tryz.f71.body with | some c => c | _ => .skip
noncomputable def X_p_disk_Disk_Sync : Cx := { P := PP, fn := 71, N := 9, tab := tab, results := [.tmp 4], iter := fun _ => (.none, .none), dyn := fun _ => false, live := fun _ => none }
theorem K_p_disk_Disk_Sync : OkF X_p_disk_Disk_Sync B_p_disk_Disk_Sync Tryz.f71 := ⟨⟨tab_ok, mix_ok⟩, Tryz.func71, by kernel_rfl, by kernel_rfl, by kernel_rfl, by kernel_rfl⟩
theorem C_p_disk_Disk_Sync_eq (Q : Value → World → Prop) (a0 : Option Addr) (a1 : ByteArray) (w : World) (h :
  alC #[.pointer a0] 27 w fun p1 w2 =>
  alC #[.string a1] 9 w2 fun p3 w4 =>
  opnP (w4.cell? p1) fun x5 =>
  C_p_disk_Disk_act #[.pointer x5, .func (.func 119) #[] #[.pointer (some p1), .pointer (some p3)], .func (.func 120) #[] #[.pointer (some p1), .pointer (some p3)]] w4 fun v6 w7 =>
  opnI .i64 (some v6) fun x8 =>
  Q (.int .i64 x8) w7) :
C_p_disk_Disk_Sync #[.pointer a0, .string a1] w Q := C_fold K_p_disk_Disk_Sync (by kernel_rfl) h
noncomputable def B_p_cache_Cache_SetHead_S4 : Code := match Tryz.f72.body with | some c => c | _ => .skip
noncomputable def X_p_cache_Cache_SetHead_S4 : Cx := { P := PP, fn := 72, N := 11, tab := tab, results := [.tmp 2], iter := fun _ => (.none, .none), dyn := fun _ => false, live := fun _ => none }
theorem K_p_cache_Cache_SetHead_S4 : OkF X_p_cache_Cache_SetHead_S4 B_p_cache_Cache_SetHead_S4 Tryz.f72 := ⟨⟨tab_ok, mix_ok⟩, Tryz.func72, by kernel_rfl, by kernel_rfl, by kernel_rfl, by kernel_rfl⟩
theorem C_p_cache_Cache_SetHead_S4_eq (Q : Value → World → Prop) (f0 : Addr) (f1 : Addr) (w : World) (h :
  drw w fun w1 =>
  opnP (w1.cell? f0) fun x2 =>
  opnA x2 fun ad3 =>
  opnP (w1.cell? (ad3.add 2)) fun x4 =>
  opnS (w1.cell? f1) fun x5 =>
  opnP (w1.cell? f0) fun x6 =>
  C_p_cache_Cache_headFile #[.pointer x6] w1 fun v7 w8 =>
  opnS (some v7) fun x9 =>
  (opnS (w8.cell? f1) fun x10 =>
  ((.string x10) : Value) = .string x5) ∧
  (opnP (w8.cell? (ad3.add 2)) fun x11 =>
  ((.pointer x11) : Value) = .pointer x4) ∧
  (opnP (w8.cell? f0) fun x12 =>
  ((.pointer x12) : Value) = .pointer x2) ∧
  C_p_disk_Disk_Rename #[.pointer x4, .string x5, .string x9] w8 fun v13 w14 =>
  opnI .i64 (some v13) fun x15 =>
  Q (.int .i64 x15) w14) :
C_p_cache_Cache_SetHead_S4 #[.pointer (some f0), .pointer (some f1)] w Q := C_fold K_p_cache_Cache_SetHead_S4 (by kernel_rfl) h
noncomputable def B_p_disk_Disk_Rename : Code := match Tryz.f73.body with | some c => c | _ => .skip
noncomputable def X_p_disk_Disk_Rename : Cx := { P := PP, fn := 73, N := 11, tab := tab, results := [.tmp 6], iter := fun _ => (.none, .none), dyn := fun _ => false, live := fun _ => none }
theorem K_p_disk_Disk_Rename : OkF X_p_disk_Disk_Rename B_p_disk_Disk_Rename Tryz.f73 := ⟨⟨tab_ok, mix_ok⟩, Tryz.func73, by kernel_rfl, by kernel_rfl, by kernel_rfl, by kernel_rfl⟩
theorem C_p_disk_Disk_Rename_eq (Q : Value → World → Prop) (a0 : Option Addr) (a1 : ByteArray) (a2 : ByteArray) (w : World) (h :
  alC #[.pointer a0] 27 w fun p1 w2 =>
  alC #[.string a1] 9 w2 fun p3 w4 =>
  alC #[.string a2] 9 w4 fun p5 w6 =>
  opnP (w6.cell? p1) fun x7 =>
  C_p_disk_Disk_act #[.pointer x7, .func (.func 121) #[] #[.pointer (some p5), .pointer (some p1), .pointer (some p3)], .func (.func 122) #[] #[.pointer (some p1), .pointer (some p3), .pointer (some p5)]] w6 fun v8 w9 =>
  opnI .i64 (some v8) fun x10 =>
  Q (.int .i64 x10) w9) :
C_p_disk_Disk_Rename #[.pointer a0, .string a1, .string a2] w Q := C_fold K_p_disk_Disk_Rename (by kernel_rfl) h
noncomputable def B_p_disk_Disk_Fail : Code := match Tryz.f74.body with | some c => c | _ => .skip
noncomputable def X_p_disk_Disk_Fail : Cx := { P := PP, fn := 74, N := 30, tab := tab, results := [.tmp 6], iter := fun _ => (.none, .none), dyn := fun _ => false, live := fun r => cond (Nat.beq r 3) (some [0, 1, 2]) (cond (Nat.beq r 4) (some []) (cond (Nat.beq r 5) (some [0, 1, 2]) (cond (Nat.beq r 6) (some []) (none)))) }
theorem K_p_disk_Disk_Fail : OkF X_p_disk_Disk_Fail B_p_disk_Disk_Fail Tryz.f74 := ⟨⟨tab_ok, mix_ok⟩, Tryz.func74, by kernel_rfl, by kernel_rfl, by kernel_rfl, by kernel_rfl⟩
noncomputable def N_p_disk_Disk_Fail.j3 (Q : Value → World → Prop) (s0 : Option Addr) (s1 : Int) (s2 : Int) (w : World) : Prop := Nd X_p_disk_Disk_Fail Q [(0, 0, .pointer s0), (1, 1, .int .i64 s1), (2, 2, .int .i64 s2)] [.code (B_p_disk_Disk_Fail.r.r.l.l), .code (B_p_disk_Disk_Fail.r.r.l.r), .code (B_p_disk_Disk_Fail.r.r.r)] w
noncomputable def N_p_disk_Disk_Fail.j4 (Q : Value → World → Prop) (w : World) : Prop := Nd X_p_disk_Disk_Fail Q [] [.code (B_p_disk_Disk_Fail.r.r.l.r.l.l), .code (B_p_disk_Disk_Fail.r.r.l.r.l.r), .code (B_p_disk_Disk_Fail.r.r.r)] w
noncomputable def N_p_disk_Disk_Fail.j5 (Q : Value → World → Prop) (s0 : Option Addr) (s1 : Int) (s2 : Int) (w : World) : Prop := Nd X_p_disk_Disk_Fail Q [(0, 0, .pointer s0), (1, 1, .int .i64 s1), (2, 2, .int .i64 s2)] [.code (B_p_disk_Disk_Fail.r.r.r.l), .code (B_p_disk_Disk_Fail.r.r.r.r)] w
noncomputable def N_p_disk_Disk_Fail.j6 (Q : Value → World → Prop) (w : World) : Prop := Nd X_p_disk_Disk_Fail Q [] [.code (B_p_disk_Disk_Fail.r.r.r.r.l), .code (B_p_disk_Disk_Fail.r.r.r.r.r)] w
theorem N_p_disk_Disk_Fail.j3_eq (Q : Value → World → Prop) (s0 : Option Addr) (s1 : Int) (s2 : Int) (w : World) (h :
  opnA s0 fun ad1 =>
  opnB (w.cell? (ad1.add 8)) fun x2 =>
  cond x2
  (N_p_disk_Disk_Fail.j4 Q w)
  (N_p_disk_Disk_Fail.j5 Q s0 s1 s2 w)) :
N_p_disk_Disk_Fail.j3 Q s0 s1 s2 w := Nd_fold K_p_disk_Disk_Fail (by kernel_rfl) h
theorem N_p_disk_Disk_Fail.j4_eq (Q : Value → World → Prop) (w : World) (h :
  Q (.int .i64 125) w) :
N_p_disk_Disk_Fail.j4 Q w := Nd_fold K_p_disk_Disk_Fail (by kernel_rfl) h
theorem N_p_disk_Disk_Fail.j5_eq (Q : Value → World → Prop) (s0 : Option Addr) (s1 : Int) (s2 : Int) (w : World) (h :
  opnA s0 fun ad1 =>
  stC (ad1.add 6) (.int .i64 (if s1 > 0 then s1 else 0)) w fun w2 =>
  opnA s0 fun ad3 =>
  stC (ad3.add 7) (.int .i64 s2) w2 fun w4 =>
  N_p_disk_Disk_Fail.j6 Q w4) :
N_p_disk_Disk_Fail.j5 Q s0 s1 s2 w := Nd_fold K_p_disk_Disk_Fail (by kernel_rfl) h
theorem N_p_disk_Disk_Fail.j6_eq (Q : Value → World → Prop) (w : World) (h :
  Q (.int .i64 0) w) :
N_p_disk_Disk_Fail.j6 Q w := Nd_fold K_p_disk_Disk_Fail (by kernel_rfl) h
theorem C_p_disk_Disk_Fail_eq (Q : Value → World → Prop) (a0 : Option Addr) (a1 : Int) (a2 : Int) (w : World) (h :
  cond (a2 != 124)
  (cond (a2 != 123)
  (cond (a2 != 125)
  (Q (.int .i64 1) w)
  (N_p_disk_Disk_Fail.j3 Q a0 a1 a2 w))
  (N_p_disk_Disk_Fail.j3 Q a0 a1 a2 w))
  (N_p_disk_Disk_Fail.j3 Q a0 a1 a2 w)) :
C_p_disk_Disk_Fail #[.pointer a0, .int .i64 a1, .int .i64 a2] w Q := C_fold K_p_disk_Disk_Fail (by kernel_rfl) h
noncomputable def B_p_disk_Disk_Crash : Code := match Tryz.f75.body with | some c => c | _ => .skip
noncomputable def X_p_disk_Disk_Crash : Cx := { P := PP, fn := 75, N := 162, tab := tab, results := [.tmp 4], iter := fun r => cond (Nat.beq r 54) (.one .str, .one .ptr) (cond (Nat.beq r 126) (.one .str, .one .ptr) ((.none, .none))), dyn := fun r => cond (Nat.beq r 48) true (false), live := fun r => cond (Nat.beq r 5) (some [0, 5, 6, 41, 42, 43]) (cond (Nat.beq r 12) (some [0, 5, 6, 9, 10, 54]) (cond (Nat.beq r 16) (some [0, 5, 6, 9, 10, 12, 54, 71, 72, 73]) (cond (Nat.beq r 22) (some [0, 5, 6, 10, 86, 87, 88]) (cond (Nat.beq r 29) (some [6, 10, 18, 126]) (none))))) }
theorem K_p_disk_Disk_Crash : OkF X_p_disk_Disk_Crash B_p_disk_Disk_Crash Tryz.f75 := ⟨⟨tab_ok, mix_ok⟩, Tryz.func75, by kernel_rfl, by kernel_rfl, by kernel_rfl, by kernel_rfl⟩
noncomputable def N_p_disk_Disk_Crash.j5 (Q : Value → World → Prop) (s0 : Option Addr) (s5c0 : Addr) (s6 : Option Nat) (s41 : Option Addr) (s41n : Nat) (s41c : Nat) (s42 : Int) (s43 : Int) (w : World) : Prop := Nd X_p_disk_Disk_Crash Q [(0, 0, .pointer s0), (5, 5, .func (.func 124) #[] #[.pointer (some s5c0)]), (6, 6, .map s6), (41, 41, .slice s41 s41n s41c), (42, 42, .int .i64 s42), (43, 43, .int .i64 s43)] [.code (B_p_disk_Disk_Crash.r.r.r.r.l.r.l.l.l), .code (B_p_disk_Disk_Crash.r.r.r.r.l.r.l.l.r), .inLoop (B_p_disk_Disk_Crash.r.r.r.r.l.r.l.l), .inBlock 0, .code (B_p_disk_Disk_Crash.r.r.r.r.r)] w
noncomputable def N_p_disk_Disk_Crash.j12 (Q : Value → World → Prop) (s0 : Option Addr) (s5c0 : Addr) (s6 : Option Nat) (s9 : Option Addr) (s9n : Nat) (s9c : Nat) (s10 : Option Nat) (s54 : Addr) (w : World) : Prop := Nd X_p_disk_Disk_Crash Q [(0, 0, .pointer s0), (5, 5, .func (.func 124) #[] #[.pointer (some s5c0)]), (6, 6, .map s6), (9, 9, .slice s9 s9n s9c), (10, 10, .map s10), (54, 54, .pointer (some s54))] [.code (B_p_disk_Disk_Crash.r.r.r.r.r.r.r.l.r.l.l.l), .code (B_p_disk_Disk_Crash.r.r.r.r.r.r.r.l.r.l.l.r), .inLoop (B_p_disk_Disk_Crash.r.r.r.r.r.r.r.l.r.l.l), .inBlock 2, .code (B_p_disk_Disk_Crash.r.r.r.r.r.r.r.r)] w
noncomputable def N_p_disk_Disk_Crash.j16 (Q : Value → World → Prop) (s0 : Option Addr) (s5c0 : Addr) (s6 : Option Nat) (s9 : Option Addr) (s9n : Nat) (s9c : Nat) (s10 : Option Nat) (s12 : Option Addr) (s54 : Addr) (s71 : Option Addr) (s71n : Nat) (s71c : Nat) (s72 : Int) (s73 : Int) (w : World) : Prop := Nd X_p_disk_Disk_Crash Q [(0, 0, .pointer s0), (5, 5, .func (.func 124) #[] #[.pointer (some s5c0)]), (6, 6, .map s6), (9, 9, .slice s9 s9n s9c), (10, 10, .map s10), (12, 12, .pointer s12), (54, 54, .pointer (some s54)), (71, 71, .slice s71 s71n s71c), (72, 72, .int .i64 s72), (73, 73, .int .i64 s73)] [.code (B_p_disk_Disk_Crash.r.r.r.r.r.r.r.l.r.l.l.r.r.l.r.r.r.l.l.l), .code (B_p_disk_Disk_Crash.r.r.r.r.r.r.r.l.r.l.l.r.r.l.r.r.r.l.l.r), .inLoop (B_p_disk_Disk_Crash.r.r.r.r.r.r.r.l.r.l.l.r.r.l.r.r.r.l.l), .inBlock 4, .inBlock 3, .inLoop (B_p_disk_Disk_Crash.r.r.r.r.r.r.r.l.r.l.l), .inBlock 2, .code (B_p_disk_Disk_Crash.r.r.r.r.r.r.r.r)] w
noncomputable def N_p_disk_Disk_Crash.j22 (Q : Value → World → Prop) (s0 : Option Addr) (s5c0 : Addr) (s6 : Option Nat) (s10 : Option Nat) (s86 : Option Addr) (s86n : Nat) (s86c : Nat) (s87 : Int) (s88 : Int) (w : World) : Prop := Nd X_p_disk_Disk_Crash Q [(0, 0, .pointer s0), (5, 5, .func (.func 124) #[] #[.pointer (some s5c0)]), (6, 6, .map s6), (10, 10, .map s10), (86, 86, .slice s86 s86n s86c), (87, 87, .int .i64 s87), (88, 88, .int .i64 s88)] [.code (B_p_disk_Disk_Crash.r.r.r.r.r.r.r.r.r.l.r.l.l.l), .code (B_p_disk_Disk_Crash.r.r.r.r.r.r.r.r.r.l.r.l.l.r), .inLoop (B_p_disk_Disk_Crash.r.r.r.r.r.r.r.r.r.l.r.l.l), .inBlock 6, .code (B_p_disk_Disk_Crash.r.r.r.r.r.r.r.r.r.r)] w
noncomputable def N_p_disk_Disk_Crash.j29 (Q : Value → World → Prop) (s6 : Option Nat) (s10 : Option Nat) (s18 : Addr) (s126 : Addr) (w : World) : Prop := Nd X_p_disk_Disk_Crash Q [(6, 6, .map s6), (10, 10, .map s10), (18, 18, .pointer (some s18)), (126, 126, .pointer (some s126))] [.code (B_p_disk_Disk_Crash.r.r.r.r.r.r.r.r.r.r.r.l.r.l.l.l), .code (B_p_disk_Disk_Crash.r.r.r.r.r.r.r.r.r.r.r.l.r.l.l.r), .inLoop (B_p_disk_Disk_Crash.r.r.r.r.r.r.r.r.r.r.r.l.r.l.l), .inBlock 8, .code (B_p_disk_Disk_Crash.r.r.r.r.r.r.r.r.r.r.r.r)] w
theorem N_p_disk_Disk_Crash.j5_eq (Q : Value → World → Prop) (s0 : Option Addr) (s5c0 : Addr) (s6 : Option Nat) (s41 : Option Addr) (s41n : Nat) (s41c : Nat) (s42 : Int) (s43 : Int) (w : World) (h :
  cond (decide (s43 < s42))
  ((0 : Int) ≤ s43 ∧
  s43 < ((s41n : Nat) : Int) ∧
  opnA s41 fun ad1 =>
  opnV (w.cell? ((ad1.add (Int.toNat s43 * 1)).add 0)) fun x2 =>
  alZ PP 133 w fun p3 w4 =>
  Array.size (#[x2] : Array Value) = 1 ∧
  stC (p3.add 0) x2 w4 fun w5 =>
  opnV (w5.cell? (p3.add 0)) fun x6 =>
  invk PP x6 #[.map s6] w5 fun v7 w8 =>
  opnT (some v7) fun x9 =>
  x9.size = 0 ∧
  N_p_disk_Disk_Crash.j5 Q s0 s5c0 s6 s41 s41n s41c s42 (IntKind.wrap .i64 (s43 + 1)) w8)
  (alM w fun r10 w11 =>
  sem PP (Instr.range 116 (.map s6)) w11 fun v12 w13 =>
  opnP (some v12) fun x14 =>
  opnA x14 fun ad15 =>
  N_p_disk_Disk_Crash.j12 Q s0 s5c0 s6 none 0 0 (some r10) ad15 w13)) :
N_p_disk_Disk_Crash.j5 Q s0 s5c0 s6 s41 s41n s41c s42 s43 w := Nd_fold K_p_disk_Disk_Crash (by kernel_rfl) h
theorem N_p_disk_Disk_Crash.j12_eq (Q : Value → World → Prop) (s0 : Option Addr) (s5c0 : Addr) (s6 : Option Nat) (s9 : Option Addr) (s9n : Nat) (s9c : Nat) (s10 : Option Nat) (s54 : Addr) (w : World) (h :
  sem PP (Instr.next (.pointer (some s54)) false 0) w fun v1 w2 =>
  opnN v1
  (C_slices_SortFunc_disk_owned_disk_owned #[.slice s9 s9n s9c, .func (.func 126) #[] #[]] w2 fun v5 w6 =>
  opnT (some v5) fun x7 =>
  x7.size = 0 ∧
  N_p_disk_Disk_Crash.j22 Q s0 s5c0 s6 s10 s9 s9n s9c ((s9n : Nat) : Int) 0 w6)
  fun k3 x4 =>
  opnS (some k3) fun x8 =>
  opnP (some x4) fun x9 =>
  sem PP (Instr.entry (.pointer (some s54))) w2 fun v10 w11 =>
  opnT (some v10) fun x12 =>
  x12.size = 2 ∧
  opnS (x12[0]?) fun x13 =>
  opnP (x12[1]?) fun x14 =>
  opnA x14 fun ad15 =>
  opnL (w11.cell? (ad15.add 1)) fun x16 x16n x16c =>
  C_slices_Clone_byte_byte #[.slice x16 x16n x16c] w11 fun v17 w18 =>
  opnL (some v17) fun x19 x19n x19c =>
  alC #[.slice x19 x19n x19c, .slice none 0 0, .slice none 0 0] 114 w18 fun p20 w21 =>
  semU PP (Instr.mapUpdate 190 (.map s10) (.pointer x14) (.pointer (some p20))) w21 fun w22 =>
  opnA x14 fun ad23 =>
  opnL (w22.cell? (ad23.add 2)) fun x24 x24n x24c =>
  N_p_disk_Disk_Crash.j16 Q s0 s5c0 s6 s9 s9n s9c s10 x14 s54 x24 x24n x24c ((x24n : Nat) : Int) 0 w22) :
N_p_disk_Disk_Crash.j12 Q s0 s5c0 s6 s9 s9n s9c s10 s54 w := Nd_fold K_p_disk_Disk_Crash (by kernel_rfl) h
theorem N_p_disk_Disk_Crash.j16_eq (Q : Value → World → Prop) (s0 : Option Addr) (s5c0 : Addr) (s6 : Option Nat) (s9 : Option Addr) (s9n : Nat) (s9c : Nat) (s10 : Option Nat) (s12 : Option Addr) (s54 : Addr) (s71 : Option Addr) (s71n : Nat) (s71c : Nat) (s72 : Int) (s73 : Int) (w : World) (h :
  cond (decide (s73 < s72))
  ((0 : Int) ≤ s73 ∧
  s73 < ((s71n : Nat) : Int) ∧
  opnA s71 fun ad1 =>
  opnI .i64 (w.cell? ((ad1.add (Int.toNat s73 * 3)).add 0)) fun x2 =>
  opnI .i64 (w.cell? ((ad1.add (Int.toNat s73 * 3)).add 1)) fun x3 =>
  opnL (w.cell? ((ad1.add (Int.toNat s73 * 3)).add 2)) fun x4 x4n x4c =>
  alC #[.int .i64 0, .int .i64 0, .slice none 0 0] 187 w fun p5 w6 =>
  Array.size (#[.int .i64 x2, .int .i64 x3, .slice x4 x4n x4c] : Array Value) = 3 ∧
  stC (p5.add 0) (.int .i64 x2) w6 fun w7 =>
  stC (p5.add 1) (.int .i64 x3) w7 fun w8 =>
  stC (p5.add 2) (.slice x4 x4n x4c) w8 fun w9 =>
  opnI .i64 (w9.cell? (p5.add 0)) fun x10 =>
  opnI .i64 (w9.cell? (p5.add 1)) fun x11 =>
  opnL (w9.cell? (p5.add 2)) fun x12 x12n x12c =>
  alC #[.pointer s12, .int .i64 x10, .int .i64 x11, .slice x12 x12n x12c] 192 w9 fun p13 w14 =>
  sem PP (Builtin.append_ #[189, 189] 189 #[.slice s9 s9n s9c, .slice (some p13) 1 1]) w14 fun v15 w16 =>
  opnL (some v15) fun x17 x17n x17c =>
  N_p_disk_Disk_Crash.j16 Q s0 s5c0 s6 x17 x17n x17c s10 s12 s54 s71 s71n s71c s72 (IntKind.wrap .i64 (s73 + 1)) w16)
  (N_p_disk_Disk_Crash.j12 Q s0 s5c0 s6 s9 s9n s9c s10 s54 w)) :
N_p_disk_Disk_Crash.j16 Q s0 s5c0 s6 s9 s9n s9c s10 s12 s54 s71 s71n s71c s72 s73 w := Nd_fold K_p_disk_Disk_Crash (by kernel_rfl) h
theorem N_p_disk_Disk_Crash.j22_eq (Q : Value → World → Prop) (s0 : Option Addr) (s5c0 : Addr) (s6 : Option Nat) (s10 : Option Nat) (s86 : Option Addr) (s86n : Nat) (s86c : Nat) (s87 : Int) (s88 : Int) (w : World) (h :
  cond (decide (s88 < s87))
  ((0 : Int) ≤ s88 ∧
  s88 < ((s86n : Nat) : Int) ∧
  opnA s86 fun ad1 =>
  opnP (w.cell? ((ad1.add (Int.toNat s88 * 4)).add 0)) fun x2 =>
  opnI .i64 (w.cell? ((ad1.add (Int.toNat s88 * 4)).add 1)) fun x3 =>
  opnI .i64 (w.cell? ((ad1.add (Int.toNat s88 * 4)).add 2)) fun x4 =>
  opnL (w.cell? ((ad1.add (Int.toNat s88 * 4)).add 3)) fun x5 x5n x5c =>
  alC #[.pointer none, .int .i64 0, .int .i64 0, .slice none 0 0] 192 w fun p6 w7 =>
  Array.size (#[.pointer x2, .int .i64 x3, .int .i64 x4, .slice x5 x5n x5c] : Array Value) = 4 ∧
  stC (p6.add 0) (.pointer x2) w7 fun w8 =>
  stC (p6.add 1) (.int .i64 x3) w8 fun w9 =>
  stC (p6.add 2) (.int .i64 x4) w9 fun w10 =>
  stC (p6.add 3) (.slice x5 x5n x5c) w10 fun w11 =>
  opnP (w11.cell? (p6.add 0)) fun x12 =>
  semR PP (Instr.lookup 190 (.map s10) (.pointer x12) false) w11 fun x13 =>
  opnP (some x13) fun x14 =>
  drw w11 fun w15 =>
  opnA x14 fun ad16 =>
  opnL (w15.cell? (ad16.add 0)) fun x17 x17n x17c =>
  opnI .i64 (w15.cell? ((p6.add 1).add 1)) fun x18 =>
  opnL (w15.cell? ((p6.add 1).add 2)) fun x19 x19n x19c =>
  opnL (w15.cell? ((p6.add 1).add 2)) fun x20 x20n x20c =>
  C_p_disk_Disk_Crash_S1 #[.int .i64 ((x20n : Nat) : Int), .pointer (some s5c0)] w15 fun v21 w22 =>
  opnI .i64 (some v21) fun x23 =>
  (opnL (w22.cell? ((p6.add 1).add 2)) fun x24 x24n x24c =>
  ((.slice x24 x24n x24c) : Value) = .slice x19 x19n x19c) ∧
  (opnI .i64 (w22.cell? ((p6.add 1).add 1)) fun x25 =>
  ((.int .i64 x25) : Value) = .int .i64 x18) ∧
  (opnL (w22.cell? (ad16.add 0)) fun x26 x26n x26c =>
  ((.slice x26 x26n x26c) : Value) = .slice x17 x17n x17c) ∧
  (0 : Int) ≤ x23 ∧
  x23 ≤ ((x19c : Nat) : Int) ∧
  C_disk_laid #[.slice x17 x17n x17c, .int .i64 x18, .slice (slA x19 0 x19c 1) ((Int.toNat x23) - 0) (x19c - 0)] w22 fun v27 w28 =>
  opnL (some v27) fun x29 x29n x29c =>
  opnA x14 fun ad30 =>
  stC (ad30.add 0) (.slice x29 x29n x29c) w28 fun w31 =>
  N_p_disk_Disk_Crash.j22 Q s0 s5c0 s6 s10 s86 s86n s86c s87 (IntKind.wrap .i64 (s88 + 1)) w31)
  (opnA s0 fun ad32 =>
  opnI .i64 (w.cell? (ad32.add 0)) fun x33 =>
  alM w fun r34 w35 =>
  alC #[.int .i64 x33, .map (some r34), .map none, .slice none 0 0, .int .i64 0, .int .i64 0, .int .i64 0, .int .i64 0, .bool false] 119 w35 fun p36 w37 =>
  sem PP (Instr.range 116 (.map s6)) w37 fun v38 w39 =>
  opnP (some v38) fun x40 =>
  opnA x40 fun ad41 =>
  N_p_disk_Disk_Crash.j29 Q s6 s10 p36 ad41 w39)) :
N_p_disk_Disk_Crash.j22 Q s0 s5c0 s6 s10 s86 s86n s86c s87 s88 w := Nd_fold K_p_disk_Disk_Crash (by kernel_rfl) h
theorem N_p_disk_Disk_Crash.j29_eq (Q : Value → World → Prop) (s6 : Option Nat) (s10 : Option Nat) (s18 : Addr) (s126 : Addr) (w : World) (h :
  sem PP (Instr.next (.pointer (some s126)) false 0) w fun v1 w2 =>
  opnN v1
  (opnM (w2.cell? (s18.add 1)) fun x5 =>
  C_maps_Clone_map_string_disk_content_string_disk_content #[.map x5] w2 fun v6 w7 =>
  opnM (some v6) fun x8 =>
  stC (s18.add 2) (.map x8) w7 fun w9 =>
  sem PP (Builtin.clear_ #[116] 0 #[.map s6]) w9 fun v10 w11 =>
  Q (.pointer (some s18)) w11)
  fun k3 x4 =>
  opnS (some k3) fun x12 =>
  opnP (some x4) fun x13 =>
  sem PP (Instr.entry (.pointer (some s126))) w2 fun v14 w15 =>
  opnT (some v14) fun x16 =>
  x16.size = 2 ∧
  opnS (x16[0]?) fun x17 =>
  opnP (x16[1]?) fun x18 =>
  drw w15 fun w19 =>
  semR PP (Instr.lookup 190 (.map s10) (.pointer x18) false) w19 fun x20 =>
  opnP (some x20) fun x21 =>
  semR PP (Instr.lookup 190 (.map s10) (.pointer x18) false) w19 fun x22 =>
  opnP (some x22) fun x23 =>
  opnA x23 fun ad24 =>
  opnL (w19.cell? (ad24.add 0)) fun x25 x25n x25c =>
  C_slices_Clone_byte_byte #[.slice x25 x25n x25c] w19 fun v26 w27 =>
  opnL (some v26) fun x28 x28n x28c =>
  (semR PP (Instr.lookup 190 (.map s10) (.pointer x18) false) w27 fun x29 =>
  opnP (some x29) fun x30 =>
  ((.pointer x30) : Value) = .pointer x21) ∧
  opnA x21 fun ad31 =>
  stC (ad31.add 1) (.slice x28 x28n x28c) w27 fun w32 =>
  drw w32 fun w33 =>
  opnM (w33.cell? (s18.add 1)) fun x34 =>
  semR PP (Instr.lookup 190 (.map s10) (.pointer x18) false) w33 fun x35 =>
  opnP (some x35) fun x36 =>
  semU PP (Instr.mapUpdate 116 (.map x34) (.string x17) (.pointer x36)) w33 fun w37 =>
  N_p_disk_Disk_Crash.j29 Q s6 s10 s18 s126 w37) :
N_p_disk_Disk_Crash.j29 Q s6 s10 s18 s126 w := Nd_fold K_p_disk_Disk_Crash (by kernel_rfl) h
theorem C_p_disk_Disk_Crash_eq (Q : Value → World → Prop) (a0 : Option Addr) (a1 : Option Addr) (a1n : Nat) (a1c : Nat) (w : World) (h :
  alC #[.slice a1 a1n a1c] 49 w fun p1 w2 =>
  opnA a0 fun ad3 =>
  stC (ad3.add 8) (.bool true) w2 fun w4 =>
  opnA a0 fun ad5 =>
  opnM (w4.cell? (ad5.add 2)) fun x6 =>
  C_maps_Clone_map_string_disk_content_string_disk_content #[.map x6] w4 fun v7 w8 =>
  opnM (some v7) fun x9 =>
  drw w8 fun w10 =>
  opnA a0 fun ad11 =>
  opnA a0 fun ad12 =>
  opnL (w10.cell? (ad11.add 3)) fun x13 x13n x13c =>
  opnL (w10.cell? (ad12.add 3)) fun x14 x14n x14c =>
  C_p_disk_Disk_Crash_S1 #[.int .i64 ((x14n : Nat) : Int), .pointer (some p1)] w10 fun v15 w16 =>
  opnI .i64 (some v15) fun x17 =>
  (opnL (w16.cell? (ad11.add 3)) fun x18 x18n x18c =>
  ((.slice x18 x18n x18c) : Value) = .slice x13 x13n x13c) ∧
  (0 : Int) ≤ x17 ∧
  x17 ≤ ((x13c : Nat) : Int) ∧
  N_p_disk_Disk_Crash.j5 Q a0 p1 x9 (slA x13 0 x13c 1) ((Int.toNat x17) - 0) (x13c - 0) (((Int.toNat x17) - 0 : Nat) : Int) 0 w16) :
C_p_disk_Disk_Crash #[.pointer a0, .slice a1 a1n a1c] w Q := C_fold K_p_disk_Disk_Crash (by kernel_rfl) h
noncomputable def B_disk_bounded : Code := match Tryz.f76.body with | some c => c | _ => .skip
noncomputable def X_disk_bounded : Cx := { P := PP, fn := 76, N := 9, tab := tab, results := [.tmp 2], iter := fun _ => (.none, .none), dyn := fun _ => false, live := fun _ => none }
theorem K_disk_bounded : OkF X_disk_bounded B_disk_bounded Tryz.f76 := ⟨⟨tab_ok, mix_ok⟩, Tryz.func76, by kernel_rfl, by kernel_rfl, by kernel_rfl, by kernel_rfl⟩
theorem C_disk_bounded_eq (Q : Value → World → Prop) (a0 : Int) (w : World) (h :
  cond (decide (a0 ≥ 0))
  (Q (.bool (decide (a0 ≤ 1099511627776))) w)
  (Q (.bool false) w)) :
C_disk_bounded #[.int .i64 a0] w Q := C_fold K_disk_bounded (by kernel_rfl) h
end Go.Proofs.YtcigjlbpdkkflaaGreatDoor
