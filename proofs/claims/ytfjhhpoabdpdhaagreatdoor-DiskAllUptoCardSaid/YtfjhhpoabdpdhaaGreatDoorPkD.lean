/- ShF3, ShF4, DkNamed, DkWord1, DkAct, DkRename, DkRep, DkCreate, DkWrite, DkSync -/
import Derived.Test.YtfjhhpoabdpdhaaGreatDoorPkB
import Derived.Test.YtfjhhpoabdpdhaaGreatDoorPkC
import Derived.Laws.IdiomCopy
set_option maxRecDepth 100000
namespace Go.Proofs.YtfjhhpoabdpdhaaGreatDoor
open Go.Sh
noncomputable def B_p_disk_Disk_Write_S2 : Code := match Tryz.f50.body with | some c => c | _ => .skip
noncomputable def X_p_disk_Disk_Write_S2 : Cx := { P := PP, fn := 50, N := 48, tab := tab, results := [], iter := fun _ => (.none, .none), dyn := fun _ => false, live := fun _ => none }
theorem K_p_disk_Disk_Write_S2 : OkF X_p_disk_Disk_Write_S2 B_p_disk_Disk_Write_S2 Tryz.f50 := ⟨⟨tab_ok, mix_ok⟩, Tryz.func50, by kernel_rfl, by kernel_rfl, by kernel_rfl, by kernel_rfl⟩
theorem C_p_disk_Disk_Write_S2_eq (Q : Value → World → Prop) (f0 : Addr) (f1 : Addr) (f2 : Addr) (f3 : Addr) (w : World) (h :
  opnL (w.cell? f0) fun x1 x1n x1c =>
  cond (((x1n : Nat) : Int) == 0)
  (Q (.tuple #[]) w)
  (drw w fun w2 =>
  opnP (w2.cell? f1) fun x3 =>
  opnA x3 fun ad4 =>
  opnM (w2.cell? (ad4.add 1)) fun x5 =>
  opnS (w2.cell? f2) fun x6 =>
  semR PP (Instr.lookup 80 (.map x5) (.string x6) false) w2 fun x7 =>
  opnP (some x7) fun x8 =>
  drw w2 fun w9 =>
  opnA x8 fun ad10 =>
  opnL (w9.cell? (ad10.add 0)) fun x11 x11n x11c =>
  opnI .i64 (w9.cell? f3) fun x12 =>
  opnL (w9.cell? f0) fun x13 x13n x13c =>
  C_disk_laid #[.slice x11 x11n x11c, .int .i64 x12, .slice x13 x13n x13c] w9 fun v14 w15 =>
  opnL (some v14) fun x16 x16n x16c =>
  opnA x8 fun ad17 =>
  stC (ad17.add 0) (.slice x16 x16n x16c) w15 fun w18 =>
  drw w18 fun w19 =>
  opnA x8 fun ad20 =>
  opnL (w19.cell? (ad20.add 2)) fun x21 x21n x21c =>
  opnP (w19.cell? f1) fun x22 =>
  opnA x22 fun ad23 =>
  opnI .i64 (w19.cell? (ad23.add 4)) fun x24 =>
  opnI .i64 (w19.cell? f3) fun x25 =>
  opnL (w19.cell? f0) fun x26 x26n x26c =>
  C_slices_Clone_byte_byte #[.slice x26 x26n x26c] w19 fun v27 w28 =>
  opnL (some v27) fun x29 x29n x29c =>
  (opnI .i64 (w28.cell? f3) fun x30 =>
  ((.int .i64 x30) : Value) = .int .i64 x25) ∧
  (opnI .i64 (w28.cell? (ad23.add 4)) fun x31 =>
  ((.int .i64 x31) : Value) = .int .i64 x24) ∧
  (opnP (w28.cell? f1) fun x32 =>
  ((.pointer x32) : Value) = .pointer x22) ∧
  (opnL (w28.cell? (ad20.add 2)) fun x33 x33n x33c =>
  ((.slice x33 x33n x33c) : Value) = .slice x21 x21n x21c) ∧
  alC #[.int .i64 x24, .int .i64 x25, .slice x29 x29n x29c] 94 w28 fun p34 w35 =>
  (opnL (w35.cell? (ad20.add 2)) fun x36 x36n x36c =>
  ((.slice x36 x36n x36c) : Value) = .slice x21 x21n x21c) ∧
  sem PP (Builtin.append_ #[87, 87] 87 #[.slice x21 x21n x21c, .slice (some p34) 1 1]) w35 fun v37 w38 =>
  opnL (some v37) fun x39 x39n x39c =>
  opnA x8 fun ad40 =>
  stC (ad40.add 2) (.slice x39 x39n x39c) w38 fun w41 =>
  opnP (w41.cell? f1) fun x42 =>
  opnA x42 fun ad43 =>
  opnI .i64 (w41.cell? (ad43.add 4)) fun x44 =>
  opnA x42 fun ad45 =>
  stC (ad45.add 4) (.int .i64 (IntKind.wrap .i64 (x44 + 1))) w41 fun w46 =>
  Q (.tuple #[]) w46)) :
C_p_disk_Disk_Write_S2 #[.pointer (some f0), .pointer (some f1), .pointer (some f2), .pointer (some f3)] w Q := C_fold K_p_disk_Disk_Write_S2 (by kernel_rfl) h
noncomputable def B_disk_laid : Code := match Tryz.f51.body with | some c => c | _ => .skip
noncomputable def X_disk_laid : Cx := { P := PP, fn := 51, N := 30, tab := tab, results := [.tmp 6], iter := fun _ => (.none, .none), dyn := fun _ => false, live := fun r => cond (Nat.beq r 6) (some [0, 1, 2]) (cond (Nat.beq r 7) (some [0]) (none)) }
theorem K_disk_laid : OkF X_disk_laid B_disk_laid Tryz.f51 := ⟨⟨tab_ok, mix_ok⟩, Tryz.func51, by kernel_rfl, by kernel_rfl, by kernel_rfl, by kernel_rfl⟩
noncomputable def N_disk_laid.j6 (Q : Value → World → Prop) (s0 : Option Addr) (s0n : Nat) (s0c : Nat) (s1 : Int) (s2 : Option Addr) (s2n : Nat) (s2c : Nat) (w : World) : Prop := Nd X_disk_laid Q [(0, 0, .slice s0 s0n s0c), (1, 1, .int .i64 s1), (2, 2, .slice s2 s2n s2c)] [.code (B_disk_laid.r.r.r.l), .code (B_disk_laid.r.r.r.r)] w
noncomputable def N_disk_laid.j7 (Q : Value → World → Prop) (s0 : Option Addr) (s0n : Nat) (s0c : Nat) (w : World) : Prop := Nd X_disk_laid Q [(0, 0, .slice s0 s0n s0c)] [.code (B_disk_laid.r.r.r.r.l), .code (B_disk_laid.r.r.r.r.r)] w
theorem N_disk_laid.j6_eq (Q : Value → World → Prop) (s0 : Option Addr) (s0n : Nat) (s0c : Nat) (s1 : Int) (s2 : Option Addr) (s2n : Nat) (s2c : Nat) (w : World) (h :
  (0 : Int) ≤ s1 ∧
  s1 ≤ ((s0n : Nat) : Int) ∧
  sem PP (Builtin.copy_ #[23, 23] 3 #[.slice (slA s0 (Int.toNat s1) s0c 1) (s0n - (Int.toNat s1)) (s0c - (Int.toNat s1)), .slice s2 s2n s2c]) w fun v1 w2 =>
  opnI .i64 (some v1) fun x3 =>
  N_disk_laid.j7 Q s0 s0n s0c w2) :
N_disk_laid.j6 Q s0 s0n s0c s1 s2 s2n s2c w := Nd_fold K_disk_laid (by kernel_rfl) h
theorem N_disk_laid.j7_eq (Q : Value → World → Prop) (s0 : Option Addr) (s0n : Nat) (s0c : Nat) (w : World) (h :
  Q (.slice s0 s0n s0c) w) :
N_disk_laid.j7 Q s0 s0n s0c w := Nd_fold K_disk_laid (by kernel_rfl) h
theorem C_disk_laid_eq (Q : Value → World → Prop) (a0 : Option Addr) (a0n : Nat) (a0c : Nat) (a1 : Int) (a2 : Option Addr) (a2n : Nat) (a2c : Nat) (w : World) (h :
  cond (((a2n : Nat) : Int) == 0)
  (Q (.slice a0 a0n a0c) w)
  (cond (decide ((IntKind.wrap .i64 ((IntKind.wrap .i64 (a1 + ((a2n : Nat) : Int))) - ((a0n : Nat) : Int))) > 0))
  (sem PP (Builtin.append_ #[23, 3] 23 #[.slice a0 a0n a0c, .int .i64 (IntKind.wrap .i64 ((IntKind.wrap .i64 (a1 + ((a2n : Nat) : Int))) - ((a0n : Nat) : Int)))]) w fun v1 w2 =>
  opnL (some v1) fun x3 x3n x3c =>
  N_disk_laid.j6 Q x3 x3n x3c a1 a2 a2n a2c w2)
  (N_disk_laid.j6 Q a0 a0n a0c a1 a2 a2n a2c w))) :
C_disk_laid #[.slice a0 a0n a0c, .int .i64 a1, .slice a2 a2n a2c] w Q := C_fold K_disk_laid (by kernel_rfl) h
noncomputable def B_slices_Clone_byte_byte : Code := match Tryz.f52.body with | some c => c | _ => .skip
noncomputable def X_slices_Clone_byte_byte : Cx := { P := PP, fn := 52, N := 8, tab := tab, results := [.tmp 2], iter := fun _ => (.none, .none), dyn := fun _ => false, live := fun _ => none }
theorem K_slices_Clone_byte_byte : OkF X_slices_Clone_byte_byte B_slices_Clone_byte_byte Tryz.f52 := ⟨⟨tab_ok, mix_ok⟩, Tryz.func52, by kernel_rfl, by kernel_rfl, by kernel_rfl, by kernel_rfl⟩
theorem C_slices_Clone_byte_byte_eq (Q : Value → World → Prop) (a0 : Option Addr) (a0n : Nat) (a0c : Nat) (w : World) (h :
  cond a0.isNone
  (Q (.slice none 0 0) w)
  (alC #[] 5 w fun p1 w2 =>
  sem PP (Builtin.append_ #[23, 23] 23 #[.slice (some p1) 0 0, .slice a0 a0n a0c]) w2 fun v3 w4 =>
  opnL (some v3) fun x5 x5n x5c =>
  Q (.slice x5 x5n x5c) w4)) :
C_slices_Clone_byte_byte #[.slice a0 a0n a0c] w Q := C_fold K_slices_Clone_byte_byte (by kernel_rfl) h
noncomputable def B_p_disk_Disk_Sync_S1 : Code := match Tryz.f53.body with | some c => c | _ => .skip
noncomputable def X_p_disk_Disk_Sync_S1 : Cx := { P := PP, fn := 53, N := 6, tab := tab, results := [.tmp 2], iter := fun _ => (.none, .none), dyn := fun _ => false, live := fun _ => none }
theorem K_p_disk_Disk_Sync_S1 : OkF X_p_disk_Disk_Sync_S1 B_p_disk_Disk_Sync_S1 Tryz.f53 := ⟨⟨tab_ok, mix_ok⟩, Tryz.func53, by kernel_rfl, by kernel_rfl, by kernel_rfl, by kernel_rfl⟩
theorem C_p_disk_Disk_Sync_S1_eq (Q : Value → World → Prop) (f0 : Addr) (f1 : Addr) (w : World) (h :
  opnP (w.cell? f0) fun x1 =>
  opnS (w.cell? f1) fun x2 =>
  C_p_disk_Disk_there #[.pointer x1, .string x2] w fun v3 w4 =>
  opnI .i64 (some v3) fun x5 =>
  Q (.int .i64 x5) w4) :
C_p_disk_Disk_Sync_S1 #[.pointer (some f0), .pointer (some f1)] w Q := C_fold K_p_disk_Disk_Sync_S1 (by kernel_rfl) h
noncomputable def B_p_disk_Disk_Sync_S2 : Code := match Tryz.f54.body with | some c => c | _ => .skip
noncomputable def X_p_disk_Disk_Sync_S2 : Cx := { P := PP, fn := 54, N := 20, tab := tab, results := [], iter := fun _ => (.none, .none), dyn := fun _ => false, live := fun _ => none }
theorem K_p_disk_Disk_Sync_S2 : OkF X_p_disk_Disk_Sync_S2 B_p_disk_Disk_Sync_S2 Tryz.f54 := ⟨⟨tab_ok, mix_ok⟩, Tryz.func54, by kernel_rfl, by kernel_rfl, by kernel_rfl, by kernel_rfl⟩
theorem C_p_disk_Disk_Sync_S2_eq (Q : Value → World → Prop) (f0 : Addr) (f1 : Addr) (w : World) (h :
  drw w fun w1 =>
  opnP (w1.cell? f0) fun x2 =>
  opnA x2 fun ad3 =>
  opnM (w1.cell? (ad3.add 1)) fun x4 =>
  opnS (w1.cell? f1) fun x5 =>
  semR PP (Instr.lookup 80 (.map x4) (.string x5) false) w1 fun x6 =>
  opnP (some x6) fun x7 =>
  opnA x7 fun ad8 =>
  opnL (w1.cell? (ad8.add 0)) fun x9 x9n x9c =>
  C_slices_Clone_byte_byte #[.slice x9 x9n x9c] w1 fun v10 w11 =>
  opnL (some v10) fun x12 x12n x12c =>
  opnA x7 fun ad13 =>
  stC (ad13.add 1) (.slice x12 x12n x12c) w11 fun w14 =>
  opnA x7 fun ad15 =>
  stC (ad15.add 2) (.slice none 0 0) w14 fun w16 =>
  Q (.tuple #[]) w16) :
C_p_disk_Disk_Sync_S2 #[.pointer (some f0), .pointer (some f1)] w Q := C_fold K_p_disk_Disk_Sync_S2 (by kernel_rfl) h
noncomputable def B_p_disk_Disk_SyncNames_S1 : Code := match Tryz.f55.body with | some c => c | _ => .skip
noncomputable def X_p_disk_Disk_SyncNames_S1 : Cx := { P := PP, fn := 55, N := 1, tab := tab, results := [.tmp 0], iter := fun _ => (.none, .none), dyn := fun _ => false, live := fun _ => none }
theorem K_p_disk_Disk_SyncNames_S1 : OkF X_p_disk_Disk_SyncNames_S1 B_p_disk_Disk_SyncNames_S1 Tryz.f55 := ⟨⟨tab_ok, mix_ok⟩, Tryz.func55, by kernel_rfl, by kernel_rfl, by kernel_rfl, by kernel_rfl⟩
theorem C_p_disk_Disk_SyncNames_S1_eq (Q : Value → World → Prop) (w : World) (h :
  Q (.int .i64 0) w) :
C_p_disk_Disk_SyncNames_S1 #[] w Q := C_fold K_p_disk_Disk_SyncNames_S1 (by kernel_rfl) h
noncomputable def B_p_disk_Disk_SyncNames_S2 : Code := match Tryz.f56.body with | some c => c | _ => .skip
noncomputable def X_p_disk_Disk_SyncNames_S2 : Cx := { P := PP, fn := 56, N := 12, tab := tab, results := [], iter := fun _ => (.none, .none), dyn := fun _ => false, live := fun _ => none }
theorem K_p_disk_Disk_SyncNames_S2 : OkF X_p_disk_Disk_SyncNames_S2 B_p_disk_Disk_SyncNames_S2 Tryz.f56 := ⟨⟨tab_ok, mix_ok⟩, Tryz.func56, by kernel_rfl, by kernel_rfl, by kernel_rfl, by kernel_rfl⟩
theorem C_p_disk_Disk_SyncNames_S2_eq (Q : Value → World → Prop) (f0 : Addr) (w : World) (h :
  drw w fun w1 =>
  opnP (w1.cell? f0) fun x2 =>
  opnP (w1.cell? f0) fun x3 =>
  opnP (w1.cell? f0) fun x4 =>
  opnA x4 fun ad5 =>
  opnM (w1.cell? (ad5.add 1)) fun x6 =>
  C_maps_Clone_map_string_disk_content_string_disk_content #[.map x6] w1 fun v7 w8 =>
  opnM (some v7) fun x9 =>
  (opnP (w8.cell? f0) fun x10 =>
  ((.pointer x10) : Value) = .pointer x3) ∧
  (opnP (w8.cell? f0) fun x11 =>
  ((.pointer x11) : Value) = .pointer x2) ∧
  opnA x2 fun ad12 =>
  stC (ad12.add 2) (.map x9) w8 fun w13 =>
  (opnP (w13.cell? f0) fun x14 =>
  ((.pointer x14) : Value) = .pointer x3) ∧
  opnA x3 fun ad15 =>
  stC (ad15.add 3) (.slice none 0 0) w13 fun w16 =>
  Q (.tuple #[]) w16) :
C_p_disk_Disk_SyncNames_S2 #[.pointer (some f0)] w Q := C_fold K_p_disk_Disk_SyncNames_S2 (by kernel_rfl) h
noncomputable def B_p_disk_Disk_Rename_S1 : Code := match Tryz.f58.body with | some c => c | _ => .skip
noncomputable def X_p_disk_Disk_Rename_S1 : Cx := { P := PP, fn := 58, N := 10, tab := tab, results := [.tmp 3], iter := fun _ => (.none, .none), dyn := fun _ => false, live := fun _ => none }
theorem K_p_disk_Disk_Rename_S1 : OkF X_p_disk_Disk_Rename_S1 B_p_disk_Disk_Rename_S1 Tryz.f58 := ⟨⟨tab_ok, mix_ok⟩, Tryz.func58, by kernel_rfl, by kernel_rfl, by kernel_rfl, by kernel_rfl⟩
theorem C_p_disk_Disk_Rename_S1_eq (Q : Value → World → Prop) (f0 : Addr) (f1 : Addr) (f2 : Addr) (w : World) (h :
  opnS (w.cell? f0) fun x1 =>
  C_disk_named #[.string x1] w fun v2 w3 =>
  opnB (some v2) fun x4 =>
  cond (!x4)
  (Q (.int .i64 120) w3)
  (opnP (w3.cell? f1) fun x5 =>
  opnS (w3.cell? f2) fun x6 =>
  C_p_disk_Disk_there #[.pointer x5, .string x6] w3 fun v7 w8 =>
  opnI .i64 (some v7) fun x9 =>
  Q (.int .i64 x9) w8)) :
C_p_disk_Disk_Rename_S1 #[.pointer (some f0), .pointer (some f1), .pointer (some f2)] w Q := C_fold K_p_disk_Disk_Rename_S1 (by kernel_rfl) h
noncomputable def B_p_disk_Disk_Rename_S2 : Code := match Tryz.f59.body with | some c => c | _ => .skip
noncomputable def X_p_disk_Disk_Rename_S2 : Cx := { P := PP, fn := 59, N := 6, tab := tab, results := [], iter := fun _ => (.none, .none), dyn := fun _ => false, live := fun _ => none }
theorem K_p_disk_Disk_Rename_S2 : OkF X_p_disk_Disk_Rename_S2 B_p_disk_Disk_Rename_S2 Tryz.f59 := ⟨⟨tab_ok, mix_ok⟩, Tryz.func59, by kernel_rfl, by kernel_rfl, by kernel_rfl, by kernel_rfl⟩
theorem C_p_disk_Disk_Rename_S2_eq (Q : Value → World → Prop) (f0 : Addr) (f1 : Addr) (f2 : Addr) (w : World) (h :
  opnP (w.cell? f0) fun x1 =>
  C_p_disk_Disk_rename #[.pointer x1, .func (.func 60) #[] #[.pointer (some f1), .pointer (some f2)]] w fun v2 w3 =>
  opnT (some v2) fun x4 =>
  x4.size = 0 ∧
  Q (.tuple #[]) w3) :
C_p_disk_Disk_Rename_S2 #[.pointer (some f0), .pointer (some f1), .pointer (some f2)] w Q := C_fold K_p_disk_Disk_Rename_S2 (by kernel_rfl) h
noncomputable def B_p_disk_Disk_Rename_S2_S1 : Code := match Tryz.f60.body with | some c => c | _ => .skip
noncomputable def X_p_disk_Disk_Rename_S2_S1 : Cx := { P := PP, fn := 60, N := 13, tab := tab, results := [], iter := fun _ => (.none, .none), dyn := fun _ => false, live := fun _ => none }
theorem K_p_disk_Disk_Rename_S2_S1 : OkF X_p_disk_Disk_Rename_S2_S1 B_p_disk_Disk_Rename_S2_S1 Tryz.f60 := ⟨⟨tab_ok, mix_ok⟩, Tryz.func60, by kernel_rfl, by kernel_rfl, by kernel_rfl, by kernel_rfl⟩
theorem C_p_disk_Disk_Rename_S2_S1_eq (Q : Value → World → Prop) (a0 : Option Nat) (f0 : Addr) (f1 : Addr) (w : World) (h :
  opnS (w.cell? f0) fun x1 =>
  semR PP (Instr.lookup 80 (.map a0) (.string x1) false) w fun x2 =>
  opnP (some x2) fun x3 =>
  opnS (w.cell? f0) fun x4 =>
  sem PP (Builtin.delete_ #[80, 9] 0 #[.map a0, .string x4]) w fun v5 w6 =>
  opnS (w6.cell? f1) fun x7 =>
  semU PP (Instr.mapUpdate 80 (.map a0) (.string x7) (.pointer x3)) w6 fun w8 =>
  Q (.tuple #[]) w8) :
C_p_disk_Disk_Rename_S2_S1 #[.map a0, .pointer (some f0), .pointer (some f1)] w Q := C_fold K_p_disk_Disk_Rename_S2_S1 (by kernel_rfl) h
noncomputable def B_disk_Load : Code := match Tryz.f61.body with | some c => c | _ => .skip
noncomputable def X_disk_Load : Cx := { P := PP, fn := 61, N := 73, tab := tab, results := [.tmp 4, .tmp 5], iter := fun _ => (.none, .none), dyn := fun _ => false, live := fun r => cond (Nat.beq r 5) (some [0, 1, 6, 20, 21, 22]) (cond (Nat.beq r 11) (some [0, 6, 31, 32, 33]) (none)) }
theorem K_disk_Load : OkF X_disk_Load B_disk_Load Tryz.f61 := ⟨⟨tab_ok, mix_ok⟩, Tryz.func61, by kernel_rfl, by kernel_rfl, by kernel_rfl, by kernel_rfl⟩
noncomputable def N_disk_Load.j5 (Q : Value → World → Prop) (s0 : Int) (s1 : Option Addr) (s1n : Nat) (s1c : Nat) (s6 : Option Addr) (s20 : Option Addr) (s20n : Nat) (s20c : Nat) (s21 : Int) (s22 : Int) (w : World) : Prop := Nd X_disk_Load Q [(0, 0, .int .i64 s0), (1, 1, .slice s1 s1n s1c), (6, 6, .pointer s6), (20, 20, .slice s20 s20n s20c), (21, 21, .int .i64 s21), (22, 22, .int .i64 s22)] [.code (B_disk_Load.r.r.r.l.r.l.l.l), .code (B_disk_Load.r.r.r.l.r.l.l.r), .inLoop (B_disk_Load.r.r.r.l.r.l.l), .inBlock 0, .code (B_disk_Load.r.r.r.r)] w
noncomputable def N_disk_Load.j11 (Q : Value → World → Prop) (s0 : Int) (s6 : Option Addr) (s31 : Option Addr) (s31n : Nat) (s31c : Nat) (s32 : Int) (s33 : Int) (w : World) : Prop := Nd X_disk_Load Q [(0, 0, .int .i64 s0), (6, 6, .pointer s6), (31, 31, .slice s31 s31n s31c), (32, 32, .int .i64 s32), (33, 33, .int .i64 s33)] [.code (B_disk_Load.r.r.r.r.l.r.l.l.l), .code (B_disk_Load.r.r.r.r.l.r.l.l.r), .inLoop (B_disk_Load.r.r.r.r.l.r.l.l), .inBlock 2, .code (B_disk_Load.r.r.r.r.r)] w
theorem N_disk_Load.j5_eq (Q : Value → World → Prop) (s0 : Int) (s1 : Option Addr) (s1n : Nat) (s1c : Nat) (s6 : Option Addr) (s20 : Option Addr) (s20n : Nat) (s20c : Nat) (s21 : Int) (s22 : Int) (w : World) (h :
  cond (decide (s22 < s21))
  ((0 : Int) ≤ s22 ∧
  s22 < ((s20n : Nat) : Int) ∧
  opnA s20 fun ad1 =>
  opnS (w.cell? ((ad1.add (Int.toNat s22 * 2)).add 0)) fun x2 =>
  opnL (w.cell? ((ad1.add (Int.toNat s22 * 2)).add 1)) fun x3 x3n x3c =>
  alC #[.string (⟨#[]⟩ : ByteArray), .slice none 0 0] 42 w fun p4 w5 =>
  Array.size (#[.string x2, .slice x3 x3n x3c] : Array Value) = 2 ∧
  stC (p4.add 0) (.string x2) w5 fun w6 =>
  stC (p4.add 1) (.slice x3 x3n x3c) w6 fun w7 =>
  opnS (w7.cell? (p4.add 0)) fun x8 =>
  C_disk_named #[.string x8] w7 fun v9 w10 =>
  opnB (some v9) fun x11 =>
  cond (!x11)
  (Q (.tuple #[.pointer none, .int .i64 120]) w10)
  (N_disk_Load.j5 Q s0 s1 s1n s1c s6 s20 s20n s20c s21 (IntKind.wrap .i64 (s22 + 1)) w10))
  (N_disk_Load.j11 Q s0 s6 s1 s1n s1c ((s1n : Nat) : Int) 0 w)) :
N_disk_Load.j5 Q s0 s1 s1n s1c s6 s20 s20n s20c s21 s22 w := Nd_fold K_disk_Load (by kernel_rfl) h
theorem N_disk_Load.j11_eq (Q : Value → World → Prop) (s0 : Int) (s6 : Option Addr) (s31 : Option Addr) (s31n : Nat) (s31c : Nat) (s32 : Int) (s33 : Int) (w : World) (h :
  cond (decide (s33 < s32))
  ((0 : Int) ≤ s33 ∧
  s33 < ((s31n : Nat) : Int) ∧
  opnA s31 fun ad1 =>
  opnS (w.cell? ((ad1.add (Int.toNat s33 * 2)).add 0)) fun x2 =>
  opnL (w.cell? ((ad1.add (Int.toNat s33 * 2)).add 1)) fun x3 x3n x3c =>
  alC #[.string (⟨#[]⟩ : ByteArray), .slice none 0 0] 42 w fun p4 w5 =>
  Array.size (#[.string x2, .slice x3 x3n x3c] : Array Value) = 2 ∧
  stC (p4.add 0) (.string x2) w5 fun w6 =>
  stC (p4.add 1) (.slice x3 x3n x3c) w6 fun w7 =>
  drw w7 fun w8 =>
  opnA s6 fun ad9 =>
  opnM (w8.cell? (ad9.add 1)) fun x10 =>
  opnS (w8.cell? (p4.add 0)) fun x11 =>
  semR PP (Instr.lookup 80 (.map x10) (.string x11) false) w8 fun x12 =>
  opnP (some x12) fun x13 =>
  semR PP (do eqGuard .neq 86 (.tmp 43) (.const (.pointer none)) (.pointer x13) (.pointer none); binOp .neq 86 (.pointer x13) (.pointer none)) w8 fun x14 =>
  opnB (some x14) fun x15 =>
  cond x15
  (Q (.tuple #[.pointer none, .int .i64 122]) w8)
  (drw w8 fun w16 =>
  opnA s6 fun ad17 =>
  opnM (w16.cell? (ad17.add 1)) fun x18 =>
  opnS (w16.cell? (p4.add 0)) fun x19 =>
  opnL (w16.cell? (p4.add 1)) fun x20 x20n x20c =>
  opnL (w16.cell? (p4.add 1)) fun x21 x21n x21c =>
  C_slices_Clone_byte_byte #[.slice x20 x20n x20c] w16 fun v22 w23 =>
  opnL (some v22) fun x24 x24n x24c =>
  (opnL (w23.cell? (p4.add 1)) fun x25 x25n x25c =>
  ((.slice x25 x25n x25c) : Value) = .slice x21 x21n x21c) ∧
  (opnS (w23.cell? (p4.add 0)) fun x26 =>
  ((.string x26) : Value) = .string x19) ∧
  (opnM (w23.cell? (ad17.add 1)) fun x27 =>
  ((.map x27) : Value) = .map x18) ∧
  C_slices_Clone_byte_byte #[.slice x21 x21n x21c] w23 fun v28 w29 =>
  opnL (some v28) fun x30 x30n x30c =>
  (opnS (w29.cell? (p4.add 0)) fun x31 =>
  ((.string x31) : Value) = .string x19) ∧
  (opnM (w29.cell? (ad17.add 1)) fun x32 =>
  ((.map x32) : Value) = .map x18) ∧
  alC #[.slice x24 x24n x24c, .slice x30 x30n x30c, .slice none 0 0] 89 w29 fun p33 w34 =>
  (opnS (w34.cell? (p4.add 0)) fun x35 =>
  ((.string x35) : Value) = .string x19) ∧
  (opnM (w34.cell? (ad17.add 1)) fun x36 =>
  ((.map x36) : Value) = .map x18) ∧
  semU PP (Instr.mapUpdate 80 (.map x18) (.string x19) (.pointer (some p33))) w34 fun w37 =>
  N_disk_Load.j11 Q s0 s6 s31 s31n s31c s32 (IntKind.wrap .i64 (s33 + 1)) w37))
  (C_p_disk_Disk_Used #[.pointer s6] w fun v38 w39 =>
  opnI .i64 (some v38) fun x40 =>
  cond (decide (x40 > s0))
  (Q (.tuple #[.pointer none, .int .i64 123]) w39)
  (opnA s6 fun ad41 =>
  opnM (w39.cell? (ad41.add 1)) fun x42 =>
  C_maps_Clone_map_string_disk_content_string_disk_content #[.map x42] w39 fun v43 w44 =>
  opnM (some v43) fun x45 =>
  opnA s6 fun ad46 =>
  stC (ad46.add 2) (.map x45) w44 fun w47 =>
  Q (.tuple #[.pointer s6, .int .i64 0]) w47))) :
N_disk_Load.j11 Q s0 s6 s31 s31n s31c s32 s33 w := Nd_fold K_disk_Load (by kernel_rfl) h
theorem C_disk_Load_eq (Q : Value → World → Prop) (a0 : Int) (a1 : Option Addr) (a1n : Nat) (a1c : Nat) (w : World) (h :
  C_disk_New #[.int .i64 a0] w fun v1 w2 =>
  opnT (some v1) fun x3 =>
  x3.size = 2 ∧
  opnP (x3[0]?) fun x4 =>
  opnI .i64 (x3[1]?) fun x5 =>
  cond (x5 != 0)
  (Q (.tuple #[.pointer none, .int .i64 x5]) w2)
  (N_disk_Load.j5 Q a0 a1 a1n a1c x4 a1 a1n a1c ((a1n : Nat) : Int) 0 w2)) :
C_disk_Load #[.int .i64 a0, .slice a1 a1n a1c] w Q := C_fold K_disk_Load (by kernel_rfl) h
noncomputable def B_p_disk_Disk_Pending_S1 : Code := match Tryz.f64.body with | some c => c | _ => .skip
noncomputable def X_p_disk_Disk_Pending_S1 : Cx := { P := PP, fn := 64, N := 17, tab := tab, results := [], iter := fun r => cond (Nat.beq r 5) (.one .str, .one .ptr) ((.none, .none)), dyn := fun _ => false, live := fun r => cond (Nat.beq r 1) (some [1, 5]) (none) }
theorem K_p_disk_Disk_Pending_S1 : OkF X_p_disk_Disk_Pending_S1 B_p_disk_Disk_Pending_S1 Tryz.f64 := ⟨⟨tab_ok, mix_ok⟩, Tryz.func64, by kernel_rfl, by kernel_rfl, by kernel_rfl, by kernel_rfl⟩
noncomputable def N_p_disk_Disk_Pending_S1.j1 (Q : Value → World → Prop) (s1 : Addr) (s5 : Addr) (w : World) : Prop := Nd X_p_disk_Disk_Pending_S1 Q [(1, 1, .pointer (some s1)), (5, 5, .pointer (some s5))] [.code (B_p_disk_Disk_Pending_S1.r.l.l.l), .code (B_p_disk_Disk_Pending_S1.r.l.l.r), .inLoop (B_p_disk_Disk_Pending_S1.r.l.l), .inBlock 0] w
theorem N_p_disk_Disk_Pending_S1.j1_eq (Q : Value → World → Prop) (s1 : Addr) (s5 : Addr) (w : World) (h :
  sem PP (Instr.next (.pointer (some s5)) false 0) w fun v1 w2 =>
  opnN v1
  (Q (.tuple #[]) w2)
  fun k3 x4 =>
  opnS (some k3) fun x5 =>
  opnP (some x4) fun x6 =>
  sem PP (Instr.entry (.pointer (some s5))) w2 fun v7 w8 =>
  opnT (some v7) fun x9 =>
  x9.size = 2 ∧
  opnS (x9[0]?) fun x10 =>
  opnP (x9[1]?) fun x11 =>
  drw w8 fun w12 =>
  opnA x11 fun ad13 =>
  opnM (w12.cell? s1) fun x14 =>
  opnL (w12.cell? (ad13.add 2)) fun x15 x15n x15c =>
  semU PP (Instr.mapUpdate 99 (.map x14) (.pointer x11) (.int .i64 ((x15n : Nat) : Int))) w12 fun w16 =>
  N_p_disk_Disk_Pending_S1.j1 Q s1 s5 w16) :
N_p_disk_Disk_Pending_S1.j1 Q s1 s5 w := Nd_fold K_p_disk_Disk_Pending_S1 (by kernel_rfl) h
theorem C_p_disk_Disk_Pending_S1_eq (Q : Value → World → Prop) (f0 : Addr) (f1 : Addr) (w : World) (h :
  opnM (w.cell? f0) fun x1 =>
  sem PP (Instr.range 80 (.map x1)) w fun v2 w3 =>
  opnP (some v2) fun x4 =>
  opnA x4 fun ad5 =>
  N_p_disk_Disk_Pending_S1.j1 Q f1 ad5 w3) :
C_p_disk_Disk_Pending_S1 #[.pointer (some f0), .pointer (some f1)] w Q := C_fold K_p_disk_Disk_Pending_S1 (by kernel_rfl) h
noncomputable def B_p_disk_Disk_Remove : Code := match Tryz.f65.body with | some c => c | _ => .skip
noncomputable def X_p_disk_Disk_Remove : Cx := { P := PP, fn := 65, N := 9, tab := tab, results := [.tmp 4], iter := fun _ => (.none, .none), dyn := fun _ => false, live := fun _ => none }
theorem K_p_disk_Disk_Remove : OkF X_p_disk_Disk_Remove B_p_disk_Disk_Remove Tryz.f65 := ⟨⟨tab_ok, mix_ok⟩, Tryz.func65, by kernel_rfl, by kernel_rfl, by kernel_rfl, by kernel_rfl⟩
theorem C_p_disk_Disk_Remove_eq (Q : Value → World → Prop) (a0 : Option Addr) (a1 : ByteArray) (w : World) (h :
  alC #[.pointer a0] 28 w fun p1 w2 =>
  alC #[.string a1] 9 w2 fun p3 w4 =>
  opnP (w4.cell? p1) fun x5 =>
  C_p_disk_Disk_act #[.pointer x5, .func (.func 98) #[] #[.pointer (some p1), .pointer (some p3)], .func (.func 99) #[] #[.pointer (some p1), .pointer (some p3)]] w4 fun v6 w7 =>
  opnI .i64 (some v6) fun x8 =>
  Q (.int .i64 x8) w7) :
C_p_disk_Disk_Remove #[.pointer a0, .string a1] w Q := C_fold K_p_disk_Disk_Remove (by kernel_rfl) h
noncomputable def B_disk_bounded : Code := match Tryz.f66.body with | some c => c | _ => .skip
noncomputable def X_disk_bounded : Cx := { P := PP, fn := 66, N := 9, tab := tab, results := [.tmp 2], iter := fun _ => (.none, .none), dyn := fun _ => false, live := fun _ => none }
theorem K_disk_bounded : OkF X_disk_bounded B_disk_bounded Tryz.f66 := ⟨⟨tab_ok, mix_ok⟩, Tryz.func66, by kernel_rfl, by kernel_rfl, by kernel_rfl, by kernel_rfl⟩
theorem C_disk_bounded_eq (Q : Value → World → Prop) (a0 : Int) (w : World) (h :
  cond (decide (a0 ≥ 0))
  (Q (.bool (decide (a0 ≤ 1099511627776))) w)
  (Q (.bool false) w)) :
C_disk_bounded #[.int .i64 a0] w Q := C_fold K_disk_bounded (by kernel_rfl) h
noncomputable def B_l12_files : Code := match Tryz.f67.body with | some c => c | _ => .skip
noncomputable def X_l12_files : Cx := { P := PP, fn := 67, N := 27, tab := tab, results := [.tmp 2], iter := fun _ => (.none, .none), dyn := fun _ => false, live := fun r => cond (Nat.beq r 3) (some [0, 3, 4]) (none) }
theorem K_l12_files : OkF X_l12_files B_l12_files Tryz.f67 := ⟨⟨tab_ok, mix_ok⟩, Tryz.func67, by kernel_rfl, by kernel_rfl, by kernel_rfl, by kernel_rfl⟩
noncomputable def N_l12_files.j3 (Q : Value → World → Prop) (s0 : Option Addr) (s0n : Nat) (s0c : Nat) (s3 : Option Addr) (s3n : Nat) (s3c : Nat) (s4 : Int) (w : World) : Prop := Nd X_l12_files Q [(0, 0, .slice s0 s0n s0c), (3, 3, .slice s3 s3n s3c), (4, 4, .int .i64 s4)] [.code (B_l12_files.r.r.l.r.l.l.l.l), .code (B_l12_files.r.r.l.r.l.l.l.r), .code (B_l12_files.r.r.l.r.l.l.r), .inLoop (B_l12_files.r.r.l.r.l.l), .inBlock 0, .code (B_l12_files.r.r.r)] w
theorem N_l12_files.j3_eq (Q : Value → World → Prop) (s0 : Option Addr) (s0n : Nat) (s0c : Nat) (s3 : Option Addr) (s3n : Nat) (s3c : Nat) (s4 : Int) (w : World) (h :
  cond (decide (s4 < ((s0n : Nat) : Int)))
  (drw w fun w1 =>
  (0 : Int) ≤ s4 ∧
  s4 < ((s0n : Nat) : Int) ∧
  opnA s0 fun ad2 =>
  (0 : Int) ≤ s4 ∧
  s4 < ((s0n : Nat) : Int) ∧
  opnA s0 fun ad3 =>
  opnS (w1.cell? ((ad2.add (Int.toNat s4 * 2)).add 0)) fun x4 =>
  opnL (w1.cell? ((ad3.add (Int.toNat s4 * 2)).add 1)) fun x5 x5n x5c =>
  C_l12_copied #[.slice x5 x5n x5c] w1 fun v6 w7 =>
  opnL (some v6) fun x8 x8n x8c =>
  (opnS (w7.cell? ((ad2.add (Int.toNat s4 * 2)).add 0)) fun x9 =>
  ((.string x9) : Value) = .string x4) ∧
  alC #[.string x4, .slice x8 x8n x8c] 42 w7 fun p10 w11 =>
  sem PP (Builtin.append_ #[38, 38] 38 #[.slice s3 s3n s3c, .slice (some p10) 1 1]) w11 fun v12 w13 =>
  opnL (some v12) fun x14 x14n x14c =>
  N_l12_files.j3 Q s0 s0n s0c x14 x14n x14c (IntKind.wrap .i64 (s4 + 1)) w13)
  (Q (.slice s3 s3n s3c) w)) :
N_l12_files.j3 Q s0 s0n s0c s3 s3n s3c s4 w := Nd_fold K_l12_files (by kernel_rfl) h
theorem C_l12_files_eq (Q : Value → World → Prop) (a0 : Option Addr) (a0n : Nat) (a0c : Nat) (w : World) (h :
  N_l12_files.j3 Q a0 a0n a0c none 0 0 0 w) :
C_l12_files #[.slice a0 a0n a0c] w Q := C_fold K_l12_files (by kernel_rfl) h
noncomputable def B_r12_Load : Code := match Tryz.f68.body with | some c => c | _ => .skip
noncomputable def X_r12_Load : Cx := { P := PP, fn := 68, N := 75, tab := tab, results := [.tmp 4, .tmp 5], iter := fun _ => (.none, .none), dyn := fun _ => false, live := fun r => cond (Nat.beq r 5) (some [0, 1, 6, 8]) (cond (Nat.beq r 12) (some [0, 1, 6, 10, 11]) (none)) }
theorem K_r12_Load : OkF X_r12_Load B_r12_Load Tryz.f68 := ⟨⟨tab_ok, mix_ok⟩, Tryz.func68, by kernel_rfl, by kernel_rfl, by kernel_rfl, by kernel_rfl⟩
noncomputable def N_r12_Load.j5 (Q : Value → World → Prop) (s0 : Int) (s1 : Option Addr) (s1n : Nat) (s1c : Nat) (s6 : Option Addr) (s8 : Int) (w : World) : Prop := Nd X_r12_Load Q [(0, 0, .int .i64 s0), (1, 1, .slice s1 s1n s1c), (6, 6, .pointer s6), (8, 8, .int .i64 s8)] [.code (B_r12_Load.r.r.r.l.r.l.l.l.l), .code (B_r12_Load.r.r.r.l.r.l.l.l.r), .code (B_r12_Load.r.r.r.l.r.l.l.r), .inLoop (B_r12_Load.r.r.r.l.r.l.l), .inBlock 0, .code (B_r12_Load.r.r.r.r)] w
noncomputable def N_r12_Load.j12 (Q : Value → World → Prop) (s0 : Int) (s1 : Option Addr) (s1n : Nat) (s1c : Nat) (s6 : Option Addr) (s10 : Int) (s11 : Int) (w : World) : Prop := Nd X_r12_Load Q [(0, 0, .int .i64 s0), (1, 1, .slice s1 s1n s1c), (6, 6, .pointer s6), (10, 10, .int .i64 s10), (11, 11, .int .i64 s11)] [.code (B_r12_Load.r.r.r.r.r.l.r.l.l.l.l), .code (B_r12_Load.r.r.r.r.r.l.r.l.l.l.r), .code (B_r12_Load.r.r.r.r.r.l.r.l.l.r), .inLoop (B_r12_Load.r.r.r.r.r.l.r.l.l), .inBlock 2, .code (B_r12_Load.r.r.r.r.r.r)] w
theorem N_r12_Load.j5_eq (Q : Value → World → Prop) (s0 : Int) (s1 : Option Addr) (s1n : Nat) (s1c : Nat) (s6 : Option Addr) (s8 : Int) (w : World) (h :
  cond (decide (s8 < ((s1n : Nat) : Int)))
  ((0 : Int) ≤ s8 ∧
  s8 < ((s1n : Nat) : Int) ∧
  opnA s1 fun ad1 =>
  opnS (w.cell? ((ad1.add (Int.toNat s8 * 2)).add 0)) fun x2 =>
  C_r12_IsName #[.string x2] w fun v3 w4 =>
  opnB (some v3) fun x5 =>
  cond (!x5)
  (Q (.tuple #[.pointer none, .int .i64 120]) w4)
  (N_r12_Load.j5 Q s0 s1 s1n s1c s6 (IntKind.wrap .i64 (s8 + 1)) w4))
  (N_r12_Load.j12 Q s0 s1 s1n s1c s6 0 0 w)) :
N_r12_Load.j5 Q s0 s1 s1n s1c s6 s8 w := Nd_fold K_r12_Load (by kernel_rfl) h
theorem N_r12_Load.j12_eq (Q : Value → World → Prop) (s0 : Int) (s1 : Option Addr) (s1n : Nat) (s1c : Nat) (s6 : Option Addr) (s10 : Int) (s11 : Int) (w : World) (h :
  cond (decide (s11 < ((s1n : Nat) : Int)))
  (drw w fun w1 =>
  opnA s6 fun ad2 =>
  (0 : Int) ≤ s11 ∧
  s11 < ((s1n : Nat) : Int) ∧
  opnA s1 fun ad3 =>
  opnL (w1.cell? (ad2.add 8)) fun x4 x4n x4c =>
  opnS (w1.cell? ((ad3.add (Int.toNat s11 * 2)).add 0)) fun x5 =>
  C_r12_find #[.slice x4 x4n x4c, .string x5] w1 fun v6 w7 =>
  opnI .i64 (some v6) fun x8 =>
  cond (decide (x8 ≥ 0))
  (Q (.tuple #[.pointer none, .int .i64 122]) w7)
  (drw w7 fun w9 =>
  (0 : Int) ≤ s11 ∧
  s11 < ((s1n : Nat) : Int) ∧
  opnA s1 fun ad10 =>
  (0 : Int) ≤ s11 ∧
  s11 < ((s1n : Nat) : Int) ∧
  opnA s1 fun ad11 =>
  opnS (w9.cell? ((ad10.add (Int.toNat s11 * 2)).add 0)) fun x12 =>
  opnL (w9.cell? ((ad11.add (Int.toNat s11 * 2)).add 1)) fun x13 x13n x13c =>
  C_p_r12_Disk_add #[.pointer s6, .string x12, .slice x13 x13n x13c] w9 fun v14 w15 =>
  opnT (some v14) fun x16 =>
  x16.size = 0 ∧
  (0 : Int) ≤ s11 ∧
  s11 < ((s1n : Nat) : Int) ∧
  opnA s1 fun ad17 =>
  opnL (w15.cell? ((ad17.add (Int.toNat s11 * 2)).add 1)) fun x18 x18n x18c =>
  N_r12_Load.j12 Q s0 s1 s1n s1c s6 (IntKind.wrap .i64 (s10 + ((x18n : Nat) : Int))) (IntKind.wrap .i64 (s11 + 1)) w15))
  (cond (decide (s10 > s0))
  (Q (.tuple #[.pointer none, .int .i64 123]) w)
  (Q (.tuple #[.pointer s6, .int .i64 0]) w))) :
N_r12_Load.j12 Q s0 s1 s1n s1c s6 s10 s11 w := Nd_fold K_r12_Load (by kernel_rfl) h
theorem C_r12_Load_eq (Q : Value → World → Prop) (a0 : Int) (a1 : Option Addr) (a1n : Nat) (a1c : Nat) (w : World) (h :
  C_r12_New #[.int .i64 a0] w fun v1 w2 =>
  opnT (some v1) fun x3 =>
  x3.size = 2 ∧
  opnP (x3[0]?) fun x4 =>
  opnI .i64 (x3[1]?) fun x5 =>
  cond (x5 != 0)
  (Q (.tuple #[.pointer none, .int .i64 x5]) w2)
  (N_r12_Load.j5 Q a0 a1 a1n a1c x4 0 w2)) :
C_r12_Load #[.int .i64 a0, .slice a1 a1n a1c] w Q := C_fold K_r12_Load (by kernel_rfl) h
noncomputable def B_l12_reference : Code := match Tryz.f69.body with | some c => c | _ => .skip
noncomputable def X_l12_reference : Cx := { P := PP, fn := 69, N := 27, tab := tab, results := [.tmp 2], iter := fun _ => (.none, .none), dyn := fun _ => false, live := fun r => cond (Nat.beq r 3) (some [0, 3, 4]) (none) }
theorem K_l12_reference : OkF X_l12_reference B_l12_reference Tryz.f69 := ⟨⟨tab_ok, mix_ok⟩, Tryz.func69, by kernel_rfl, by kernel_rfl, by kernel_rfl, by kernel_rfl⟩
noncomputable def N_l12_reference.j3 (Q : Value → World → Prop) (s0 : Option Addr) (s0n : Nat) (s0c : Nat) (s3 : Option Addr) (s3n : Nat) (s3c : Nat) (s4 : Int) (w : World) : Prop := Nd X_l12_reference Q [(0, 0, .slice s0 s0n s0c), (3, 3, .slice s3 s3n s3c), (4, 4, .int .i64 s4)] [.code (B_l12_reference.r.r.l.r.l.l.l.l), .code (B_l12_reference.r.r.l.r.l.l.l.r), .code (B_l12_reference.r.r.l.r.l.l.r), .inLoop (B_l12_reference.r.r.l.r.l.l), .inBlock 0, .code (B_l12_reference.r.r.r)] w
theorem N_l12_reference.j3_eq (Q : Value → World → Prop) (s0 : Option Addr) (s0n : Nat) (s0c : Nat) (s3 : Option Addr) (s3n : Nat) (s3c : Nat) (s4 : Int) (w : World) (h :
  cond (decide (s4 < ((s0n : Nat) : Int)))
  (drw w fun w1 =>
  (0 : Int) ≤ s4 ∧
  s4 < ((s0n : Nat) : Int) ∧
  opnA s0 fun ad2 =>
  (0 : Int) ≤ s4 ∧
  s4 < ((s0n : Nat) : Int) ∧
  opnA s0 fun ad3 =>
  opnS (w1.cell? ((ad2.add (Int.toNat s4 * 2)).add 0)) fun x4 =>
  opnL (w1.cell? ((ad3.add (Int.toNat s4 * 2)).add 1)) fun x5 x5n x5c =>
  C_l12_copied #[.slice x5 x5n x5c] w1 fun v6 w7 =>
  opnL (some v6) fun x8 x8n x8c =>
  (opnS (w7.cell? ((ad2.add (Int.toNat s4 * 2)).add 0)) fun x9 =>
  ((.string x9) : Value) = .string x4) ∧
  alC #[.string x4, .slice x8 x8n x8c] 143 w7 fun p10 w11 =>
  sem PP (Builtin.append_ #[110, 110] 110 #[.slice s3 s3n s3c, .slice (some p10) 1 1]) w11 fun v12 w13 =>
  opnL (some v12) fun x14 x14n x14c =>
  N_l12_reference.j3 Q s0 s0n s0c x14 x14n x14c (IntKind.wrap .i64 (s4 + 1)) w13)
  (Q (.slice s3 s3n s3c) w)) :
N_l12_reference.j3 Q s0 s0n s0c s3 s3n s3c s4 w := Nd_fold K_l12_reference (by kernel_rfl) h
theorem C_l12_reference_eq (Q : Value → World → Prop) (a0 : Option Addr) (a0n : Nat) (a0c : Nat) (w : World) (h :
  N_l12_reference.j3 Q a0 a0n a0c none 0 0 0 w) :
C_l12_reference #[.slice a0 a0n a0c] w Q := C_fold K_l12_reference (by kernel_rfl) h
noncomputable def B_p_r12_Disk_Create : Code := match Tryz.f70.body with | some c => c | _ => .skip
noncomputable def X_p_r12_Disk_Create : Cx := { P := PP, fn := 70, N := 60, tab := tab, results := [.tmp 4], iter := fun _ => (.none, .none), dyn := fun _ => false, live := fun r => cond (Nat.beq r 9) (some [0, 1, 5]) (cond (Nat.beq r 10) (some [0, 1, 5]) (cond (Nat.beq r 11) (some [0, 1, 5]) (cond (Nat.beq r 12) (some [0, 5]) (none)))) }
theorem K_p_r12_Disk_Create : OkF X_p_r12_Disk_Create B_p_r12_Disk_Create Tryz.f70 := ⟨⟨tab_ok, mix_ok⟩, Tryz.func70, by kernel_rfl, by kernel_rfl, by kernel_rfl, by kernel_rfl⟩
noncomputable def N_p_r12_Disk_Create.j9 (Q : Value → World → Prop) (s0 : Option Addr) (s1 : ByteArray) (s5 : Bool) (w : World) : Prop := Nd X_p_r12_Disk_Create Q [(0, 0, .pointer s0), (1, 1, .string s1), (5, 5, .bool s5)] [.code (B_p_r12_Disk_Create.r.r.r.r.r.r.l), .code (B_p_r12_Disk_Create.r.r.r.r.r.r.r)] w
noncomputable def N_p_r12_Disk_Create.j10 (Q : Value → World → Prop) (s0 : Option Addr) (s1 : ByteArray) (s5 : Bool) (w : World) : Prop := Nd X_p_r12_Disk_Create Q [(0, 0, .pointer s0), (1, 1, .string s1), (5, 5, .bool s5)] [.code (B_p_r12_Disk_Create.r.r.r.r.r.r.r.l), .code (B_p_r12_Disk_Create.r.r.r.r.r.r.r.r)] w
noncomputable def N_p_r12_Disk_Create.j11 (Q : Value → World → Prop) (s0 : Option Addr) (s1 : ByteArray) (s5 : Bool) (w : World) : Prop := Nd X_p_r12_Disk_Create Q [(0, 0, .pointer s0), (1, 1, .string s1), (5, 5, .bool s5)] [.code (B_p_r12_Disk_Create.r.r.r.r.r.r.r.r.l), .code (B_p_r12_Disk_Create.r.r.r.r.r.r.r.r.r)] w
noncomputable def N_p_r12_Disk_Create.j12 (Q : Value → World → Prop) (s0 : Option Addr) (s5 : Bool) (w : World) : Prop := Nd X_p_r12_Disk_Create Q [(0, 0, .pointer s0), (5, 5, .bool s5)] [.code (B_p_r12_Disk_Create.r.r.r.r.r.r.r.r.r.l), .code (B_p_r12_Disk_Create.r.r.r.r.r.r.r.r.r.r)] w
theorem N_p_r12_Disk_Create.j9_eq (Q : Value → World → Prop) (s0 : Option Addr) (s1 : ByteArray) (s5 : Bool) (w : World) (h :
  opnA s0 fun ad1 =>
  opnL (w.cell? (ad1.add 5)) fun x2 x2n x2c =>
  alC #[.slice none 0 0] 23 w fun p3 w4 =>
  sem PP (Builtin.append_ #[78, 78] 78 #[.slice x2 x2n x2c, .slice (some p3) 1 1]) w4 fun v5 w6 =>
  opnL (some v5) fun x7 x7n x7c =>
  opnA s0 fun ad8 =>
  stC (ad8.add 5) (.slice x7 x7n x7c) w6 fun w9 =>
  N_p_r12_Disk_Create.j10 Q s0 s1 s5 w9) :
N_p_r12_Disk_Create.j9 Q s0 s1 s5 w := Nd_fold K_p_r12_Disk_Create (by kernel_rfl) h
theorem N_p_r12_Disk_Create.j10_eq (Q : Value → World → Prop) (s0 : Option Addr) (s1 : ByteArray) (s5 : Bool) (w : World) (h :
  opnA s0 fun ad1 =>
  opnL (w.cell? (ad1.add 6)) fun x2 x2n x2c =>
  alC #[.int .i64 0] 3 w fun p3 w4 =>
  sem PP (Builtin.append_ #[24, 24] 24 #[.slice x2 x2n x2c, .slice (some p3) 1 1]) w4 fun v5 w6 =>
  opnL (some v5) fun x7 x7n x7c =>
  opnA s0 fun ad8 =>
  stC (ad8.add 6) (.slice x7 x7n x7c) w6 fun w9 =>
  N_p_r12_Disk_Create.j11 Q s0 s1 s5 w9) :
N_p_r12_Disk_Create.j10 Q s0 s1 s5 w := Nd_fold K_p_r12_Disk_Create (by kernel_rfl) h
theorem N_p_r12_Disk_Create.j11_eq (Q : Value → World → Prop) (s0 : Option Addr) (s1 : ByteArray) (s5 : Bool) (w : World) (h :
  opnA s0 fun ad1 =>
  opnL (w.cell? (ad1.add 5)) fun x2 x2n x2c =>
  C_p_r12_Disk_turn #[.pointer s0, .agg #[.int .i64 1, .string s1, .string (⟨#[]⟩ : ByteArray), .int .i64 (IntKind.wrap .i64 (((x2n : Nat) : Int) - 1))]] w fun v3 w4 =>
  opnT (some v3) fun x5 =>
  x5.size = 0 ∧
  N_p_r12_Disk_Create.j12 Q s0 s5 w4) :
N_p_r12_Disk_Create.j11 Q s0 s1 s5 w := Nd_fold K_p_r12_Disk_Create (by kernel_rfl) h
theorem N_p_r12_Disk_Create.j12_eq (Q : Value → World → Prop) (s0 : Option Addr) (s5 : Bool) (w : World) (h :
  C_p_r12_Disk_ended #[.pointer s0, .bool s5] w fun v1 w2 =>
  opnI .i64 (some v1) fun x3 =>
  Q (.int .i64 x3) w2) :
N_p_r12_Disk_Create.j12 Q s0 s5 w := Nd_fold K_p_r12_Disk_Create (by kernel_rfl) h
theorem C_p_r12_Disk_Create_eq (Q : Value → World → Prop) (a0 : Option Addr) (a1 : ByteArray) (w : World) (h :
  opnA a0 fun ad1 =>
  opnB (w.cell? (ad1.add 1)) fun x2 =>
  cond x2
  (Q (.int .i64 125) w)
  (C_p_r12_Disk_called #[.pointer a0] w fun v3 w4 =>
  opnB (some v3) fun x5 =>
  C_r12_IsName #[.string a1] w4 fun v6 w7 =>
  opnB (some v6) fun x8 =>
  cond (!x8)
  (Q (.int .i64 120) w7)
  (cond x5
  (opnA a0 fun ad9 =>
  opnI .i64 (w7.cell? (ad9.add 4)) fun x10 =>
  cond (x10 != 125)
  (opnA a0 fun ad11 =>
  opnI .i64 (w7.cell? (ad11.add 4)) fun x12 =>
  Q (.int .i64 x12) w7)
  (N_p_r12_Disk_Create.j9 Q a0 a1 true w7))
  (N_p_r12_Disk_Create.j9 Q a0 a1 false w7)))) :
C_p_r12_Disk_Create #[.pointer a0, .string a1] w Q := C_fold K_p_r12_Disk_Create (by kernel_rfl) h
noncomputable def B_p_r12_Disk_Write : Code := match Tryz.f71.body with | some c => c | _ => .skip
noncomputable def X_p_r12_Disk_Write : Cx := { P := PP, fn := 71, N := 135, tab := tab, results := [.tmp 8], iter := fun _ => (.none, .none), dyn := fun _ => false, live := fun r => cond (Nat.beq r 11) (some []) (cond (Nat.beq r 16) (some [0, 2, 3, 9, 12, 13]) (cond (Nat.beq r 17) (some [0, 2, 3, 9, 12, 13, 14]) (cond (Nat.beq r 18) (some [0, 2, 3, 9, 12, 13, 14, 15]) (cond (Nat.beq r 19) (some []) (cond (Nat.beq r 20) (some [0, 2, 3, 9, 12, 13]) (cond (Nat.beq r 21) (some [0]) (cond (Nat.beq r 22) (some [0, 2, 3, 9, 12, 13]) (cond (Nat.beq r 23) (some [0, 2, 3, 9, 12, 13]) (cond (Nat.beq r 24) (some [0, 2, 3, 9, 12, 13, 16]) (cond (Nat.beq r 25) (some [0, 2, 9, 12, 13, 16]) (cond (Nat.beq r 26) (some [0, 9, 12, 13]) (cond (Nat.beq r 27) (some [0, 9]) (none))))))))))))) }
theorem K_p_r12_Disk_Write : OkF X_p_r12_Disk_Write B_p_r12_Disk_Write Tryz.f71 := ⟨⟨tab_ok, mix_ok⟩, Tryz.func71, by kernel_rfl, by kernel_rfl, by kernel_rfl, by kernel_rfl⟩
noncomputable def N_p_r12_Disk_Write.j11 (Q : Value → World → Prop) (w : World) : Prop := Nd X_p_r12_Disk_Write Q [] [.code (B_p_r12_Disk_Write.r.r.r.r.r.r.r.l.r.l.l), .code (B_p_r12_Disk_Write.r.r.r.r.r.r.r.l.r.l.r), .code (B_p_r12_Disk_Write.r.r.r.r.r.r.r.r)] w
noncomputable def N_p_r12_Disk_Write.j16 (Q : Value → World → Prop) (s0 : Option Addr) (s2 : Int) (s3 : Option Addr) (s3n : Nat) (s3c : Nat) (s9 : Bool) (s12 : Int) (s13 : Int) (w : World) : Prop := Nd X_p_r12_Disk_Write Q [(0, 0, .pointer s0), (2, 2, .int .i64 s2), (3, 3, .slice s3 s3n s3c), (9, 9, .bool s9), (12, 12, .int .i64 s12), (13, 13, .int .i64 s13)] [.code (B_p_r12_Disk_Write.r.r.r.r.r.r.r.r.r.r.r.l), .code (B_p_r12_Disk_Write.r.r.r.r.r.r.r.r.r.r.r.r)] w
noncomputable def N_p_r12_Disk_Write.j17 (Q : Value → World → Prop) (s0 : Option Addr) (s2 : Int) (s3 : Option Addr) (s3n : Nat) (s3c : Nat) (s9 : Bool) (s12 : Int) (s13 : Int) (s14 : Int) (w : World) : Prop := Nd X_p_r12_Disk_Write Q [(0, 0, .pointer s0), (2, 2, .int .i64 s2), (3, 3, .slice s3 s3n s3c), (9, 9, .bool s9), (12, 12, .int .i64 s12), (13, 13, .int .i64 s13), (14, 14, .int .i64 s14)] [.code (B_p_r12_Disk_Write.r.r.r.r.r.r.r.r.r.r.r.r.l), .code (B_p_r12_Disk_Write.r.r.r.r.r.r.r.r.r.r.r.r.r)] w
noncomputable def N_p_r12_Disk_Write.j18 (Q : Value → World → Prop) (s0 : Option Addr) (s2 : Int) (s3 : Option Addr) (s3n : Nat) (s3c : Nat) (s9 : Bool) (s12 : Int) (s13 : Int) (s14 : Int) (s15 : Int) (w : World) : Prop := Nd X_p_r12_Disk_Write Q [(0, 0, .pointer s0), (2, 2, .int .i64 s2), (3, 3, .slice s3 s3n s3c), (9, 9, .bool s9), (12, 12, .int .i64 s12), (13, 13, .int .i64 s13), (14, 14, .int .i64 s14), (15, 15, .int .i64 s15)] [.code (B_p_r12_Disk_Write.r.r.r.r.r.r.r.r.r.r.r.r.r.l.l), .code (B_p_r12_Disk_Write.r.r.r.r.r.r.r.r.r.r.r.r.r.l.r), .code (B_p_r12_Disk_Write.r.r.r.r.r.r.r.r.r.r.r.r.r.r)] w
noncomputable def N_p_r12_Disk_Write.j19 (Q : Value → World → Prop) (w : World) : Prop := Nd X_p_r12_Disk_Write Q [] [.code (B_p_r12_Disk_Write.r.r.r.r.r.r.r.r.r.r.r.r.r.l.r.l.l), .code (B_p_r12_Disk_Write.r.r.r.r.r.r.r.r.r.r.r.r.r.l.r.l.r), .code (B_p_r12_Disk_Write.r.r.r.r.r.r.r.r.r.r.r.r.r.r)] w
noncomputable def N_p_r12_Disk_Write.j20 (Q : Value → World → Prop) (s0 : Option Addr) (s2 : Int) (s3 : Option Addr) (s3n : Nat) (s3c : Nat) (s9 : Bool) (s12 : Int) (s13 : Int) (w : World) : Prop := Nd X_p_r12_Disk_Write Q [(0, 0, .pointer s0), (2, 2, .int .i64 s2), (3, 3, .slice s3 s3n s3c), (9, 9, .bool s9), (12, 12, .int .i64 s12), (13, 13, .int .i64 s13)] [.code (B_p_r12_Disk_Write.r.r.r.r.r.r.r.r.r.r.r.r.r.r.l.l), .code (B_p_r12_Disk_Write.r.r.r.r.r.r.r.r.r.r.r.r.r.r.l.r), .code (B_p_r12_Disk_Write.r.r.r.r.r.r.r.r.r.r.r.r.r.r.r)] w
noncomputable def N_p_r12_Disk_Write.j21 (Q : Value → World → Prop) (s0 : Option Addr) (w : World) : Prop := Nd X_p_r12_Disk_Write Q [(0, 0, .pointer s0)] [.code (B_p_r12_Disk_Write.r.r.r.r.r.r.r.r.r.r.r.r.r.r.l.r.l.l), .code (B_p_r12_Disk_Write.r.r.r.r.r.r.r.r.r.r.r.r.r.r.l.r.l.r), .code (B_p_r12_Disk_Write.r.r.r.r.r.r.r.r.r.r.r.r.r.r.r)] w
noncomputable def N_p_r12_Disk_Write.j22 (Q : Value → World → Prop) (s0 : Option Addr) (s2 : Int) (s3 : Option Addr) (s3n : Nat) (s3c : Nat) (s9 : Bool) (s12 : Int) (s13 : Int) (w : World) : Prop := Nd X_p_r12_Disk_Write Q [(0, 0, .pointer s0), (2, 2, .int .i64 s2), (3, 3, .slice s3 s3n s3c), (9, 9, .bool s9), (12, 12, .int .i64 s12), (13, 13, .int .i64 s13)] [.code (B_p_r12_Disk_Write.r.r.r.r.r.r.r.r.r.r.r.r.r.r.r.l.l), .code (B_p_r12_Disk_Write.r.r.r.r.r.r.r.r.r.r.r.r.r.r.r.l.r), .code (B_p_r12_Disk_Write.r.r.r.r.r.r.r.r.r.r.r.r.r.r.r.r)] w
noncomputable def N_p_r12_Disk_Write.j23 (Q : Value → World → Prop) (s0 : Option Addr) (s2 : Int) (s3 : Option Addr) (s3n : Nat) (s3c : Nat) (s9 : Bool) (s12 : Int) (s13 : Int) (w : World) : Prop := Nd X_p_r12_Disk_Write Q [(0, 0, .pointer s0), (2, 2, .int .i64 s2), (3, 3, .slice s3 s3n s3c), (9, 9, .bool s9), (12, 12, .int .i64 s12), (13, 13, .int .i64 s13)] [.code (B_p_r12_Disk_Write.r.r.r.r.r.r.r.r.r.r.r.r.r.r.r.l.r.l.l), .code (B_p_r12_Disk_Write.r.r.r.r.r.r.r.r.r.r.r.r.r.r.r.l.r.l.r), .code (B_p_r12_Disk_Write.r.r.r.r.r.r.r.r.r.r.r.r.r.r.r.r)] w
noncomputable def N_p_r12_Disk_Write.j24 (Q : Value → World → Prop) (s0 : Option Addr) (s2 : Int) (s3 : Option Addr) (s3n : Nat) (s3c : Nat) (s9 : Bool) (s12 : Int) (s13 : Int) (s16 : Option Addr) (s16n : Nat) (s16c : Nat) (w : World) : Prop := Nd X_p_r12_Disk_Write Q [(0, 0, .pointer s0), (2, 2, .int .i64 s2), (3, 3, .slice s3 s3n s3c), (9, 9, .bool s9), (12, 12, .int .i64 s12), (13, 13, .int .i64 s13), (16, 16, .slice s16 s16n s16c)] [.code (B_p_r12_Disk_Write.r.r.r.r.r.r.r.r.r.r.r.r.r.r.r.l.r.l.r.l), .code (B_p_r12_Disk_Write.r.r.r.r.r.r.r.r.r.r.r.r.r.r.r.l.r.l.r.r), .code (B_p_r12_Disk_Write.r.r.r.r.r.r.r.r.r.r.r.r.r.r.r.r)] w
noncomputable def N_p_r12_Disk_Write.j25 (Q : Value → World → Prop) (s0 : Option Addr) (s2 : Int) (s9 : Bool) (s12 : Int) (s13 : Int) (s16 : Option Addr) (s16n : Nat) (s16c : Nat) (w : World) : Prop := Nd X_p_r12_Disk_Write Q [(0, 0, .pointer s0), (2, 2, .int .i64 s2), (9, 9, .bool s9), (12, 12, .int .i64 s12), (13, 13, .int .i64 s13), (16, 16, .slice s16 s16n s16c)] [.code (B_p_r12_Disk_Write.r.r.r.r.r.r.r.r.r.r.r.r.r.r.r.l.r.l.r.r.l), .code (B_p_r12_Disk_Write.r.r.r.r.r.r.r.r.r.r.r.r.r.r.r.l.r.l.r.r.r), .code (B_p_r12_Disk_Write.r.r.r.r.r.r.r.r.r.r.r.r.r.r.r.r)] w
noncomputable def N_p_r12_Disk_Write.j26 (Q : Value → World → Prop) (s0 : Option Addr) (s9 : Bool) (s12 : Int) (s13 : Int) (w : World) : Prop := Nd X_p_r12_Disk_Write Q [(0, 0, .pointer s0), (9, 9, .bool s9), (12, 12, .int .i64 s12), (13, 13, .int .i64 s13)] [.code (B_p_r12_Disk_Write.r.r.r.r.r.r.r.r.r.r.r.r.r.r.r.l.r.l.r.r.r), .code (B_p_r12_Disk_Write.r.r.r.r.r.r.r.r.r.r.r.r.r.r.r.r)] w
noncomputable def N_p_r12_Disk_Write.j27 (Q : Value → World → Prop) (s0 : Option Addr) (s9 : Bool) (w : World) : Prop := Nd X_p_r12_Disk_Write Q [(0, 0, .pointer s0), (9, 9, .bool s9)] [.code (B_p_r12_Disk_Write.r.r.r.r.r.r.r.r.r.r.r.r.r.r.r.r.l), .code (B_p_r12_Disk_Write.r.r.r.r.r.r.r.r.r.r.r.r.r.r.r.r.r)] w
theorem N_p_r12_Disk_Write.j11_eq (Q : Value → World → Prop) (w : World) (h :
  Q (.int .i64 1) w) :
N_p_r12_Disk_Write.j11 Q w := Nd_fold K_p_r12_Disk_Write (by kernel_rfl) h
theorem N_p_r12_Disk_Write.j16_eq (Q : Value → World → Prop) (s0 : Option Addr) (s2 : Int) (s3 : Option Addr) (s3n : Nat) (s3c : Nat) (s9 : Bool) (s12 : Int) (s13 : Int) (w : World) (h :
  opnA s0 fun ad1 =>
  opnL (w.cell? (ad1.add 6)) fun x2 x2n x2c =>
  (0 : Int) ≤ s12 ∧
  s12 < ((x2n : Nat) : Int) ∧
  opnA x2 fun ad3 =>
  opnI .i64 (w.cell? (ad3.add (Int.toNat s12 * 1))) fun x4 =>
  N_p_r12_Disk_Write.j17 Q s0 s2 s3 s3n s3c s9 s12 s13 (IntKind.wrap .i64 (s13 - x4)) w) :
N_p_r12_Disk_Write.j16 Q s0 s2 s3 s3n s3c s9 s12 s13 w := Nd_fold K_p_r12_Disk_Write (by kernel_rfl) h
theorem N_p_r12_Disk_Write.j17_eq (Q : Value → World → Prop) (s0 : Option Addr) (s2 : Int) (s3 : Option Addr) (s3n : Nat) (s3c : Nat) (s9 : Bool) (s12 : Int) (s13 : Int) (s14 : Int) (w : World) (h :
  C_p_r12_Disk_Used #[.pointer s0] w fun v1 w2 =>
  opnI .i64 (some v1) fun x3 =>
  N_p_r12_Disk_Write.j18 Q s0 s2 s3 s3n s3c s9 s12 s13 s14 x3 w2) :
N_p_r12_Disk_Write.j17 Q s0 s2 s3 s3n s3c s9 s12 s13 s14 w := Nd_fold K_p_r12_Disk_Write (by kernel_rfl) h
theorem N_p_r12_Disk_Write.j18_eq (Q : Value → World → Prop) (s0 : Option Addr) (s2 : Int) (s3 : Option Addr) (s3n : Nat) (s3c : Nat) (s9 : Bool) (s12 : Int) (s13 : Int) (s14 : Int) (s15 : Int) (w : World) (h :
  cond (decide (s14 > 0))
  (opnA s0 fun ad1 =>
  opnI .i64 (w.cell? (ad1.add 0)) fun x2 =>
  cond (decide ((IntKind.wrap .i64 (s15 + s14)) > x2))
  (N_p_r12_Disk_Write.j19 Q w)
  (N_p_r12_Disk_Write.j20 Q s0 s2 s3 s3n s3c s9 s12 s13 w))
  (N_p_r12_Disk_Write.j20 Q s0 s2 s3 s3n s3c s9 s12 s13 w)) :
N_p_r12_Disk_Write.j18 Q s0 s2 s3 s3n s3c s9 s12 s13 s14 s15 w := Nd_fold K_p_r12_Disk_Write (by kernel_rfl) h
theorem N_p_r12_Disk_Write.j19_eq (Q : Value → World → Prop) (w : World) (h :
  Q (.int .i64 123) w) :
N_p_r12_Disk_Write.j19 Q w := Nd_fold K_p_r12_Disk_Write (by kernel_rfl) h
theorem N_p_r12_Disk_Write.j20_eq (Q : Value → World → Prop) (s0 : Option Addr) (s2 : Int) (s3 : Option Addr) (s3n : Nat) (s3c : Nat) (s9 : Bool) (s12 : Int) (s13 : Int) (w : World) (h :
  cond s9
  (opnA s0 fun ad1 =>
  opnI .i64 (w.cell? (ad1.add 4)) fun x2 =>
  cond (x2 != 125)
  (N_p_r12_Disk_Write.j21 Q s0 w)
  (N_p_r12_Disk_Write.j22 Q s0 s2 s3 s3n s3c true s12 s13 w))
  (N_p_r12_Disk_Write.j22 Q s0 s2 s3 s3n s3c false s12 s13 w)) :
N_p_r12_Disk_Write.j20 Q s0 s2 s3 s3n s3c s9 s12 s13 w := Nd_fold K_p_r12_Disk_Write (by kernel_rfl) h
theorem N_p_r12_Disk_Write.j21_eq (Q : Value → World → Prop) (s0 : Option Addr) (w : World) (h :
  opnA s0 fun ad1 =>
  opnI .i64 (w.cell? (ad1.add 4)) fun x2 =>
  Q (.int .i64 x2) w) :
N_p_r12_Disk_Write.j21 Q s0 w := Nd_fold K_p_r12_Disk_Write (by kernel_rfl) h
theorem N_p_r12_Disk_Write.j22_eq (Q : Value → World → Prop) (s0 : Option Addr) (s2 : Int) (s3 : Option Addr) (s3n : Nat) (s3c : Nat) (s9 : Bool) (s12 : Int) (s13 : Int) (w : World) (h :
  cond (decide (((s3n : Nat) : Int) > 0))
  (N_p_r12_Disk_Write.j23 Q s0 s2 s3 s3n s3c s9 s12 s13 w)
  (N_p_r12_Disk_Write.j27 Q s0 s9 w)) :
N_p_r12_Disk_Write.j22 Q s0 s2 s3 s3n s3c s9 s12 s13 w := Nd_fold K_p_r12_Disk_Write (by kernel_rfl) h
theorem N_p_r12_Disk_Write.j23_eq (Q : Value → World → Prop) (s0 : Option Addr) (s2 : Int) (s3 : Option Addr) (s3n : Nat) (s3c : Nat) (s9 : Bool) (s12 : Int) (s13 : Int) (w : World) (h :
  N_p_r12_Disk_Write.j24 Q s0 s2 s3 s3n s3c s9 s12 s13 none 0 0 w) :
N_p_r12_Disk_Write.j23 Q s0 s2 s3 s3n s3c s9 s12 s13 w := Nd_fold K_p_r12_Disk_Write (by kernel_rfl) h
theorem N_p_r12_Disk_Write.j24_eq (Q : Value → World → Prop) (s0 : Option Addr) (s2 : Int) (s3 : Option Addr) (s3n : Nat) (s3c : Nat) (s9 : Bool) (s12 : Int) (s13 : Int) (s16 : Option Addr) (s16n : Nat) (s16c : Nat) (w : World) (h :
  sem PP (Builtin.append_ #[23, 23] 23 #[.slice s16 s16n s16c, .slice s3 s3n s3c]) w fun v1 w2 =>
  opnL (some v1) fun x3 x3n x3c =>
  N_p_r12_Disk_Write.j25 Q s0 s2 s9 s12 s13 x3 x3n x3c w2) :
N_p_r12_Disk_Write.j24 Q s0 s2 s3 s3n s3c s9 s12 s13 s16 s16n s16c w := Nd_fold K_p_r12_Disk_Write (by kernel_rfl) h
theorem N_p_r12_Disk_Write.j25_eq (Q : Value → World → Prop) (s0 : Option Addr) (s2 : Int) (s9 : Bool) (s12 : Int) (s13 : Int) (s16 : Option Addr) (s16n : Nat) (s16c : Nat) (w : World) (h :
  opnA s0 fun ad1 =>
  opnL (w.cell? (ad1.add 10)) fun x2 x2n x2c =>
  alC #[.int .i64 s12, .int .i64 s2, .slice s16 s16n s16c] 135 w fun p3 w4 =>
  sem PP (Builtin.append_ #[105, 105] 105 #[.slice x2 x2n x2c, .slice (some p3) 1 1]) w4 fun v5 w6 =>
  opnL (some v5) fun x7 x7n x7c =>
  opnA s0 fun ad8 =>
  stC (ad8.add 10) (.slice x7 x7n x7c) w6 fun w9 =>
  N_p_r12_Disk_Write.j26 Q s0 s9 s12 s13 w9) :
N_p_r12_Disk_Write.j25 Q s0 s2 s9 s12 s13 s16 s16n s16c w := Nd_fold K_p_r12_Disk_Write (by kernel_rfl) h
theorem N_p_r12_Disk_Write.j26_eq (Q : Value → World → Prop) (s0 : Option Addr) (s9 : Bool) (s12 : Int) (s13 : Int) (w : World) (h :
  opnA s0 fun ad1 =>
  opnL (w.cell? (ad1.add 6)) fun x2 x2n x2c =>
  (0 : Int) ≤ s12 ∧
  s12 < ((x2n : Nat) : Int) ∧
  opnA x2 fun ad3 =>
  stC (ad3.add (Int.toNat s12 * 1)) (.int .i64 s13) w fun w4 =>
  N_p_r12_Disk_Write.j27 Q s0 s9 w4) :
N_p_r12_Disk_Write.j26 Q s0 s9 s12 s13 w := Nd_fold K_p_r12_Disk_Write (by kernel_rfl) h
theorem N_p_r12_Disk_Write.j27_eq (Q : Value → World → Prop) (s0 : Option Addr) (s9 : Bool) (w : World) (h :
  C_p_r12_Disk_ended #[.pointer s0, .bool s9] w fun v1 w2 =>
  opnI .i64 (some v1) fun x3 =>
  Q (.int .i64 x3) w2) :
N_p_r12_Disk_Write.j27 Q s0 s9 w := Nd_fold K_p_r12_Disk_Write (by kernel_rfl) h
theorem C_p_r12_Disk_Write_eq (Q : Value → World → Prop) (a0 : Option Addr) (a1 : ByteArray) (a2 : Int) (a3 : Option Addr) (a3n : Nat) (a3c : Nat) (w : World) (h :
  opnA a0 fun ad1 =>
  opnB (w.cell? (ad1.add 1)) fun x2 =>
  cond x2
  (Q (.int .i64 125) w)
  (C_p_r12_Disk_called #[.pointer a0] w fun v3 w4 =>
  opnB (some v3) fun x5 =>
  C_r12_IsName #[.string a1] w4 fun v6 w7 =>
  opnB (some v6) fun x8 =>
  cond (!x8)
  (Q (.int .i64 120) w7)
  (opnA a0 fun ad9 =>
  opnL (w7.cell? (ad9.add 8)) fun x10 x10n x10c =>
  C_r12_find #[.slice x10 x10n x10c, .string a1] w7 fun v11 w12 =>
  opnI .i64 (some v11) fun x13 =>
  cond (decide (x13 < 0))
  (Q (.int .i64 121) w12)
  (cond (decide (a2 < 0))
  (N_p_r12_Disk_Write.j11 Q w12)
  (cond (decide (a2 > 1048576))
  (N_p_r12_Disk_Write.j11 Q w12)
  (opnA a0 fun ad14 =>
  opnL (w12.cell? (ad14.add 8)) fun x15 x15n x15c =>
  (0 : Int) ≤ x13 ∧
  x13 < ((x15n : Nat) : Int) ∧
  opnA x15 fun ad16 =>
  opnI .i64 (w12.cell? ((ad16.add (Int.toNat x13 * 2)).add 1)) fun x17 =>
  opnA a0 fun ad18 =>
  opnL (w12.cell? (ad18.add 6)) fun x19 x19n x19c =>
  (0 : Int) ≤ x17 ∧
  x17 < ((x19n : Nat) : Int) ∧
  opnA x19 fun ad20 =>
  opnI .i64 (w12.cell? (ad20.add (Int.toNat x17 * 1))) fun x21 =>
  cond (decide (((a3n : Nat) : Int) > 0))
  (cond (decide ((IntKind.wrap .i64 (a2 + ((a3n : Nat) : Int))) > x21))
  (N_p_r12_Disk_Write.j16 Q a0 a2 a3 a3n a3c x5 x17 (IntKind.wrap .i64 (a2 + ((a3n : Nat) : Int))) w12)
  (N_p_r12_Disk_Write.j16 Q a0 a2 a3 a3n a3c x5 x17 x21 w12))
  (N_p_r12_Disk_Write.j16 Q a0 a2 a3 a3n a3c x5 x17 x21 w12))))))) :
C_p_r12_Disk_Write #[.pointer a0, .string a1, .int .i64 a2, .slice a3 a3n a3c] w Q := C_fold K_p_r12_Disk_Write (by kernel_rfl) h
noncomputable def B_p_r12_Disk_Sync : Code := match Tryz.f72.body with | some c => c | _ => .skip
noncomputable def X_p_r12_Disk_Sync : Cx := { P := PP, fn := 72, N := 94, tab := tab, results := [.tmp 4], iter := fun _ => (.none, .none), dyn := fun _ => false, live := fun r => cond (Nat.beq r 12) (some [0, 5, 7]) (cond (Nat.beq r 13) (some [0, 5, 8]) (cond (Nat.beq r 14) (some [0, 5, 8]) (cond (Nat.beq r 15) (some [0, 5, 8, 9]) (cond (Nat.beq r 16) (some [0, 5, 8, 9, 10]) (cond (Nat.beq r 17) (some [0, 5, 8, 9, 10]) (none)))))) }
theorem K_p_r12_Disk_Sync : OkF X_p_r12_Disk_Sync B_p_r12_Disk_Sync Tryz.f72 := ⟨⟨tab_ok, mix_ok⟩, Tryz.func72, by kernel_rfl, by kernel_rfl, by kernel_rfl, by kernel_rfl⟩
noncomputable def N_p_r12_Disk_Sync.j12 (Q : Value → World → Prop) (s0 : Option Addr) (s5 : Bool) (s7 : Int) (w : World) : Prop := Nd X_p_r12_Disk_Sync Q [(0, 0, .pointer s0), (5, 5, .bool s5), (7, 7, .int .i64 s7)] [.code (B_p_r12_Disk_Sync.r.r.r.r.r.r.r.r.l), .code (B_p_r12_Disk_Sync.r.r.r.r.r.r.r.r.r)] w
noncomputable def N_p_r12_Disk_Sync.j13 (Q : Value → World → Prop) (s0 : Option Addr) (s5 : Bool) (s8 : Int) (w : World) : Prop := Nd X_p_r12_Disk_Sync Q [(0, 0, .pointer s0), (5, 5, .bool s5), (8, 8, .int .i64 s8)] [.code (B_p_r12_Disk_Sync.r.r.r.r.r.r.r.r.r.l), .code (B_p_r12_Disk_Sync.r.r.r.r.r.r.r.r.r.r)] w
noncomputable def N_p_r12_Disk_Sync.j14 (Q : Value → World → Prop) (s0 : Option Addr) (s5 : Bool) (s8 : Int) (w : World) : Prop := Nd X_p_r12_Disk_Sync Q [(0, 0, .pointer s0), (5, 5, .bool s5), (8, 8, .int .i64 s8)] [.code (B_p_r12_Disk_Sync.r.r.r.r.r.r.r.r.r.r.l), .code (B_p_r12_Disk_Sync.r.r.r.r.r.r.r.r.r.r.r)] w
noncomputable def N_p_r12_Disk_Sync.j15 (Q : Value → World → Prop) (s0 : Option Addr) (s5 : Bool) (s8 : Int) (s9 : Option Addr) (s9n : Nat) (s9c : Nat) (w : World) : Prop := Nd X_p_r12_Disk_Sync Q [(0, 0, .pointer s0), (5, 5, .bool s5), (8, 8, .int .i64 s8), (9, 9, .slice s9 s9n s9c)] [.code (B_p_r12_Disk_Sync.r.r.r.r.r.r.r.r.r.r.r.l.l), .code (B_p_r12_Disk_Sync.r.r.r.r.r.r.r.r.r.r.r.l.r), .code (B_p_r12_Disk_Sync.r.r.r.r.r.r.r.r.r.r.r.r)] w
noncomputable def N_p_r12_Disk_Sync.j16 (Q : Value → World → Prop) (s0 : Option Addr) (s5 : Bool) (s8 : Int) (s9 : Option Addr) (s9n : Nat) (s9c : Nat) (s10 : Int) (w : World) : Prop := Nd X_p_r12_Disk_Sync Q [(0, 0, .pointer s0), (5, 5, .bool s5), (8, 8, .int .i64 s8), (9, 9, .slice s9 s9n s9c), (10, 10, .int .i64 s10)] [.code (B_p_r12_Disk_Sync.r.r.r.r.r.r.r.r.r.r.r.l.r.l.l.l.l), .code (B_p_r12_Disk_Sync.r.r.r.r.r.r.r.r.r.r.r.l.r.l.l.l.r), .code (B_p_r12_Disk_Sync.r.r.r.r.r.r.r.r.r.r.r.l.r.l.l.r), .inLoop (B_p_r12_Disk_Sync.r.r.r.r.r.r.r.r.r.r.r.l.r.l.l), .inBlock 0, .code (B_p_r12_Disk_Sync.r.r.r.r.r.r.r.r.r.r.r.r)] w
noncomputable def N_p_r12_Disk_Sync.j17 (Q : Value → World → Prop) (s0 : Option Addr) (s5 : Bool) (s8 : Int) (s9 : Option Addr) (s9n : Nat) (s9c : Nat) (s10 : Int) (w : World) : Prop := Nd X_p_r12_Disk_Sync Q [(0, 0, .pointer s0), (5, 5, .bool s5), (8, 8, .int .i64 s8), (9, 9, .slice s9 s9n s9c), (10, 10, .int .i64 s10)] [.code (B_p_r12_Disk_Sync.r.r.r.r.r.r.r.r.r.r.r.l.r.l.l.r.r), .inLoop (B_p_r12_Disk_Sync.r.r.r.r.r.r.r.r.r.r.r.l.r.l.l), .inBlock 0, .code (B_p_r12_Disk_Sync.r.r.r.r.r.r.r.r.r.r.r.r)] w
theorem N_p_r12_Disk_Sync.j12_eq (Q : Value → World → Prop) (s0 : Option Addr) (s5 : Bool) (s7 : Int) (w : World) (h :
  opnA s0 fun ad1 =>
  opnL (w.cell? (ad1.add 8)) fun x2 x2n x2c =>
  (0 : Int) ≤ s7 ∧
  s7 < ((x2n : Nat) : Int) ∧
  opnA x2 fun ad3 =>
  opnI .i64 (w.cell? ((ad3.add (Int.toNat s7 * 2)).add 1)) fun x4 =>
  N_p_r12_Disk_Sync.j13 Q s0 s5 x4 w) :
N_p_r12_Disk_Sync.j12 Q s0 s5 s7 w := Nd_fold K_p_r12_Disk_Sync (by kernel_rfl) h
theorem N_p_r12_Disk_Sync.j13_eq (Q : Value → World → Prop) (s0 : Option Addr) (s5 : Bool) (s8 : Int) (w : World) (h :
  drw w fun w1 =>
  opnA s0 fun ad2 =>
  opnL (w1.cell? (ad2.add 5)) fun x3 x3n x3c =>
  C_p_r12_Disk_now #[.pointer s0, .int .i64 s8] w1 fun v4 w5 =>
  opnL (some v4) fun x6 x6n x6c =>
  (opnL (w5.cell? (ad2.add 5)) fun x7 x7n x7c =>
  ((.slice x7 x7n x7c) : Value) = .slice x3 x3n x3c) ∧
  (0 : Int) ≤ s8 ∧
  s8 < ((x3n : Nat) : Int) ∧
  opnA x3 fun ad8 =>
  stC (ad8.add (Int.toNat s8 * 1)) (.slice x6 x6n x6c) w5 fun w9 =>
  N_p_r12_Disk_Sync.j14 Q s0 s5 s8 w9) :
N_p_r12_Disk_Sync.j13 Q s0 s5 s8 w := Nd_fold K_p_r12_Disk_Sync (by kernel_rfl) h
theorem N_p_r12_Disk_Sync.j14_eq (Q : Value → World → Prop) (s0 : Option Addr) (s5 : Bool) (s8 : Int) (w : World) (h :
  N_p_r12_Disk_Sync.j15 Q s0 s5 s8 none 0 0 w) :
N_p_r12_Disk_Sync.j14 Q s0 s5 s8 w := Nd_fold K_p_r12_Disk_Sync (by kernel_rfl) h
theorem N_p_r12_Disk_Sync.j15_eq (Q : Value → World → Prop) (s0 : Option Addr) (s5 : Bool) (s8 : Int) (s9 : Option Addr) (s9n : Nat) (s9c : Nat) (w : World) (h :
  N_p_r12_Disk_Sync.j16 Q s0 s5 s8 s9 s9n s9c 0 w) :
N_p_r12_Disk_Sync.j15 Q s0 s5 s8 s9 s9n s9c w := Nd_fold K_p_r12_Disk_Sync (by kernel_rfl) h
theorem N_p_r12_Disk_Sync.j16_eq (Q : Value → World → Prop) (s0 : Option Addr) (s5 : Bool) (s8 : Int) (s9 : Option Addr) (s9n : Nat) (s9c : Nat) (s10 : Int) (w : World) (h :
  opnA s0 fun ad1 =>
  opnL (w.cell? (ad1.add 10)) fun x2 x2n x2c =>
  cond (decide (s10 < ((x2n : Nat) : Int)))
  (opnA s0 fun ad3 =>
  opnL (w.cell? (ad3.add 10)) fun x4 x4n x4c =>
  (0 : Int) ≤ s10 ∧
  s10 < ((x4n : Nat) : Int) ∧
  opnA x4 fun ad5 =>
  opnI .i64 (w.cell? ((ad5.add (Int.toNat s10 * 3)).add 0)) fun x6 =>
  cond (x6 != s8)
  (opnA s0 fun ad7 =>
  opnL (w.cell? (ad7.add 10)) fun x8 x8n x8c =>
  (0 : Int) ≤ s10 ∧
  s10 < ((x8n : Nat) : Int) ∧
  opnA x8 fun ad9 =>
  opnI .i64 (w.cell? ((ad9.add (Int.toNat s10 * 3)).add 0)) fun x10 =>
  opnI .i64 (w.cell? ((ad9.add (Int.toNat s10 * 3)).add 1)) fun x11 =>
  opnL (w.cell? ((ad9.add (Int.toNat s10 * 3)).add 2)) fun x12 x12n x12c =>
  alC #[.int .i64 x10, .int .i64 x11, .slice x12 x12n x12c] 135 w fun p13 w14 =>
  sem PP (Builtin.append_ #[105, 105] 105 #[.slice s9 s9n s9c, .slice (some p13) 1 1]) w14 fun v15 w16 =>
  opnL (some v15) fun x17 x17n x17c =>
  N_p_r12_Disk_Sync.j17 Q s0 s5 s8 x17 x17n x17c s10 w16)
  (N_p_r12_Disk_Sync.j17 Q s0 s5 s8 s9 s9n s9c s10 w))
  (opnA s0 fun ad18 =>
  stC (ad18.add 10) (.slice s9 s9n s9c) w fun w19 =>
  C_p_r12_Disk_ended #[.pointer s0, .bool s5] w19 fun v20 w21 =>
  opnI .i64 (some v20) fun x22 =>
  Q (.int .i64 x22) w21)) :
N_p_r12_Disk_Sync.j16 Q s0 s5 s8 s9 s9n s9c s10 w := Nd_fold K_p_r12_Disk_Sync (by kernel_rfl) h
theorem N_p_r12_Disk_Sync.j17_eq (Q : Value → World → Prop) (s0 : Option Addr) (s5 : Bool) (s8 : Int) (s9 : Option Addr) (s9n : Nat) (s9c : Nat) (s10 : Int) (w : World) (h :
  N_p_r12_Disk_Sync.j16 Q s0 s5 s8 s9 s9n s9c (IntKind.wrap .i64 (s10 + 1)) w) :
N_p_r12_Disk_Sync.j17 Q s0 s5 s8 s9 s9n s9c s10 w := Nd_fold K_p_r12_Disk_Sync (by kernel_rfl) h
theorem C_p_r12_Disk_Sync_eq (Q : Value → World → Prop) (a0 : Option Addr) (a1 : ByteArray) (w : World) (h :
  opnA a0 fun ad1 =>
  opnB (w.cell? (ad1.add 1)) fun x2 =>
  cond x2
  (Q (.int .i64 125) w)
  (C_p_r12_Disk_called #[.pointer a0] w fun v3 w4 =>
  opnB (some v3) fun x5 =>
  C_r12_IsName #[.string a1] w4 fun v6 w7 =>
  opnB (some v6) fun x8 =>
  cond (!x8)
  (Q (.int .i64 120) w7)
  (opnA a0 fun ad9 =>
  opnL (w7.cell? (ad9.add 8)) fun x10 x10n x10c =>
  C_r12_find #[.slice x10 x10n x10c, .string a1] w7 fun v11 w12 =>
  opnI .i64 (some v11) fun x13 =>
  cond (decide (x13 < 0))
  (Q (.int .i64 121) w12)
  (cond x5
  (opnA a0 fun ad14 =>
  opnI .i64 (w12.cell? (ad14.add 4)) fun x15 =>
  cond (x15 != 125)
  (opnA a0 fun ad16 =>
  opnI .i64 (w12.cell? (ad16.add 4)) fun x17 =>
  Q (.int .i64 x17) w12)
  (N_p_r12_Disk_Sync.j12 Q a0 true x13 w12))
  (N_p_r12_Disk_Sync.j12 Q a0 false x13 w12))))) :
C_p_r12_Disk_Sync #[.pointer a0, .string a1] w Q := C_fold K_p_r12_Disk_Sync (by kernel_rfl) h
noncomputable def B_p_r12_Disk_SyncNames : Code := match Tryz.f73.body with | some c => c | _ => .skip
noncomputable def X_p_r12_Disk_SyncNames : Cx := { P := PP, fn := 73, N := 35, tab := tab, results := [.tmp 2], iter := fun _ => (.none, .none), dyn := fun _ => false, live := fun r => cond (Nat.beq r 6) (some [0, 3]) (cond (Nat.beq r 7) (some [0, 3]) (cond (Nat.beq r 8) (some [0, 3]) (none))) }
theorem K_p_r12_Disk_SyncNames : OkF X_p_r12_Disk_SyncNames B_p_r12_Disk_SyncNames Tryz.f73 := ⟨⟨tab_ok, mix_ok⟩, Tryz.func73, by kernel_rfl, by kernel_rfl, by kernel_rfl, by kernel_rfl⟩
noncomputable def N_p_r12_Disk_SyncNames.j6 (Q : Value → World → Prop) (s0 : Option Addr) (s3 : Bool) (w : World) : Prop := Nd X_p_r12_Disk_SyncNames Q [(0, 0, .pointer s0), (3, 3, .bool s3)] [.code (B_p_r12_Disk_SyncNames.r.r.r.r.l), .code (B_p_r12_Disk_SyncNames.r.r.r.r.r)] w
noncomputable def N_p_r12_Disk_SyncNames.j7 (Q : Value → World → Prop) (s0 : Option Addr) (s3 : Bool) (w : World) : Prop := Nd X_p_r12_Disk_SyncNames Q [(0, 0, .pointer s0), (3, 3, .bool s3)] [.code (B_p_r12_Disk_SyncNames.r.r.r.r.r.l), .code (B_p_r12_Disk_SyncNames.r.r.r.r.r.r)] w
noncomputable def N_p_r12_Disk_SyncNames.j8 (Q : Value → World → Prop) (s0 : Option Addr) (s3 : Bool) (w : World) : Prop := Nd X_p_r12_Disk_SyncNames Q [(0, 0, .pointer s0), (3, 3, .bool s3)] [.code (B_p_r12_Disk_SyncNames.r.r.r.r.r.r.l), .code (B_p_r12_Disk_SyncNames.r.r.r.r.r.r.r)] w
theorem N_p_r12_Disk_SyncNames.j6_eq (Q : Value → World → Prop) (s0 : Option Addr) (s3 : Bool) (w : World) (h :
  opnA s0 fun ad1 =>
  opnL (w.cell? (ad1.add 8)) fun x2 x2n x2c =>
  opnA s0 fun ad3 =>
  stC (ad3.add 7) (.slice x2 x2n x2c) w fun w4 =>
  N_p_r12_Disk_SyncNames.j7 Q s0 s3 w4) :
N_p_r12_Disk_SyncNames.j6 Q s0 s3 w := Nd_fold K_p_r12_Disk_SyncNames (by kernel_rfl) h
theorem N_p_r12_Disk_SyncNames.j7_eq (Q : Value → World → Prop) (s0 : Option Addr) (s3 : Bool) (w : World) (h :
  opnA s0 fun ad1 =>
  stC (ad1.add 9) (.slice none 0 0) w fun w2 =>
  N_p_r12_Disk_SyncNames.j8 Q s0 s3 w2) :
N_p_r12_Disk_SyncNames.j7 Q s0 s3 w := Nd_fold K_p_r12_Disk_SyncNames (by kernel_rfl) h
theorem N_p_r12_Disk_SyncNames.j8_eq (Q : Value → World → Prop) (s0 : Option Addr) (s3 : Bool) (w : World) (h :
  C_p_r12_Disk_ended #[.pointer s0, .bool s3] w fun v1 w2 =>
  opnI .i64 (some v1) fun x3 =>
  Q (.int .i64 x3) w2) :
N_p_r12_Disk_SyncNames.j8 Q s0 s3 w := Nd_fold K_p_r12_Disk_SyncNames (by kernel_rfl) h
theorem C_p_r12_Disk_SyncNames_eq (Q : Value → World → Prop) (a0 : Option Addr) (w : World) (h :
  opnA a0 fun ad1 =>
  opnB (w.cell? (ad1.add 1)) fun x2 =>
  cond x2
  (Q (.int .i64 125) w)
  (C_p_r12_Disk_called #[.pointer a0] w fun v3 w4 =>
  opnB (some v3) fun x5 =>
  cond x5
  (opnA a0 fun ad6 =>
  opnI .i64 (w4.cell? (ad6.add 4)) fun x7 =>
  cond (x7 != 125)
  (opnA a0 fun ad8 =>
  opnI .i64 (w4.cell? (ad8.add 4)) fun x9 =>
  Q (.int .i64 x9) w4)
  (N_p_r12_Disk_SyncNames.j6 Q a0 true w4))
  (N_p_r12_Disk_SyncNames.j6 Q a0 false w4))) :
C_p_r12_Disk_SyncNames #[.pointer a0] w Q := C_fold K_p_r12_Disk_SyncNames (by kernel_rfl) h
noncomputable def B_p_r12_Disk_Rename : Code := match Tryz.f74.body with | some c => c | _ => .skip
noncomputable def X_p_r12_Disk_Rename : Cx := { P := PP, fn := 74, N := 53, tab := tab, results := [.tmp 6], iter := fun _ => (.none, .none), dyn := fun _ => false, live := fun r => cond (Nat.beq r 7) (some []) (cond (Nat.beq r 12) (some [0, 1, 2, 7]) (cond (Nat.beq r 13) (some [0, 7]) (none))) }
theorem K_p_r12_Disk_Rename : OkF X_p_r12_Disk_Rename B_p_r12_Disk_Rename Tryz.f74 := ⟨⟨tab_ok, mix_ok⟩, Tryz.func74, by kernel_rfl, by kernel_rfl, by kernel_rfl, by kernel_rfl⟩
noncomputable def N_p_r12_Disk_Rename.j7 (Q : Value → World → Prop) (w : World) : Prop := Nd X_p_r12_Disk_Rename Q [] [.code (B_p_r12_Disk_Rename.r.r.r.r.r.l.r.l.l), .code (B_p_r12_Disk_Rename.r.r.r.r.r.l.r.l.r), .code (B_p_r12_Disk_Rename.r.r.r.r.r.r)] w
noncomputable def N_p_r12_Disk_Rename.j12 (Q : Value → World → Prop) (s0 : Option Addr) (s1 : ByteArray) (s2 : ByteArray) (s7 : Bool) (w : World) : Prop := Nd X_p_r12_Disk_Rename Q [(0, 0, .pointer s0), (1, 1, .string s1), (2, 2, .string s2), (7, 7, .bool s7)] [.code (B_p_r12_Disk_Rename.r.r.r.r.r.r.r.r.l), .code (B_p_r12_Disk_Rename.r.r.r.r.r.r.r.r.r)] w
noncomputable def N_p_r12_Disk_Rename.j13 (Q : Value → World → Prop) (s0 : Option Addr) (s7 : Bool) (w : World) : Prop := Nd X_p_r12_Disk_Rename Q [(0, 0, .pointer s0), (7, 7, .bool s7)] [.code (B_p_r12_Disk_Rename.r.r.r.r.r.r.r.r.r.l), .code (B_p_r12_Disk_Rename.r.r.r.r.r.r.r.r.r.r)] w
theorem N_p_r12_Disk_Rename.j7_eq (Q : Value → World → Prop) (w : World) (h :
  Q (.int .i64 120) w) :
N_p_r12_Disk_Rename.j7 Q w := Nd_fold K_p_r12_Disk_Rename (by kernel_rfl) h
theorem N_p_r12_Disk_Rename.j12_eq (Q : Value → World → Prop) (s0 : Option Addr) (s1 : ByteArray) (s2 : ByteArray) (s7 : Bool) (w : World) (h :
  C_p_r12_Disk_turn #[.pointer s0, .agg #[.int .i64 2, .string s1, .string s2, .int .i64 0]] w fun v1 w2 =>
  opnT (some v1) fun x3 =>
  x3.size = 0 ∧
  N_p_r12_Disk_Rename.j13 Q s0 s7 w2) :
N_p_r12_Disk_Rename.j12 Q s0 s1 s2 s7 w := Nd_fold K_p_r12_Disk_Rename (by kernel_rfl) h
theorem N_p_r12_Disk_Rename.j13_eq (Q : Value → World → Prop) (s0 : Option Addr) (s7 : Bool) (w : World) (h :
  C_p_r12_Disk_ended #[.pointer s0, .bool s7] w fun v1 w2 =>
  opnI .i64 (some v1) fun x3 =>
  Q (.int .i64 x3) w2) :
N_p_r12_Disk_Rename.j13 Q s0 s7 w := Nd_fold K_p_r12_Disk_Rename (by kernel_rfl) h
theorem C_p_r12_Disk_Rename_eq (Q : Value → World → Prop) (a0 : Option Addr) (a1 : ByteArray) (a2 : ByteArray) (w : World) (h :
  opnA a0 fun ad1 =>
  opnB (w.cell? (ad1.add 1)) fun x2 =>
  cond x2
  (Q (.int .i64 125) w)
  (C_p_r12_Disk_called #[.pointer a0] w fun v3 w4 =>
  opnB (some v3) fun x5 =>
  C_r12_IsName #[.string a1] w4 fun v6 w7 =>
  opnB (some v6) fun x8 =>
  C_r12_IsName #[.string a2] w7 fun v9 w10 =>
  opnB (some v9) fun x11 =>
  cond (!x8)
  (N_p_r12_Disk_Rename.j7 Q w10)
  (cond (!x11)
  (N_p_r12_Disk_Rename.j7 Q w10)
  (opnA a0 fun ad12 =>
  opnL (w10.cell? (ad12.add 8)) fun x13 x13n x13c =>
  C_r12_find #[.slice x13 x13n x13c, .string a1] w10 fun v14 w15 =>
  opnI .i64 (some v14) fun x16 =>
  cond (decide (x16 < 0))
  (Q (.int .i64 121) w15)
  (cond x5
  (opnA a0 fun ad17 =>
  opnI .i64 (w15.cell? (ad17.add 4)) fun x18 =>
  cond (x18 != 125)
  (opnA a0 fun ad19 =>
  opnI .i64 (w15.cell? (ad19.add 4)) fun x20 =>
  Q (.int .i64 x20) w15)
  (N_p_r12_Disk_Rename.j12 Q a0 a1 a2 true w15))
  (N_p_r12_Disk_Rename.j12 Q a0 a1 a2 false w15)))))) :
C_p_r12_Disk_Rename #[.pointer a0, .string a1, .string a2] w Q := C_fold K_p_r12_Disk_Rename (by kernel_rfl) h
noncomputable def B_p_r12_Disk_Remove : Code := match Tryz.f75.body with | some c => c | _ => .skip
noncomputable def X_p_r12_Disk_Remove : Cx := { P := PP, fn := 75, N := 43, tab := tab, results := [.tmp 4], iter := fun _ => (.none, .none), dyn := fun _ => false, live := fun r => cond (Nat.beq r 11) (some [0, 1, 5]) (cond (Nat.beq r 12) (some [0, 5]) (none)) }
theorem K_p_r12_Disk_Remove : OkF X_p_r12_Disk_Remove B_p_r12_Disk_Remove Tryz.f75 := ⟨⟨tab_ok, mix_ok⟩, Tryz.func75, by kernel_rfl, by kernel_rfl, by kernel_rfl, by kernel_rfl⟩
noncomputable def N_p_r12_Disk_Remove.j11 (Q : Value → World → Prop) (s0 : Option Addr) (s1 : ByteArray) (s5 : Bool) (w : World) : Prop := Nd X_p_r12_Disk_Remove Q [(0, 0, .pointer s0), (1, 1, .string s1), (5, 5, .bool s5)] [.code (B_p_r12_Disk_Remove.r.r.r.r.r.r.r.l), .code (B_p_r12_Disk_Remove.r.r.r.r.r.r.r.r)] w
noncomputable def N_p_r12_Disk_Remove.j12 (Q : Value → World → Prop) (s0 : Option Addr) (s5 : Bool) (w : World) : Prop := Nd X_p_r12_Disk_Remove Q [(0, 0, .pointer s0), (5, 5, .bool s5)] [.code (B_p_r12_Disk_Remove.r.r.r.r.r.r.r.r.l), .code (B_p_r12_Disk_Remove.r.r.r.r.r.r.r.r.r)] w
theorem N_p_r12_Disk_Remove.j11_eq (Q : Value → World → Prop) (s0 : Option Addr) (s1 : ByteArray) (s5 : Bool) (w : World) (h :
  C_p_r12_Disk_turn #[.pointer s0, .agg #[.int .i64 3, .string s1, .string (⟨#[]⟩ : ByteArray), .int .i64 0]] w fun v1 w2 =>
  opnT (some v1) fun x3 =>
  x3.size = 0 ∧
  N_p_r12_Disk_Remove.j12 Q s0 s5 w2) :
N_p_r12_Disk_Remove.j11 Q s0 s1 s5 w := Nd_fold K_p_r12_Disk_Remove (by kernel_rfl) h
theorem N_p_r12_Disk_Remove.j12_eq (Q : Value → World → Prop) (s0 : Option Addr) (s5 : Bool) (w : World) (h :
  C_p_r12_Disk_ended #[.pointer s0, .bool s5] w fun v1 w2 =>
  opnI .i64 (some v1) fun x3 =>
  Q (.int .i64 x3) w2) :
N_p_r12_Disk_Remove.j12 Q s0 s5 w := Nd_fold K_p_r12_Disk_Remove (by kernel_rfl) h
theorem C_p_r12_Disk_Remove_eq (Q : Value → World → Prop) (a0 : Option Addr) (a1 : ByteArray) (w : World) (h :
  opnA a0 fun ad1 =>
  opnB (w.cell? (ad1.add 1)) fun x2 =>
  cond x2
  (Q (.int .i64 125) w)
  (C_p_r12_Disk_called #[.pointer a0] w fun v3 w4 =>
  opnB (some v3) fun x5 =>
  C_r12_IsName #[.string a1] w4 fun v6 w7 =>
  opnB (some v6) fun x8 =>
  cond (!x8)
  (Q (.int .i64 120) w7)
  (opnA a0 fun ad9 =>
  opnL (w7.cell? (ad9.add 8)) fun x10 x10n x10c =>
  C_r12_find #[.slice x10 x10n x10c, .string a1] w7 fun v11 w12 =>
  opnI .i64 (some v11) fun x13 =>
  cond (decide (x13 < 0))
  (Q (.int .i64 121) w12)
  (cond x5
  (opnA a0 fun ad14 =>
  opnI .i64 (w12.cell? (ad14.add 4)) fun x15 =>
  cond (x15 != 125)
  (opnA a0 fun ad16 =>
  opnI .i64 (w12.cell? (ad16.add 4)) fun x17 =>
  Q (.int .i64 x17) w12)
  (N_p_r12_Disk_Remove.j11 Q a0 a1 true w12))
  (N_p_r12_Disk_Remove.j11 Q a0 a1 false w12))))) :
C_p_r12_Disk_Remove #[.pointer a0, .string a1] w Q := C_fold K_p_r12_Disk_Remove (by kernel_rfl) h
noncomputable def B_p_r12_Disk_Fail : Code := match Tryz.f76.body with | some c => c | _ => .skip
noncomputable def X_p_r12_Disk_Fail : Cx := { P := PP, fn := 76, N := 34, tab := tab, results := [.tmp 6], iter := fun _ => (.none, .none), dyn := fun _ => false, live := fun r => cond (Nat.beq r 3) (some [0, 1, 2]) (cond (Nat.beq r 4) (some []) (cond (Nat.beq r 5) (some [0, 1, 2]) (cond (Nat.beq r 6) (some [0, 1, 2]) (cond (Nat.beq r 7) (some [0, 1, 2]) (cond (Nat.beq r 8) (some [0, 2]) (cond (Nat.beq r 9) (some []) (none))))))) }
theorem K_p_r12_Disk_Fail : OkF X_p_r12_Disk_Fail B_p_r12_Disk_Fail Tryz.f76 := ⟨⟨tab_ok, mix_ok⟩, Tryz.func76, by kernel_rfl, by kernel_rfl, by kernel_rfl, by kernel_rfl⟩
noncomputable def N_p_r12_Disk_Fail.j3 (Q : Value → World → Prop) (s0 : Option Addr) (s1 : Int) (s2 : Int) (w : World) : Prop := Nd X_p_r12_Disk_Fail Q [(0, 0, .pointer s0), (1, 1, .int .i64 s1), (2, 2, .int .i64 s2)] [.code (B_p_r12_Disk_Fail.r.r.l.l), .code (B_p_r12_Disk_Fail.r.r.l.r), .code (B_p_r12_Disk_Fail.r.r.r)] w
noncomputable def N_p_r12_Disk_Fail.j4 (Q : Value → World → Prop) (w : World) : Prop := Nd X_p_r12_Disk_Fail Q [] [.code (B_p_r12_Disk_Fail.r.r.l.r.l.l), .code (B_p_r12_Disk_Fail.r.r.l.r.l.r), .code (B_p_r12_Disk_Fail.r.r.r)] w
noncomputable def N_p_r12_Disk_Fail.j5 (Q : Value → World → Prop) (s0 : Option Addr) (s1 : Int) (s2 : Int) (w : World) : Prop := Nd X_p_r12_Disk_Fail Q [(0, 0, .pointer s0), (1, 1, .int .i64 s1), (2, 2, .int .i64 s2)] [.code (B_p_r12_Disk_Fail.r.r.r.l), .code (B_p_r12_Disk_Fail.r.r.r.r)] w
noncomputable def N_p_r12_Disk_Fail.j6 (Q : Value → World → Prop) (s0 : Option Addr) (s1 : Int) (s2 : Int) (w : World) : Prop := Nd X_p_r12_Disk_Fail Q [(0, 0, .pointer s0), (1, 1, .int .i64 s1), (2, 2, .int .i64 s2)] [.code (B_p_r12_Disk_Fail.r.r.r.r.l.l), .code (B_p_r12_Disk_Fail.r.r.r.r.l.r), .code (B_p_r12_Disk_Fail.r.r.r.r.r)] w
noncomputable def N_p_r12_Disk_Fail.j7 (Q : Value → World → Prop) (s0 : Option Addr) (s1 : Int) (s2 : Int) (w : World) : Prop := Nd X_p_r12_Disk_Fail Q [(0, 0, .pointer s0), (1, 1, .int .i64 s1), (2, 2, .int .i64 s2)] [.code (B_p_r12_Disk_Fail.r.r.r.r.l.r.l), .code (B_p_r12_Disk_Fail.r.r.r.r.r)] w
noncomputable def N_p_r12_Disk_Fail.j8 (Q : Value → World → Prop) (s0 : Option Addr) (s2 : Int) (w : World) : Prop := Nd X_p_r12_Disk_Fail Q [(0, 0, .pointer s0), (2, 2, .int .i64 s2)] [.code (B_p_r12_Disk_Fail.r.r.r.r.r.l), .code (B_p_r12_Disk_Fail.r.r.r.r.r.r)] w
noncomputable def N_p_r12_Disk_Fail.j9 (Q : Value → World → Prop) (w : World) : Prop := Nd X_p_r12_Disk_Fail Q [] [.code (B_p_r12_Disk_Fail.r.r.r.r.r.r.l), .code (B_p_r12_Disk_Fail.r.r.r.r.r.r.r)] w
theorem N_p_r12_Disk_Fail.j3_eq (Q : Value → World → Prop) (s0 : Option Addr) (s1 : Int) (s2 : Int) (w : World) (h :
  opnA s0 fun ad1 =>
  opnB (w.cell? (ad1.add 1)) fun x2 =>
  cond x2
  (N_p_r12_Disk_Fail.j4 Q w)
  (N_p_r12_Disk_Fail.j5 Q s0 s1 s2 w)) :
N_p_r12_Disk_Fail.j3 Q s0 s1 s2 w := Nd_fold K_p_r12_Disk_Fail (by kernel_rfl) h
theorem N_p_r12_Disk_Fail.j4_eq (Q : Value → World → Prop) (w : World) (h :
  Q (.int .i64 125) w) :
N_p_r12_Disk_Fail.j4 Q w := Nd_fold K_p_r12_Disk_Fail (by kernel_rfl) h
theorem N_p_r12_Disk_Fail.j5_eq (Q : Value → World → Prop) (s0 : Option Addr) (s1 : Int) (s2 : Int) (w : World) (h :
  opnA s0 fun ad1 =>
  stC (ad1.add 3) (.int .i64 0) w fun w2 =>
  N_p_r12_Disk_Fail.j6 Q s0 s1 s2 w2) :
N_p_r12_Disk_Fail.j5 Q s0 s1 s2 w := Nd_fold K_p_r12_Disk_Fail (by kernel_rfl) h
theorem N_p_r12_Disk_Fail.j6_eq (Q : Value → World → Prop) (s0 : Option Addr) (s1 : Int) (s2 : Int) (w : World) (h :
  cond (decide (s1 > 0))
  (N_p_r12_Disk_Fail.j7 Q s0 s1 s2 w)
  (N_p_r12_Disk_Fail.j8 Q s0 s2 w)) :
N_p_r12_Disk_Fail.j6 Q s0 s1 s2 w := Nd_fold K_p_r12_Disk_Fail (by kernel_rfl) h
theorem N_p_r12_Disk_Fail.j7_eq (Q : Value → World → Prop) (s0 : Option Addr) (s1 : Int) (s2 : Int) (w : World) (h :
  opnA s0 fun ad1 =>
  stC (ad1.add 3) (.int .i64 s1) w fun w2 =>
  N_p_r12_Disk_Fail.j8 Q s0 s2 w2) :
N_p_r12_Disk_Fail.j7 Q s0 s1 s2 w := Nd_fold K_p_r12_Disk_Fail (by kernel_rfl) h
theorem N_p_r12_Disk_Fail.j8_eq (Q : Value → World → Prop) (s0 : Option Addr) (s2 : Int) (w : World) (h :
  opnA s0 fun ad1 =>
  stC (ad1.add 4) (.int .i64 s2) w fun w2 =>
  N_p_r12_Disk_Fail.j9 Q w2) :
N_p_r12_Disk_Fail.j8 Q s0 s2 w := Nd_fold K_p_r12_Disk_Fail (by kernel_rfl) h
theorem N_p_r12_Disk_Fail.j9_eq (Q : Value → World → Prop) (w : World) (h :
  Q (.int .i64 0) w) :
N_p_r12_Disk_Fail.j9 Q w := Nd_fold K_p_r12_Disk_Fail (by kernel_rfl) h
theorem C_p_r12_Disk_Fail_eq (Q : Value → World → Prop) (a0 : Option Addr) (a1 : Int) (a2 : Int) (w : World) (h :
  cond (a2 != 124)
  (cond (a2 != 123)
  (cond (a2 != 125)
  (Q (.int .i64 1) w)
  (N_p_r12_Disk_Fail.j3 Q a0 a1 a2 w))
  (N_p_r12_Disk_Fail.j3 Q a0 a1 a2 w))
  (N_p_r12_Disk_Fail.j3 Q a0 a1 a2 w)) :
C_p_r12_Disk_Fail #[.pointer a0, .int .i64 a1, .int .i64 a2] w Q := C_fold K_p_r12_Disk_Fail (by kernel_rfl) h
noncomputable def B_p_r12_Disk_Read : Code := match Tryz.f77.body with | some c => c | _ => .skip
noncomputable def X_p_r12_Disk_Read : Cx := { P := PP, fn := 77, N := 40, tab := tab, results := [.tmp 4, .tmp 5], iter := fun _ => (.none, .none), dyn := fun _ => false, live := fun _ => none }
theorem K_p_r12_Disk_Read : OkF X_p_r12_Disk_Read B_p_r12_Disk_Read Tryz.f77 := ⟨⟨tab_ok, mix_ok⟩, Tryz.func77, by kernel_rfl, by kernel_rfl, by kernel_rfl, by kernel_rfl⟩
theorem C_p_r12_Disk_Read_eq (Q : Value → World → Prop) (a0 : Option Addr) (a1 : ByteArray) (w : World) (h :
  opnA a0 fun ad1 =>
  opnB (w.cell? (ad1.add 1)) fun x2 =>
  cond x2
  (Q (.tuple #[.slice none 0 0, .int .i64 125]) w)
  (C_r12_IsName #[.string a1] w fun v3 w4 =>
  opnB (some v3) fun x5 =>
  cond (!x5)
  (Q (.tuple #[.slice none 0 0, .int .i64 120]) w4)
  (opnA a0 fun ad6 =>
  opnL (w4.cell? (ad6.add 8)) fun x7 x7n x7c =>
  C_r12_find #[.slice x7 x7n x7c, .string a1] w4 fun v8 w9 =>
  opnI .i64 (some v8) fun x10 =>
  cond (decide (x10 < 0))
  (Q (.tuple #[.slice none 0 0, .int .i64 121]) w9)
  (opnA a0 fun ad11 =>
  opnL (w9.cell? (ad11.add 8)) fun x12 x12n x12c =>
  (0 : Int) ≤ x10 ∧
  x10 < ((x12n : Nat) : Int) ∧
  opnA x12 fun ad13 =>
  opnI .i64 (w9.cell? ((ad13.add (Int.toNat x10 * 2)).add 1)) fun x14 =>
  C_p_r12_Disk_now #[.pointer a0, .int .i64 x14] w9 fun v15 w16 =>
  opnL (some v15) fun x17 x17n x17c =>
  sem PP (Builtin.append_ #[23, 23] 23 #[.slice none 0 0, .slice x17 x17n x17c]) w16 fun v18 w19 =>
  opnL (some v18) fun x20 x20n x20c =>
  Q (.tuple #[.slice x20 x20n x20c, .int .i64 0]) w19)))) :
C_p_r12_Disk_Read #[.pointer a0, .string a1] w Q := C_fold K_p_r12_Disk_Read (by kernel_rfl) h
noncomputable def B_l12_sameNames : Code := match Tryz.f78.body with | some c => c | _ => .skip
noncomputable def X_l12_sameNames : Cx := { P := PP, fn := 78, N := 26, tab := tab, results := [.tmp 4], iter := fun _ => (.none, .none), dyn := fun _ => false, live := fun r => cond (Nat.beq r 4) (some [0, 1, 5]) (none) }
theorem K_l12_sameNames : OkF X_l12_sameNames B_l12_sameNames Tryz.f78 := ⟨⟨tab_ok, mix_ok⟩, Tryz.func78, by kernel_rfl, by kernel_rfl, by kernel_rfl, by kernel_rfl⟩
noncomputable def N_l12_sameNames.j4 (Q : Value → World → Prop) (s0 : Option Addr) (s0n : Nat) (s0c : Nat) (s1 : Option Addr) (s1n : Nat) (s1c : Nat) (s5 : Int) (w : World) : Prop := Nd X_l12_sameNames Q [(0, 0, .slice s0 s0n s0c), (1, 1, .slice s1 s1n s1c), (5, 5, .int .i64 s5)] [.code (B_l12_sameNames.r.r.l.r.l.l.l.l), .code (B_l12_sameNames.r.r.l.r.l.l.l.r), .code (B_l12_sameNames.r.r.l.r.l.l.r), .inLoop (B_l12_sameNames.r.r.l.r.l.l), .inBlock 0, .code (B_l12_sameNames.r.r.r)] w
theorem N_l12_sameNames.j4_eq (Q : Value → World → Prop) (s0 : Option Addr) (s0n : Nat) (s0c : Nat) (s1 : Option Addr) (s1n : Nat) (s1c : Nat) (s5 : Int) (w : World) (h :
  cond (decide (s5 < ((s0n : Nat) : Int)))
  (drw w fun w1 =>
  (0 : Int) ≤ s5 ∧
  s5 < ((s0n : Nat) : Int) ∧
  opnA s0 fun ad2 =>
  (0 : Int) ≤ s5 ∧
  s5 < ((s1n : Nat) : Int) ∧
  opnA s1 fun ad3 =>
  opnS (w1.cell? (ad2.add (Int.toNat s5 * 1))) fun x4 =>
  opnS (w1.cell? (ad3.add (Int.toNat s5 * 1))) fun x5 =>
  cond (!(x4.toList == x5.toList))
  (Q (.bool false) w1)
  (N_l12_sameNames.j4 Q s0 s0n s0c s1 s1n s1c (IntKind.wrap .i64 (s5 + 1)) w1))
  (Q (.bool true) w)) :
N_l12_sameNames.j4 Q s0 s0n s0c s1 s1n s1c s5 w := Nd_fold K_l12_sameNames (by kernel_rfl) h
theorem C_l12_sameNames_eq (Q : Value → World → Prop) (a0 : Option Addr) (a0n : Nat) (a0c : Nat) (a1 : Option Addr) (a1n : Nat) (a1c : Nat) (w : World) (h :
  cond (((a0n : Nat) : Int) != ((a1n : Nat) : Int))
  (Q (.bool false) w)
  (N_l12_sameNames.j4 Q a0 a0n a0c a1 a1n a1c 0 w)) :
C_l12_sameNames #[.slice a0 a0n a0c, .slice a1 a1n a1c] w Q := C_fold K_l12_sameNames (by kernel_rfl) h
noncomputable def B_p_r12_Disk_List : Code := match Tryz.f79.body with | some c => c | _ => .skip
noncomputable def X_p_r12_Disk_List : Cx := { P := PP, fn := 79, N := 85, tab := tab, results := [.tmp 4], iter := fun _ => (.none, .none), dyn := fun _ => false, live := fun r => cond (Nat.beq r 4) (some [0, 1, 5]) (cond (Nat.beq r 6) (some [0, 1, 5, 6, 7]) (cond (Nat.beq r 7) (some [0, 1, 5, 6, 7]) (cond (Nat.beq r 11) (some [0, 1, 5, 6, 7, 8]) (cond (Nat.beq r 12) (some [0, 1, 5, 7]) (none))))) }
theorem K_p_r12_Disk_List : OkF X_p_r12_Disk_List B_p_r12_Disk_List Tryz.f79 := ⟨⟨tab_ok, mix_ok⟩, Tryz.func79, by kernel_rfl, by kernel_rfl, by kernel_rfl, by kernel_rfl⟩
noncomputable def N_p_r12_Disk_List.j4 (Q : Value → World → Prop) (s0 : Option Addr) (s1 : ByteArray) (s5 : Option Addr) (s5n : Nat) (s5c : Nat) (w : World) : Prop := Nd X_p_r12_Disk_List Q [(0, 0, .pointer s0), (1, 1, .string s1), (5, 5, .slice s5 s5n s5c)] [.code (B_p_r12_Disk_List.r.r.r.l.l.l.l), .code (B_p_r12_Disk_List.r.r.r.l.l.l.r), .inBlock 1, .inLoop (B_p_r12_Disk_List.r.r.r.l.l), .inBlock 0] w
noncomputable def N_p_r12_Disk_List.j6 (Q : Value → World → Prop) (s0 : Option Addr) (s1 : ByteArray) (s5 : Option Addr) (s5n : Nat) (s5c : Nat) (s6 : Int) (s7 : Int) (w : World) : Prop := Nd X_p_r12_Disk_List Q [(0, 0, .pointer s0), (1, 1, .string s1), (5, 5, .slice s5 s5n s5c), (6, 6, .int .i64 s6), (7, 7, .int .i64 s7)] [.code (B_p_r12_Disk_List.r.r.r.l.l.l.r.l.r.l.l.l.l), .code (B_p_r12_Disk_List.r.r.r.l.l.l.r.l.r.l.l.l.r), .code (B_p_r12_Disk_List.r.r.r.l.l.l.r.l.r.l.l.r), .inLoop (B_p_r12_Disk_List.r.r.r.l.l.l.r.l.r.l.l), .inBlock 2, .code (B_p_r12_Disk_List.r.r.r.l.l.l.r.r), .inBlock 1, .inLoop (B_p_r12_Disk_List.r.r.r.l.l), .inBlock 0] w
noncomputable def N_p_r12_Disk_List.j7 (Q : Value → World → Prop) (s0 : Option Addr) (s1 : ByteArray) (s5 : Option Addr) (s5n : Nat) (s5c : Nat) (s6 : Int) (s7 : Int) (w : World) : Prop := Nd X_p_r12_Disk_List Q [(0, 0, .pointer s0), (1, 1, .string s1), (5, 5, .slice s5 s5n s5c), (6, 6, .int .i64 s6), (7, 7, .int .i64 s7)] [.code (B_p_r12_Disk_List.r.r.r.l.l.l.r.l.r.l.l.r.r), .inLoop (B_p_r12_Disk_List.r.r.r.l.l.l.r.l.r.l.l), .inBlock 2, .code (B_p_r12_Disk_List.r.r.r.l.l.l.r.r), .inBlock 1, .inLoop (B_p_r12_Disk_List.r.r.r.l.l), .inBlock 0] w
noncomputable def N_p_r12_Disk_List.j11 (Q : Value → World → Prop) (s0 : Option Addr) (s1 : ByteArray) (s5 : Option Addr) (s5n : Nat) (s5c : Nat) (s6 : Int) (s7 : Int) (s8 : ByteArray) (w : World) : Prop := Nd X_p_r12_Disk_List Q [(0, 0, .pointer s0), (1, 1, .string s1), (5, 5, .slice s5 s5n s5c), (6, 6, .int .i64 s6), (7, 7, .int .i64 s7), (8, 8, .string s8)] [.code (B_p_r12_Disk_List.r.r.r.l.l.l.r.l.r.l.l.r.l.l.r.r.r.l), .code (B_p_r12_Disk_List.r.r.r.l.l.l.r.l.r.l.l.r.l.l.r.r.r.r), .inBlock 3, .code (B_p_r12_Disk_List.r.r.r.l.l.l.r.l.r.l.l.r.r), .inLoop (B_p_r12_Disk_List.r.r.r.l.l.l.r.l.r.l.l), .inBlock 2, .code (B_p_r12_Disk_List.r.r.r.l.l.l.r.r), .inBlock 1, .inLoop (B_p_r12_Disk_List.r.r.r.l.l), .inBlock 0] w
noncomputable def N_p_r12_Disk_List.j12 (Q : Value → World → Prop) (s0 : Option Addr) (s1 : ByteArray) (s5 : Option Addr) (s5n : Nat) (s5c : Nat) (s7 : Int) (w : World) : Prop := Nd X_p_r12_Disk_List Q [(0, 0, .pointer s0), (1, 1, .string s1), (5, 5, .slice s5 s5n s5c), (7, 7, .int .i64 s7)] [.code (B_p_r12_Disk_List.r.r.r.l.l.l.r.l.r.l.l.r.l.l.r.r.r.r.l), .inBlock 3, .code (B_p_r12_Disk_List.r.r.r.l.l.l.r.l.r.l.l.r.r), .inLoop (B_p_r12_Disk_List.r.r.r.l.l.l.r.l.r.l.l), .inBlock 2, .code (B_p_r12_Disk_List.r.r.r.l.l.l.r.r), .inBlock 1, .inLoop (B_p_r12_Disk_List.r.r.r.l.l), .inBlock 0] w
theorem N_p_r12_Disk_List.j4_eq (Q : Value → World → Prop) (s0 : Option Addr) (s1 : ByteArray) (s5 : Option Addr) (s5n : Nat) (s5c : Nat) (w : World) (h :
  N_p_r12_Disk_List.j6 Q s0 s1 s5 s5n s5c (-1) 0 w) :
N_p_r12_Disk_List.j4 Q s0 s1 s5 s5n s5c w := Nd_fold K_p_r12_Disk_List (by kernel_rfl) h
theorem N_p_r12_Disk_List.j6_eq (Q : Value → World → Prop) (s0 : Option Addr) (s1 : ByteArray) (s5 : Option Addr) (s5n : Nat) (s5c : Nat) (s6 : Int) (s7 : Int) (w : World) (h :
  opnA s0 fun ad1 =>
  opnL (w.cell? (ad1.add 8)) fun x2 x2n x2c =>
  cond (decide (s7 < ((x2n : Nat) : Int)))
  (opnA s0 fun ad3 =>
  opnL (w.cell? (ad3.add 8)) fun x4 x4n x4c =>
  (0 : Int) ≤ s7 ∧
  s7 < ((x4n : Nat) : Int) ∧
  opnA x4 fun ad5 =>
  opnS (w.cell? ((ad5.add (Int.toNat s7 * 2)).add 0)) fun x6 =>
  cond (decide (((x6.size : Nat) : Int) < ((s1.size : Nat) : Int)))
  (N_p_r12_Disk_List.j7 Q s0 s1 s5 s5n s5c s6 s7 w)
  ((0 : Int) ≤ ((s1.size : Nat) : Int) ∧
  ((s1.size : Nat) : Int) ≤ ((x6.size : Nat) : Int) ∧
  cond (!((x6.extract 0 (Int.toNat ((s1.size : Nat) : Int))).toList == s1.toList))
  (N_p_r12_Disk_List.j7 Q s0 s1 s5 s5n s5c s6 s7 w)
  (cond (decide (((s5n : Nat) : Int) > 0))
  ((0 : Int) ≤ IntKind.wrap .i64 (((s5n : Nat) : Int) - 1) ∧
  (IntKind.wrap .i64 (((s5n : Nat) : Int) - 1)) < ((s5n : Nat) : Int) ∧
  opnA s5 fun ad7 =>
  opnS (w.cell? (ad7.add (Int.toNat (IntKind.wrap .i64 (((s5n : Nat) : Int) - 1)) * 1))) fun x8 =>
  cond (Op.bytesLess x6.toList x8.toList || (x6.toList == x8.toList))
  (N_p_r12_Disk_List.j7 Q s0 s1 s5 s5n s5c s6 s7 w)
  (N_p_r12_Disk_List.j11 Q s0 s1 s5 s5n s5c s6 s7 x6 w))
  (N_p_r12_Disk_List.j11 Q s0 s1 s5 s5n s5c s6 s7 x6 w))))
  (cond (decide (s6 < 0))
  (Q (.slice s5 s5n s5c) w)
  (opnA s0 fun ad9 =>
  opnL (w.cell? (ad9.add 8)) fun x10 x10n x10c =>
  (0 : Int) ≤ s6 ∧
  s6 < ((x10n : Nat) : Int) ∧
  opnA x10 fun ad11 =>
  opnS (w.cell? ((ad11.add (Int.toNat s6 * 2)).add 0)) fun x12 =>
  alC #[.string x12] 9 w fun p13 w14 =>
  sem PP (Builtin.append_ #[44, 44] 44 #[.slice s5 s5n s5c, .slice (some p13) 1 1]) w14 fun v15 w16 =>
  opnL (some v15) fun x17 x17n x17c =>
  N_p_r12_Disk_List.j4 Q s0 s1 x17 x17n x17c w16))) :
N_p_r12_Disk_List.j6 Q s0 s1 s5 s5n s5c s6 s7 w := Nd_fold K_p_r12_Disk_List (by kernel_rfl) h
theorem N_p_r12_Disk_List.j7_eq (Q : Value → World → Prop) (s0 : Option Addr) (s1 : ByteArray) (s5 : Option Addr) (s5n : Nat) (s5c : Nat) (s6 : Int) (s7 : Int) (w : World) (h :
  N_p_r12_Disk_List.j6 Q s0 s1 s5 s5n s5c s6 (IntKind.wrap .i64 (s7 + 1)) w) :
N_p_r12_Disk_List.j7 Q s0 s1 s5 s5n s5c s6 s7 w := Nd_fold K_p_r12_Disk_List (by kernel_rfl) h
theorem N_p_r12_Disk_List.j11_eq (Q : Value → World → Prop) (s0 : Option Addr) (s1 : ByteArray) (s5 : Option Addr) (s5n : Nat) (s5c : Nat) (s6 : Int) (s7 : Int) (s8 : ByteArray) (w : World) (h :
  cond (decide (s6 < 0))
  (N_p_r12_Disk_List.j12 Q s0 s1 s5 s5n s5c s7 w)
  (opnA s0 fun ad1 =>
  opnL (w.cell? (ad1.add 8)) fun x2 x2n x2c =>
  (0 : Int) ≤ s6 ∧
  s6 < ((x2n : Nat) : Int) ∧
  opnA x2 fun ad3 =>
  opnS (w.cell? ((ad3.add (Int.toNat s6 * 2)).add 0)) fun x4 =>
  cond (Op.bytesLess s8.toList x4.toList)
  (N_p_r12_Disk_List.j12 Q s0 s1 s5 s5n s5c s7 w)
  (N_p_r12_Disk_List.j7 Q s0 s1 s5 s5n s5c s6 s7 w))) :
N_p_r12_Disk_List.j11 Q s0 s1 s5 s5n s5c s6 s7 s8 w := Nd_fold K_p_r12_Disk_List (by kernel_rfl) h
theorem N_p_r12_Disk_List.j12_eq (Q : Value → World → Prop) (s0 : Option Addr) (s1 : ByteArray) (s5 : Option Addr) (s5n : Nat) (s5c : Nat) (s7 : Int) (w : World) (h :
  N_p_r12_Disk_List.j7 Q s0 s1 s5 s5n s5c s7 s7 w) :
N_p_r12_Disk_List.j12 Q s0 s1 s5 s5n s5c s7 w := Nd_fold K_p_r12_Disk_List (by kernel_rfl) h
theorem C_p_r12_Disk_List_eq (Q : Value → World → Prop) (a0 : Option Addr) (a1 : ByteArray) (w : World) (h :
  opnA a0 fun ad1 =>
  opnB (w.cell? (ad1.add 1)) fun x2 =>
  cond x2
  (Q (.slice none 0 0) w)
  (N_p_r12_Disk_List.j4 Q a0 a1 none 0 0 w)) :
C_p_r12_Disk_List #[.pointer a0, .string a1] w Q := C_fold K_p_r12_Disk_List (by kernel_rfl) h
end Go.Proofs.YtfjhhpoabdpdhaaGreatDoor
set_option maxRecDepth 100000
namespace Go.Proofs.YtfjhhpoabdpdhaaGreatDoor
open Go.Sh
noncomputable def B_l12_sameAsReference : Code := match Tryz.f80.body with | some c => c | _ => .skip
noncomputable def X_l12_sameAsReference : Cx := { P := PP, fn := 80, N := 43, tab := tab, results := [.tmp 4], iter := fun _ => (.none, .none), dyn := fun _ => false, live := fun r => cond (Nat.beq r 4) (some [0, 1, 5]) (cond (Nat.beq r 7) (some []) (none)) }
theorem K_l12_sameAsReference : OkF X_l12_sameAsReference B_l12_sameAsReference Tryz.f80 := ⟨⟨tab_ok, mix_ok⟩, Tryz.func80, by kernel_rfl, by kernel_rfl, by kernel_rfl, by kernel_rfl⟩
noncomputable def N_l12_sameAsReference.j4 (Q : Value → World → Prop) (s0 : Option Addr) (s0n : Nat) (s0c : Nat) (s1 : Option Addr) (s1n : Nat) (s1c : Nat) (s5 : Int) (w : World) : Prop := Nd X_l12_sameAsReference Q [(0, 0, .slice s0 s0n s0c), (1, 1, .slice s1 s1n s1c), (5, 5, .int .i64 s5)] [.code (B_l12_sameAsReference.r.r.l.r.l.l.l.l), .code (B_l12_sameAsReference.r.r.l.r.l.l.l.r), .code (B_l12_sameAsReference.r.r.l.r.l.l.r), .inLoop (B_l12_sameAsReference.r.r.l.r.l.l), .inBlock 0, .code (B_l12_sameAsReference.r.r.r)] w
noncomputable def N_l12_sameAsReference.j7 (Q : Value → World → Prop) (w : World) : Prop := Nd X_l12_sameAsReference Q [] [.code (B_l12_sameAsReference.r.r.l.r.l.l.r.l.l.r.l.l), .code (B_l12_sameAsReference.r.r.l.r.l.l.r.l.l.r.l.r), .inBlock 1, .code (B_l12_sameAsReference.r.r.l.r.l.l.r.r), .inLoop (B_l12_sameAsReference.r.r.l.r.l.l), .inBlock 0, .code (B_l12_sameAsReference.r.r.r)] w
theorem N_l12_sameAsReference.j4_eq (Q : Value → World → Prop) (s0 : Option Addr) (s0n : Nat) (s0c : Nat) (s1 : Option Addr) (s1n : Nat) (s1c : Nat) (s5 : Int) (w : World) (h :
  cond (decide (s5 < ((s0n : Nat) : Int)))
  (drw w fun w1 =>
  (0 : Int) ≤ s5 ∧
  s5 < ((s0n : Nat) : Int) ∧
  opnA s0 fun ad2 =>
  (0 : Int) ≤ s5 ∧
  s5 < ((s1n : Nat) : Int) ∧
  opnA s1 fun ad3 =>
  opnS (w1.cell? ((ad2.add (Int.toNat s5 * 2)).add 0)) fun x4 =>
  opnS (w1.cell? ((ad3.add (Int.toNat s5 * 2)).add 0)) fun x5 =>
  cond (!(x4.toList == x5.toList))
  (N_l12_sameAsReference.j7 Q w1)
  ((0 : Int) ≤ s5 ∧
  s5 < ((s0n : Nat) : Int) ∧
  opnA s0 fun ad6 =>
  (0 : Int) ≤ s5 ∧
  s5 < ((s1n : Nat) : Int) ∧
  opnA s1 fun ad7 =>
  opnL (w1.cell? ((ad6.add (Int.toNat s5 * 2)).add 1)) fun x8 x8n x8c =>
  semR PP (convert 23 9 (.slice x8 x8n x8c)) w1 fun x9 =>
  opnS (some x9) fun x10 =>
  opnL (w1.cell? ((ad7.add (Int.toNat s5 * 2)).add 1)) fun x11 x11n x11c =>
  semR PP (convert 23 9 (.slice x11 x11n x11c)) w1 fun x12 =>
  opnS (some x12) fun x13 =>
  cond (!(x10.toList == x13.toList))
  (N_l12_sameAsReference.j7 Q w1)
  (N_l12_sameAsReference.j4 Q s0 s0n s0c s1 s1n s1c (IntKind.wrap .i64 (s5 + 1)) w1)))
  (Q (.bool true) w)) :
N_l12_sameAsReference.j4 Q s0 s0n s0c s1 s1n s1c s5 w := Nd_fold K_l12_sameAsReference (by kernel_rfl) h
theorem N_l12_sameAsReference.j7_eq (Q : Value → World → Prop) (w : World) (h :
  Q (.bool false) w) :
N_l12_sameAsReference.j7 Q w := Nd_fold K_l12_sameAsReference (by kernel_rfl) h
theorem C_l12_sameAsReference_eq (Q : Value → World → Prop) (a0 : Option Addr) (a0n : Nat) (a0c : Nat) (a1 : Option Addr) (a1n : Nat) (a1c : Nat) (w : World) (h :
  cond (((a0n : Nat) : Int) != ((a1n : Nat) : Int))
  (Q (.bool false) w)
  (N_l12_sameAsReference.j4 Q a0 a0n a0c a1 a1n a1c 0 w)) :
C_l12_sameAsReference #[.slice a0 a0n a0c, .slice a1 a1n a1c] w Q := C_fold K_l12_sameAsReference (by kernel_rfl) h
noncomputable def B_p_r12_Disk_Files : Code := match Tryz.f81.body with | some c => c | _ => .skip
noncomputable def X_p_r12_Disk_Files : Cx := { P := PP, fn := 81, N := 35, tab := tab, results := [.tmp 2], iter := fun _ => (.none, .none), dyn := fun _ => false, live := fun r => cond (Nat.beq r 4) (some [0, 3, 4, 5]) (none) }
theorem K_p_r12_Disk_Files : OkF X_p_r12_Disk_Files B_p_r12_Disk_Files Tryz.f81 := ⟨⟨tab_ok, mix_ok⟩, Tryz.func81, by kernel_rfl, by kernel_rfl, by kernel_rfl, by kernel_rfl⟩
noncomputable def N_p_r12_Disk_Files.j4 (Q : Value → World → Prop) (s0 : Option Addr) (s3 : Option Addr) (s3n : Nat) (s3c : Nat) (s4 : Option Addr) (s4n : Nat) (s4c : Nat) (s5 : Int) (w : World) : Prop := Nd X_p_r12_Disk_Files Q [(0, 0, .pointer s0), (3, 3, .slice s3 s3n s3c), (4, 4, .slice s4 s4n s4c), (5, 5, .int .i64 s5)] [.code (B_p_r12_Disk_Files.r.r.r.l.r.l.l.l.l), .code (B_p_r12_Disk_Files.r.r.r.l.r.l.l.l.r), .code (B_p_r12_Disk_Files.r.r.r.l.r.l.l.r), .inLoop (B_p_r12_Disk_Files.r.r.r.l.r.l.l), .inBlock 0, .code (B_p_r12_Disk_Files.r.r.r.r)] w
theorem N_p_r12_Disk_Files.j4_eq (Q : Value → World → Prop) (s0 : Option Addr) (s3 : Option Addr) (s3n : Nat) (s3c : Nat) (s4 : Option Addr) (s4n : Nat) (s4c : Nat) (s5 : Int) (w : World) (h :
  cond (decide (s5 < ((s3n : Nat) : Int)))
  ((0 : Int) ≤ s5 ∧
  s5 < ((s3n : Nat) : Int) ∧
  opnA s3 fun ad1 =>
  opnS (w.cell? (ad1.add (Int.toNat s5 * 1))) fun x2 =>
  C_p_r12_Disk_Read #[.pointer s0, .string x2] w fun v3 w4 =>
  opnT (some v3) fun x5 =>
  x5.size = 2 ∧
  opnL (x5[0]?) fun x6 x6n x6c =>
  opnI .i64 (x5[1]?) fun x7 =>
  (0 : Int) ≤ s5 ∧
  s5 < ((s3n : Nat) : Int) ∧
  opnA s3 fun ad8 =>
  opnS (w4.cell? (ad8.add (Int.toNat s5 * 1))) fun x9 =>
  alC #[.string x9, .slice x6 x6n x6c] 143 w4 fun p10 w11 =>
  sem PP (Builtin.append_ #[110, 110] 110 #[.slice s4 s4n s4c, .slice (some p10) 1 1]) w11 fun v12 w13 =>
  opnL (some v12) fun x14 x14n x14c =>
  N_p_r12_Disk_Files.j4 Q s0 s3 s3n s3c x14 x14n x14c (IntKind.wrap .i64 (s5 + 1)) w13)
  (Q (.slice s4 s4n s4c) w)) :
N_p_r12_Disk_Files.j4 Q s0 s3 s3n s3c s4 s4n s4c s5 w := Nd_fold K_p_r12_Disk_Files (by kernel_rfl) h
theorem C_p_r12_Disk_Files_eq (Q : Value → World → Prop) (a0 : Option Addr) (w : World) (h :
  C_p_r12_Disk_List #[.pointer a0, .string (⟨#[]⟩ : ByteArray)] w fun v1 w2 =>
  opnL (some v1) fun x3 x3n x3c =>
  N_p_r12_Disk_Files.j4 Q a0 x3 x3n x3c none 0 0 0 w2) :
C_p_r12_Disk_Files #[.pointer a0] w Q := C_fold K_p_r12_Disk_Files (by kernel_rfl) h
noncomputable def B_p_r12_Disk_Used : Code := match Tryz.f82.body with | some c => c | _ => .skip
noncomputable def X_p_r12_Disk_Used : Cx := { P := PP, fn := 82, N := 35, tab := tab, results := [.tmp 2], iter := fun _ => (.none, .none), dyn := fun _ => false, live := fun r => cond (Nat.beq r 5) (some [0, 3, 4]) (none) }
theorem K_p_r12_Disk_Used : OkF X_p_r12_Disk_Used B_p_r12_Disk_Used Tryz.f82 := ⟨⟨tab_ok, mix_ok⟩, Tryz.func82, by kernel_rfl, by kernel_rfl, by kernel_rfl, by kernel_rfl⟩
noncomputable def N_p_r12_Disk_Used.j5 (Q : Value → World → Prop) (s0 : Option Addr) (s3 : Int) (s4 : Int) (w : World) : Prop := Nd X_p_r12_Disk_Used Q [(0, 0, .pointer s0), (3, 3, .int .i64 s3), (4, 4, .int .i64 s4)] [.code (B_p_r12_Disk_Used.r.r.r.l.r.l.l.l.l), .code (B_p_r12_Disk_Used.r.r.r.l.r.l.l.l.r), .code (B_p_r12_Disk_Used.r.r.r.l.r.l.l.r), .inLoop (B_p_r12_Disk_Used.r.r.r.l.r.l.l), .inBlock 0, .code (B_p_r12_Disk_Used.r.r.r.r)] w
theorem N_p_r12_Disk_Used.j5_eq (Q : Value → World → Prop) (s0 : Option Addr) (s3 : Int) (s4 : Int) (w : World) (h :
  opnA s0 fun ad1 =>
  opnL (w.cell? (ad1.add 8)) fun x2 x2n x2c =>
  cond (decide (s4 < ((x2n : Nat) : Int)))
  (drw w fun w3 =>
  opnA s0 fun ad4 =>
  opnA s0 fun ad5 =>
  opnL (w3.cell? (ad4.add 6)) fun x6 x6n x6c =>
  opnL (w3.cell? (ad5.add 8)) fun x7 x7n x7c =>
  (0 : Int) ≤ s4 ∧
  s4 < ((x7n : Nat) : Int) ∧
  opnA x7 fun ad8 =>
  opnI .i64 (w3.cell? ((ad8.add (Int.toNat s4 * 2)).add 1)) fun x9 =>
  (0 : Int) ≤ x9 ∧
  x9 < ((x6n : Nat) : Int) ∧
  opnA x6 fun ad10 =>
  opnI .i64 (w3.cell? (ad10.add (Int.toNat x9 * 1))) fun x11 =>
  N_p_r12_Disk_Used.j5 Q s0 (IntKind.wrap .i64 (s3 + x11)) (IntKind.wrap .i64 (s4 + 1)) w3)
  (Q (.int .i64 s3) w)) :
N_p_r12_Disk_Used.j5 Q s0 s3 s4 w := Nd_fold K_p_r12_Disk_Used (by kernel_rfl) h
theorem C_p_r12_Disk_Used_eq (Q : Value → World → Prop) (a0 : Option Addr) (w : World) (h :
  opnA a0 fun ad1 =>
  opnB (w.cell? (ad1.add 1)) fun x2 =>
  cond x2
  (Q (.int .i64 0) w)
  (N_p_r12_Disk_Used.j5 Q a0 0 0 w)) :
C_p_r12_Disk_Used #[.pointer a0] w Q := C_fold K_p_r12_Disk_Used (by kernel_rfl) h
noncomputable def B_p_r12_Disk_Acts : Code := match Tryz.f83.body with | some c => c | _ => .skip
noncomputable def X_p_r12_Disk_Acts : Cx := { P := PP, fn := 83, N := 7, tab := tab, results := [.tmp 2], iter := fun _ => (.none, .none), dyn := fun _ => false, live := fun _ => none }
theorem K_p_r12_Disk_Acts : OkF X_p_r12_Disk_Acts B_p_r12_Disk_Acts Tryz.f83 := ⟨⟨tab_ok, mix_ok⟩, Tryz.func83, by kernel_rfl, by kernel_rfl, by kernel_rfl, by kernel_rfl⟩
theorem C_p_r12_Disk_Acts_eq (Q : Value → World → Prop) (a0 : Option Addr) (w : World) (h :
  opnA a0 fun ad1 =>
  opnI .i64 (w.cell? (ad1.add 2)) fun x2 =>
  Q (.int .i64 x2) w) :
C_p_r12_Disk_Acts #[.pointer a0] w Q := C_fold K_p_r12_Disk_Acts (by kernel_rfl) h
noncomputable def B_p_r12_Disk_Pending : Code := match Tryz.f84.body with | some c => c | _ => .skip
noncomputable def X_p_r12_Disk_Pending : Cx := { P := PP, fn := 84, N := 85, tab := tab, results := [.tmp 2], iter := fun _ => (.none, .none), dyn := fun _ => false, live := fun r => cond (Nat.beq r 4) (some [0, 3, 4, 5]) (cond (Nat.beq r 5) (some [0, 3, 4, 5]) (cond (Nat.beq r 7) (some [0, 3, 4, 5, 6]) (cond (Nat.beq r 14) (some [0, 3, 7, 8]) (cond (Nat.beq r 15) (some [0, 3, 7, 8]) (none))))) }
theorem K_p_r12_Disk_Pending : OkF X_p_r12_Disk_Pending B_p_r12_Disk_Pending Tryz.f84 := ⟨⟨tab_ok, mix_ok⟩, Tryz.func84, by kernel_rfl, by kernel_rfl, by kernel_rfl, by kernel_rfl⟩
noncomputable def N_p_r12_Disk_Pending.j4 (Q : Value → World → Prop) (s0 : Option Addr) (s3 : Option Addr) (s3n : Nat) (s3c : Nat) (s4 : Option Addr) (s4n : Nat) (s4c : Nat) (s5 : Int) (w : World) : Prop := Nd X_p_r12_Disk_Pending Q [(0, 0, .pointer s0), (3, 3, .slice s3 s3n s3c), (4, 4, .slice s4 s4n s4c), (5, 5, .int .i64 s5)] [.code (B_p_r12_Disk_Pending.r.r.r.l.r.l.l.l.l), .code (B_p_r12_Disk_Pending.r.r.r.l.r.l.l.l.r), .code (B_p_r12_Disk_Pending.r.r.r.l.r.l.l.r), .inLoop (B_p_r12_Disk_Pending.r.r.r.l.r.l.l), .inBlock 0, .code (B_p_r12_Disk_Pending.r.r.r.r)] w
noncomputable def N_p_r12_Disk_Pending.j5 (Q : Value → World → Prop) (s0 : Option Addr) (s3 : Option Addr) (s3n : Nat) (s3c : Nat) (s4 : Option Addr) (s4n : Nat) (s4c : Nat) (s5 : Int) (w : World) : Prop := Nd X_p_r12_Disk_Pending Q [(0, 0, .pointer s0), (3, 3, .slice s3 s3n s3c), (4, 4, .slice s4 s4n s4c), (5, 5, .int .i64 s5)] [.code (B_p_r12_Disk_Pending.r.r.r.l.r.l.l.r.r), .inLoop (B_p_r12_Disk_Pending.r.r.r.l.r.l.l), .inBlock 0, .code (B_p_r12_Disk_Pending.r.r.r.r)] w
noncomputable def N_p_r12_Disk_Pending.j7 (Q : Value → World → Prop) (s0 : Option Addr) (s3 : Option Addr) (s3n : Nat) (s3c : Nat) (s4 : Option Addr) (s4n : Nat) (s4c : Nat) (s5 : Int) (s6 : Int) (w : World) : Prop := Nd X_p_r12_Disk_Pending Q [(0, 0, .pointer s0), (3, 3, .slice s3 s3n s3c), (4, 4, .slice s4 s4n s4c), (5, 5, .int .i64 s5), (6, 6, .int .i64 s6)] [.code (B_p_r12_Disk_Pending.r.r.r.l.r.l.l.r.l.l.l.r.l.l.l.l), .code (B_p_r12_Disk_Pending.r.r.r.l.r.l.l.r.l.l.l.r.l.l.l.r), .code (B_p_r12_Disk_Pending.r.r.r.l.r.l.l.r.l.l.l.r.l.l.r), .inLoop (B_p_r12_Disk_Pending.r.r.r.l.r.l.l.r.l.l.l.r.l.l), .inBlock 2, .code (B_p_r12_Disk_Pending.r.r.r.l.r.l.l.r.l.l.r), .inBlock 1, .code (B_p_r12_Disk_Pending.r.r.r.l.r.l.l.r.r), .inLoop (B_p_r12_Disk_Pending.r.r.r.l.r.l.l), .inBlock 0, .code (B_p_r12_Disk_Pending.r.r.r.r)] w
noncomputable def N_p_r12_Disk_Pending.j14 (Q : Value → World → Prop) (s0 : Option Addr) (s3 : Option Addr) (s3n : Nat) (s3c : Nat) (s7 : Int) (s8 : Int) (w : World) : Prop := Nd X_p_r12_Disk_Pending Q [(0, 0, .pointer s0), (3, 3, .slice s3 s3n s3c), (7, 7, .int .i64 s7), (8, 8, .int .i64 s8)] [.code (B_p_r12_Disk_Pending.r.r.r.r.r.l.r.l.l.l.l), .code (B_p_r12_Disk_Pending.r.r.r.r.r.l.r.l.l.l.r), .code (B_p_r12_Disk_Pending.r.r.r.r.r.l.r.l.l.r), .inLoop (B_p_r12_Disk_Pending.r.r.r.r.r.l.r.l.l), .inBlock 4, .code (B_p_r12_Disk_Pending.r.r.r.r.r.r)] w
noncomputable def N_p_r12_Disk_Pending.j15 (Q : Value → World → Prop) (s0 : Option Addr) (s3 : Option Addr) (s3n : Nat) (s3c : Nat) (s7 : Int) (s8 : Int) (w : World) : Prop := Nd X_p_r12_Disk_Pending Q [(0, 0, .pointer s0), (3, 3, .slice s3 s3n s3c), (7, 7, .int .i64 s7), (8, 8, .int .i64 s8)] [.code (B_p_r12_Disk_Pending.r.r.r.r.r.l.r.l.l.r.r), .inLoop (B_p_r12_Disk_Pending.r.r.r.r.r.l.r.l.l), .inBlock 4, .code (B_p_r12_Disk_Pending.r.r.r.r.r.r)] w
theorem N_p_r12_Disk_Pending.j4_eq (Q : Value → World → Prop) (s0 : Option Addr) (s3 : Option Addr) (s3n : Nat) (s3c : Nat) (s4 : Option Addr) (s4n : Nat) (s4c : Nat) (s5 : Int) (w : World) (h :
  opnA s0 fun ad1 =>
  opnL (w.cell? (ad1.add 9)) fun x2 x2n x2c =>
  cond (decide (s5 ≤ ((x2n : Nat) : Int)))
  (N_p_r12_Disk_Pending.j7 Q s0 s3 s3n s3c s4 s4n s4c s5 0 w)
  (opnA s0 fun ad3 =>
  opnL (w.cell? (ad3.add 9)) fun x4 x4n x4c =>
  N_p_r12_Disk_Pending.j14 Q s0 s3 s3n s3c ((x4n : Nat) : Int) 0 w)) :
N_p_r12_Disk_Pending.j4 Q s0 s3 s3n s3c s4 s4n s4c s5 w := Nd_fold K_p_r12_Disk_Pending (by kernel_rfl) h
theorem N_p_r12_Disk_Pending.j5_eq (Q : Value → World → Prop) (s0 : Option Addr) (s3 : Option Addr) (s3n : Nat) (s3c : Nat) (s4 : Option Addr) (s4n : Nat) (s4c : Nat) (s5 : Int) (w : World) (h :
  N_p_r12_Disk_Pending.j4 Q s0 s3 s3n s3c s4 s4n s4c (IntKind.wrap .i64 (s5 + 1)) w) :
N_p_r12_Disk_Pending.j5 Q s0 s3 s3n s3c s4 s4n s4c s5 w := Nd_fold K_p_r12_Disk_Pending (by kernel_rfl) h
theorem N_p_r12_Disk_Pending.j7_eq (Q : Value → World → Prop) (s0 : Option Addr) (s3 : Option Addr) (s3n : Nat) (s3c : Nat) (s4 : Option Addr) (s4n : Nat) (s4c : Nat) (s5 : Int) (s6 : Int) (w : World) (h :
  cond (decide (s6 < ((s4n : Nat) : Int)))
  ((0 : Int) ≤ s6 ∧
  s6 < ((s4n : Nat) : Int) ∧
  opnA s4 fun ad1 =>
  opnI .i64 (w.cell? ((ad1.add (Int.toNat s6 * 2)).add 1)) fun x2 =>
  (0 : Int) ≤ x2 ∧
  x2 < ((s3n : Nat) : Int) ∧
  opnA s3 fun ad3 =>
  stC (ad3.add (Int.toNat x2 * 1)) (.bool true) w fun w4 =>
  N_p_r12_Disk_Pending.j7 Q s0 s3 s3n s3c s4 s4n s4c s5 (IntKind.wrap .i64 (s6 + 1)) w4)
  (opnA s0 fun ad5 =>
  opnL (w.cell? (ad5.add 9)) fun x6 x6n x6c =>
  cond (decide (s5 < ((x6n : Nat) : Int)))
  (opnA s0 fun ad7 =>
  opnL (w.cell? (ad7.add 9)) fun x8 x8n x8c =>
  (0 : Int) ≤ s5 ∧
  s5 < ((x8n : Nat) : Int) ∧
  opnA x8 fun ad9 =>
  opnI .i64 (w.cell? ((ad9.add (Int.toNat s5 * 4)).add 0)) fun x10 =>
  opnS (w.cell? ((ad9.add (Int.toNat s5 * 4)).add 1)) fun x11 =>
  opnS (w.cell? ((ad9.add (Int.toNat s5 * 4)).add 2)) fun x12 =>
  opnI .i64 (w.cell? ((ad9.add (Int.toNat s5 * 4)).add 3)) fun x13 =>
  C_r12_turned #[.slice s4 s4n s4c, .agg #[.int .i64 x10, .string x11, .string x12, .int .i64 x13]] w fun v14 w15 =>
  opnL (some v14) fun x16 x16n x16c =>
  N_p_r12_Disk_Pending.j5 Q s0 s3 s3n s3c x16 x16n x16c s5 w15)
  (N_p_r12_Disk_Pending.j5 Q s0 s3 s3n s3c s4 s4n s4c s5 w))) :
N_p_r12_Disk_Pending.j7 Q s0 s3 s3n s3c s4 s4n s4c s5 s6 w := Nd_fold K_p_r12_Disk_Pending (by kernel_rfl) h
theorem N_p_r12_Disk_Pending.j14_eq (Q : Value → World → Prop) (s0 : Option Addr) (s3 : Option Addr) (s3n : Nat) (s3c : Nat) (s7 : Int) (s8 : Int) (w : World) (h :
  opnA s0 fun ad1 =>
  opnL (w.cell? (ad1.add 10)) fun x2 x2n x2c =>
  cond (decide (s8 < ((x2n : Nat) : Int)))
  (opnA s0 fun ad3 =>
  opnL (w.cell? (ad3.add 10)) fun x4 x4n x4c =>
  (0 : Int) ≤ s8 ∧
  s8 < ((x4n : Nat) : Int) ∧
  opnA x4 fun ad5 =>
  opnI .i64 (w.cell? ((ad5.add (Int.toNat s8 * 3)).add 0)) fun x6 =>
  (0 : Int) ≤ x6 ∧
  x6 < ((s3n : Nat) : Int) ∧
  opnA s3 fun ad7 =>
  opnB (w.cell? (ad7.add (Int.toNat x6 * 1))) fun x8 =>
  cond x8
  (N_p_r12_Disk_Pending.j15 Q s0 s3 s3n s3c (IntKind.wrap .i64 (s7 + 1)) s8 w)
  (N_p_r12_Disk_Pending.j15 Q s0 s3 s3n s3c s7 s8 w))
  (Q (.int .i64 s7) w)) :
N_p_r12_Disk_Pending.j14 Q s0 s3 s3n s3c s7 s8 w := Nd_fold K_p_r12_Disk_Pending (by kernel_rfl) h
theorem N_p_r12_Disk_Pending.j15_eq (Q : Value → World → Prop) (s0 : Option Addr) (s3 : Option Addr) (s3n : Nat) (s3c : Nat) (s7 : Int) (s8 : Int) (w : World) (h :
  N_p_r12_Disk_Pending.j14 Q s0 s3 s3n s3c s7 (IntKind.wrap .i64 (s8 + 1)) w) :
N_p_r12_Disk_Pending.j15 Q s0 s3 s3n s3c s7 s8 w := Nd_fold K_p_r12_Disk_Pending (by kernel_rfl) h
theorem C_p_r12_Disk_Pending_eq (Q : Value → World → Prop) (a0 : Option Addr) (w : World) (h :
  opnA a0 fun ad1 =>
  opnL (w.cell? (ad1.add 5)) fun x2 x2n x2c =>
  sem PP (Instr.makeSlice 148 (.int .i64 ((x2n : Nat) : Int)) (.int .i64 ((x2n : Nat) : Int))) w fun v3 w4 =>
  opnL (some v3) fun x5 x5n x5c =>
  opnA a0 fun ad6 =>
  opnL (w4.cell? (ad6.add 7)) fun x7 x7n x7c =>
  N_p_r12_Disk_Pending.j4 Q a0 x5 x5n x5c x7 x7n x7c 0 w4) :
C_p_r12_Disk_Pending #[.pointer a0] w Q := C_fold K_p_r12_Disk_Pending (by kernel_rfl) h
noncomputable def B_p_disk_Disk_Crash_S1 : Code := match Tryz.f85.body with | some c => c | _ => .skip
noncomputable def X_p_disk_Disk_Crash_S1 : Cx := { P := PP, fn := 85, N := 23, tab := tab, results := [.tmp 3], iter := fun _ => (.none, .none), dyn := fun _ => false, live := fun _ => none }
theorem K_p_disk_Disk_Crash_S1 : OkF X_p_disk_Disk_Crash_S1 B_p_disk_Disk_Crash_S1 Tryz.f85 := ⟨⟨tab_ok, mix_ok⟩, Tryz.func85, by kernel_rfl, by kernel_rfl, by kernel_rfl, by kernel_rfl⟩
theorem C_p_disk_Disk_Crash_S1_eq (Q : Value → World → Prop) (a0 : Int) (f0 : Addr) (w : World) (h :
  opnL (w.cell? f0) fun x1 x1n x1c =>
  cond (((x1n : Nat) : Int) == 0)
  (Q (.int .i64 0) w)
  (opnL (w.cell? f0) fun x2 x2n x2c =>
  (0 : Int) ≤ 0 ∧
  0 < ((x2n : Nat) : Int) ∧
  opnA x2 fun ad3 =>
  opnI .i64 (w.cell? (ad3.add (Int.toNat 0 * 1))) fun x4 =>
  IntKind.wrap .i64 (a0 + 1) ≠ (0 : Int) ∧
  IntKind.wrap .i64 (a0 + 1) ≠ (0 : Int) ∧
  opnL (w.cell? f0) fun x5 x5n x5c =>
  (0 : Int) ≤ 1 ∧
  1 ≤ ((x5n : Nat) : Int) ∧
  stC f0 (.slice (slA x5 (Int.toNat 1) x5c 1) (x5n - (Int.toNat 1)) (x5c - (Int.toNat 1))) w fun w6 =>
  Q (.int .i64 (Int.tmod (IntKind.wrap .i64 ((Int.tmod x4 (IntKind.wrap .i64 (a0 + 1))) + (IntKind.wrap .i64 (a0 + 1)))) (IntKind.wrap .i64 (a0 + 1)))) w6)) :
C_p_disk_Disk_Crash_S1 #[.int .i64 a0, .pointer (some f0)] w Q := C_fold K_p_disk_Disk_Crash_S1 (by kernel_rfl) h
noncomputable def B_p_disk_Disk_Crash_S2 : Code := match Tryz.f87.body with | some c => c | _ => .skip
noncomputable def X_p_disk_Disk_Crash_S2 : Cx := { P := PP, fn := 87, N := 12, tab := tab, results := [.tmp 4], iter := fun _ => (.none, .none), dyn := fun _ => false, live := fun _ => none }
theorem K_p_disk_Disk_Crash_S2 : OkF X_p_disk_Disk_Crash_S2 B_p_disk_Disk_Crash_S2 Tryz.f87 := ⟨⟨tab_ok, mix_ok⟩, Tryz.func87, by kernel_rfl, by kernel_rfl, by kernel_rfl, by kernel_rfl⟩
theorem C_p_disk_Disk_Crash_S2_eq (Q : Value → World → Prop) (a0_0 : Option Addr) (a0_1 : Int) (a0_2 : Int) (a0_3 : Option Addr) (a0_3n : Nat) (a0_3c : Nat) (a1_0 : Option Addr) (a1_1 : Int) (a1_2 : Int) (a1_3 : Option Addr) (a1_3n : Nat) (a1_3c : Nat) (w : World) (h :
  alC #[.pointer a0_0, .int .i64 a0_1, .int .i64 a0_2, .slice a0_3 a0_3n a0_3c] 125 w fun p1 w2 =>
  alC #[.pointer a1_0, .int .i64 a1_1, .int .i64 a1_2, .slice a1_3 a1_3n a1_3c] 125 w2 fun p3 w4 =>
  opnI .i64 (w4.cell? ((p1.add 1).add 0)) fun x5 =>
  opnI .i64 (w4.cell? ((p3.add 1).add 0)) fun x6 =>
  Q (.int .i64 (IntKind.wrap .i64 (x5 - x6))) w4) :
C_p_disk_Disk_Crash_S2 #[.agg #[.pointer a0_0, .int .i64 a0_1, .int .i64 a0_2, .slice a0_3 a0_3n a0_3c], .agg #[.pointer a1_0, .int .i64 a1_1, .int .i64 a1_2, .slice a1_3 a1_3n a1_3c]] w Q := C_fold K_p_disk_Disk_Crash_S2 (by kernel_rfl) h
noncomputable def B_r12_choice : Code := match Tryz.f88.body with | some c => c | _ => .skip
noncomputable def X_r12_choice : Cx := { P := PP, fn := 88, N := 13, tab := tab, results := [.tmp 4], iter := fun _ => (.none, .none), dyn := fun _ => false, live := fun _ => none }
theorem K_r12_choice : OkF X_r12_choice B_r12_choice Tryz.f88 := ⟨⟨tab_ok, mix_ok⟩, Tryz.func88, by kernel_rfl, by kernel_rfl, by kernel_rfl, by kernel_rfl⟩
theorem C_r12_choice_eq (Q : Value → World → Prop) (a0 : Option Addr) (a0n : Nat) (a0c : Nat) (a1 : Int) (w : World) (h :
  cond (decide (a1 < ((a0n : Nat) : Int)))
  ((0 : Int) ≤ a1 ∧
  a1 < ((a0n : Nat) : Int) ∧
  opnA a0 fun ad1 =>
  opnI .i64 (w.cell? (ad1.add (Int.toNat a1 * 1))) fun x2 =>
  Q (.int .i64 x2) w)
  (Q (.int .i64 0) w)) :
C_r12_choice #[.slice a0 a0n a0c, .int .i64 a1] w Q := C_fold K_r12_choice (by kernel_rfl) h
noncomputable def B_r12_modulo : Code := match Tryz.f89.body with | some c => c | _ => .skip
noncomputable def X_r12_modulo : Cx := { P := PP, fn := 89, N := 15, tab := tab, results := [.tmp 4], iter := fun _ => (.none, .none), dyn := fun _ => false, live := fun r => cond (Nat.beq r 4) (some [5]) (none) }
theorem K_r12_modulo : OkF X_r12_modulo B_r12_modulo Tryz.f89 := ⟨⟨tab_ok, mix_ok⟩, Tryz.func89, by kernel_rfl, by kernel_rfl, by kernel_rfl, by kernel_rfl⟩
noncomputable def N_r12_modulo.j4 (Q : Value → World → Prop) (s5 : Int) (w : World) : Prop := Nd X_r12_modulo Q [(5, 5, .int .i64 s5)] [.code (B_r12_modulo.r.r.r.l), .code (B_r12_modulo.r.r.r.r)] w
theorem N_r12_modulo.j4_eq (Q : Value → World → Prop) (s5 : Int) (w : World) (h :
  Q (.int .i64 s5) w) :
N_r12_modulo.j4 Q s5 w := Nd_fold K_r12_modulo (by kernel_rfl) h
theorem C_r12_modulo_eq (Q : Value → World → Prop) (a0 : Int) (a1 : Int) (w : World) (h :
  a1 ≠ (0 : Int) ∧
  cond (decide ((Int.tmod a0 a1) < 0))
  (N_r12_modulo.j4 Q (IntKind.wrap .i64 ((Int.tmod a0 a1) + a1)) w)
  (N_r12_modulo.j4 Q (Int.tmod a0 a1) w)) :
C_r12_modulo #[.int .i64 a0, .int .i64 a1] w Q := C_fold K_r12_modulo (by kernel_rfl) h
noncomputable def B_r12_turned : Code := match Tryz.f90.body with | some c => c | _ => .skip
noncomputable def X_r12_turned : Cx := { P := PP, fn := 90, N := 67, tab := tab, results := [.tmp 4], iter := fun _ => (.none, .none), dyn := fun _ => false, live := fun r => cond (Nat.beq r 9) (some [0]) (none) }
theorem K_r12_turned : OkF X_r12_turned B_r12_turned Tryz.f90 := ⟨⟨tab_ok, mix_ok⟩, Tryz.func90, by kernel_rfl, by kernel_rfl, by kernel_rfl, by kernel_rfl⟩
noncomputable def N_r12_turned.j9 (Q : Value → World → Prop) (s0 : Option Addr) (s0n : Nat) (s0c : Nat) (w : World) : Prop := Nd X_r12_turned Q [(0, 0, .slice s0 s0n s0c)] [.code (B_r12_turned.r.r.l.r.l.r.r.r.l.l.r.l.l), .code (B_r12_turned.r.r.l.r.l.r.r.r.l.l.r.l.r), .code (B_r12_turned.r.r.l.r.l.r.r.r.l.r), .inBlock 0, .code (B_r12_turned.r.r.r)] w
theorem N_r12_turned.j9_eq (Q : Value → World → Prop) (s0 : Option Addr) (s0n : Nat) (s0c : Nat) (w : World) (h :
  Q (.slice s0 s0n s0c) w) :
N_r12_turned.j9 Q s0 s0n s0c w := Nd_fold K_r12_turned (by kernel_rfl) h
theorem C_r12_turned_eq (Q : Value → World → Prop) (a0 : Option Addr) (a0n : Nat) (a0c : Nat) (a1_0 : Int) (a1_1 : ByteArray) (a1_2 : ByteArray) (a1_3 : Int) (w : World) (h :
  alC #[.int .i64 a1_0, .string a1_1, .string a1_2, .int .i64 a1_3] 131 w fun p1 w2 =>
  opnS (w2.cell? (p1.add 1)) fun x3 =>
  C_r12_find #[.slice a0 a0n a0c, .string x3] w2 fun v4 w5 =>
  opnI .i64 (some v4) fun x6 =>
  opnI .i64 (w5.cell? (p1.add 0)) fun x7 =>
  cond (x7 == 1)
  (opnS (w5.cell? (p1.add 1)) fun x8 =>
  C_r12_without #[.slice a0 a0n a0c, .string x8] w5 fun v9 w10 =>
  opnL (some v9) fun x11 x11n x11c =>
  opnS (w10.cell? (p1.add 1)) fun x12 =>
  opnI .i64 (w10.cell? (p1.add 3)) fun x13 =>
  alC #[.string x12, .int .i64 x13] 133 w10 fun p14 w15 =>
  sem PP (Builtin.append_ #[103, 103] 103 #[.slice x11 x11n x11c, .slice (some p14) 1 1]) w15 fun v16 w17 =>
  opnL (some v16) fun x18 x18n x18c =>
  Q (.slice x18 x18n x18c) w17)
  (cond (x7 == 2)
  (cond (decide (x6 < 0))
  (N_r12_turned.j9 Q a0 a0n a0c w5)
  (opnS (w5.cell? (p1.add 1)) fun x19 =>
  opnS (w5.cell? (p1.add 2)) fun x20 =>
  cond (x19.toList == x20.toList)
  (N_r12_turned.j9 Q a0 a0n a0c w5)
  ((0 : Int) ≤ x6 ∧
  x6 < ((a0n : Nat) : Int) ∧
  opnA a0 fun ad21 =>
  opnI .i64 (w5.cell? ((ad21.add (Int.toNat x6 * 2)).add 1)) fun x22 =>
  opnS (w5.cell? (p1.add 1)) fun x23 =>
  C_r12_without #[.slice a0 a0n a0c, .string x23] w5 fun v24 w25 =>
  opnL (some v24) fun x26 x26n x26c =>
  opnS (w25.cell? (p1.add 2)) fun x27 =>
  C_r12_without #[.slice x26 x26n x26c, .string x27] w25 fun v28 w29 =>
  opnL (some v28) fun x30 x30n x30c =>
  opnS (w29.cell? (p1.add 2)) fun x31 =>
  alC #[.string x31, .int .i64 x22] 133 w29 fun p32 w33 =>
  sem PP (Builtin.append_ #[103, 103] 103 #[.slice x30 x30n x30c, .slice (some p32) 1 1]) w33 fun v34 w35 =>
  opnL (some v34) fun x36 x36n x36c =>
  Q (.slice x36 x36n x36c) w35)))
  (opnS (w5.cell? (p1.add 1)) fun x37 =>
  C_r12_without #[.slice a0 a0n a0c, .string x37] w5 fun v38 w39 =>
  opnL (some v38) fun x40 x40n x40c =>
  Q (.slice x40 x40n x40c) w39))) :
C_r12_turned #[.slice a0 a0n a0c, .agg #[.int .i64 a1_0, .string a1_1, .string a1_2, .int .i64 a1_3]] w Q := C_fold K_r12_turned (by kernel_rfl) h
noncomputable def B_r12_laid : Code := match Tryz.f91.body with | some c => c | _ => .skip
noncomputable def X_r12_laid : Cx := { P := PP, fn := 91, N := 42, tab := tab, results := [.tmp 6], iter := fun _ => (.none, .none), dyn := fun _ => false, live := fun r => cond (Nat.beq r 5) (some [1, 2, 7]) (cond (Nat.beq r 8) (some [1, 2, 7, 8]) (none)) }
theorem K_r12_laid : OkF X_r12_laid B_r12_laid Tryz.f91 := ⟨⟨tab_ok, mix_ok⟩, Tryz.func91, by kernel_rfl, by kernel_rfl, by kernel_rfl, by kernel_rfl⟩
noncomputable def N_r12_laid.j5 (Q : Value → World → Prop) (s1 : Int) (s2 : Option Addr) (s2n : Nat) (s2c : Nat) (s7 : Option Addr) (s7n : Nat) (s7c : Nat) (w : World) : Prop := Nd X_r12_laid Q [(1, 1, .int .i64 s1), (2, 2, .slice s2 s2n s2c), (7, 7, .slice s7 s7n s7c)] [.code (B_r12_laid.r.r.r.r.l.l.l.l.l), .code (B_r12_laid.r.r.r.r.l.l.l.l.r), .code (B_r12_laid.r.r.r.r.l.l.l.r), .inLoop (B_r12_laid.r.r.r.r.l.l.l), .inBlock 0, .code (B_r12_laid.r.r.r.r.r)] w
noncomputable def N_r12_laid.j8 (Q : Value → World → Prop) (s1 : Int) (s2 : Option Addr) (s2n : Nat) (s2c : Nat) (s7 : Option Addr) (s7n : Nat) (s7c : Nat) (s8 : Int) (w : World) : Prop := Nd X_r12_laid Q [(1, 1, .int .i64 s1), (2, 2, .slice s2 s2n s2c), (7, 7, .slice s7 s7n s7c), (8, 8, .int .i64 s8)] [.code (B_r12_laid.r.r.r.r.r.l.r.l.l.l.l), .code (B_r12_laid.r.r.r.r.r.l.r.l.l.l.r), .code (B_r12_laid.r.r.r.r.r.l.r.l.l.r), .inLoop (B_r12_laid.r.r.r.r.r.l.r.l.l), .inBlock 2, .code (B_r12_laid.r.r.r.r.r.r)] w
theorem N_r12_laid.j5_eq (Q : Value → World → Prop) (s1 : Int) (s2 : Option Addr) (s2n : Nat) (s2c : Nat) (s7 : Option Addr) (s7n : Nat) (s7c : Nat) (w : World) (h :
  cond (decide (((s7n : Nat) : Int) < (IntKind.wrap .i64 (s1 + ((s2n : Nat) : Int)))))
  (alC #[.int .u8 0] 5 w fun p1 w2 =>
  sem PP (Builtin.append_ #[23, 23] 23 #[.slice s7 s7n s7c, .slice (some p1) 1 1]) w2 fun v3 w4 =>
  opnL (some v3) fun x5 x5n x5c =>
  N_r12_laid.j5 Q s1 s2 s2n s2c x5 x5n x5c w4)
  (N_r12_laid.j8 Q s1 s2 s2n s2c s7 s7n s7c 0 w)) :
N_r12_laid.j5 Q s1 s2 s2n s2c s7 s7n s7c w := Nd_fold K_r12_laid (by kernel_rfl) h
theorem N_r12_laid.j8_eq (Q : Value → World → Prop) (s1 : Int) (s2 : Option Addr) (s2n : Nat) (s2c : Nat) (s7 : Option Addr) (s7n : Nat) (s7c : Nat) (s8 : Int) (w : World) (h :
  cond (decide (s8 < ((s2n : Nat) : Int)))
  ((0 : Int) ≤ s8 ∧
  s8 < ((s2n : Nat) : Int) ∧
  opnA s2 fun ad1 =>
  opnI .u8 (w.cell? (ad1.add (Int.toNat s8 * 1))) fun x2 =>
  (0 : Int) ≤ IntKind.wrap .i64 (s1 + s8) ∧
  (IntKind.wrap .i64 (s1 + s8)) < ((s7n : Nat) : Int) ∧
  opnA s7 fun ad3 =>
  stC (ad3.add (Int.toNat (IntKind.wrap .i64 (s1 + s8)) * 1)) (.int .u8 x2) w fun w4 =>
  N_r12_laid.j8 Q s1 s2 s2n s2c s7 s7n s7c (IntKind.wrap .i64 (s8 + 1)) w4)
  (Q (.slice s7 s7n s7c) w)) :
N_r12_laid.j8 Q s1 s2 s2n s2c s7 s7n s7c s8 w := Nd_fold K_r12_laid (by kernel_rfl) h
theorem C_r12_laid_eq (Q : Value → World → Prop) (a0 : Option Addr) (a0n : Nat) (a0c : Nat) (a1 : Int) (a2 : Option Addr) (a2n : Nat) (a2c : Nat) (w : World) (h :
  sem PP (Builtin.append_ #[23, 23] 23 #[.slice none 0 0, .slice a0 a0n a0c]) w fun v1 w2 =>
  opnL (some v1) fun x3 x3n x3c =>
  cond (((a2n : Nat) : Int) == 0)
  (Q (.slice x3 x3n x3c) w2)
  (N_r12_laid.j5 Q a1 a2 a2n a2c x3 x3n x3c w2)) :
C_r12_laid #[.slice a0 a0n a0c, .int .i64 a1, .slice a2 a2n a2c] w Q := C_fold K_r12_laid (by kernel_rfl) h
noncomputable def B_p_r12_Disk_add : Code := match Tryz.f92.body with | some c => c | _ => .skip
noncomputable def X_p_r12_Disk_add : Cx := { P := PP, fn := 92, N := 65, tab := tab, results := [], iter := fun _ => (.none, .none), dyn := fun _ => false, live := fun _ => none }
theorem K_p_r12_Disk_add : OkF X_p_r12_Disk_add B_p_r12_Disk_add Tryz.f92 := ⟨⟨tab_ok, mix_ok⟩, Tryz.func92, by kernel_rfl, by kernel_rfl, by kernel_rfl, by kernel_rfl⟩
theorem C_p_r12_Disk_add_eq (Q : Value → World → Prop) (a0 : Option Addr) (a1 : ByteArray) (a2 : Option Addr) (a2n : Nat) (a2c : Nat) (w : World) (h :
  sem PP (Builtin.append_ #[23, 23] 23 #[.slice none 0 0, .slice a2 a2n a2c]) w fun v1 w2 =>
  opnL (some v1) fun x3 x3n x3c =>
  opnA a0 fun ad4 =>
  opnL (w2.cell? (ad4.add 5)) fun x5 x5n x5c =>
  alC #[.slice x3 x3n x3c] 23 w2 fun p6 w7 =>
  sem PP (Builtin.append_ #[78, 78] 78 #[.slice x5 x5n x5c, .slice (some p6) 1 1]) w7 fun v8 w9 =>
  opnL (some v8) fun x10 x10n x10c =>
  opnA a0 fun ad11 =>
  stC (ad11.add 5) (.slice x10 x10n x10c) w9 fun w12 =>
  opnA a0 fun ad13 =>
  opnL (w12.cell? (ad13.add 6)) fun x14 x14n x14c =>
  alC #[.int .i64 ((x3n : Nat) : Int)] 3 w12 fun p15 w16 =>
  sem PP (Builtin.append_ #[24, 24] 24 #[.slice x14 x14n x14c, .slice (some p15) 1 1]) w16 fun v17 w18 =>
  opnL (some v17) fun x19 x19n x19c =>
  opnA a0 fun ad20 =>
  stC (ad20.add 6) (.slice x19 x19n x19c) w18 fun w21 =>
  drw w21 fun w22 =>
  opnA a0 fun ad23 =>
  opnA a0 fun ad24 =>
  opnL (w22.cell? (ad23.add 8)) fun x25 x25n x25c =>
  opnL (w22.cell? (ad24.add 5)) fun x26 x26n x26c =>
  alC #[.string a1, .int .i64 (IntKind.wrap .i64 (((x26n : Nat) : Int) - 1))] 133 w22 fun p27 w28 =>
  (opnL (w28.cell? (ad23.add 8)) fun x29 x29n x29c =>
  ((.slice x29 x29n x29c) : Value) = .slice x25 x25n x25c) ∧
  sem PP (Builtin.append_ #[103, 103] 103 #[.slice x25 x25n x25c, .slice (some p27) 1 1]) w28 fun v30 w31 =>
  opnL (some v30) fun x32 x32n x32c =>
  opnA a0 fun ad33 =>
  stC (ad33.add 8) (.slice x32 x32n x32c) w31 fun w34 =>
  drw w34 fun w35 =>
  opnA a0 fun ad36 =>
  opnA a0 fun ad37 =>
  opnL (w35.cell? (ad36.add 7)) fun x38 x38n x38c =>
  opnL (w35.cell? (ad37.add 5)) fun x39 x39n x39c =>
  alC #[.string a1, .int .i64 (IntKind.wrap .i64 (((x39n : Nat) : Int) - 1))] 133 w35 fun p40 w41 =>
  (opnL (w41.cell? (ad36.add 7)) fun x42 x42n x42c =>
  ((.slice x42 x42n x42c) : Value) = .slice x38 x38n x38c) ∧
  sem PP (Builtin.append_ #[103, 103] 103 #[.slice x38 x38n x38c, .slice (some p40) 1 1]) w41 fun v43 w44 =>
  opnL (some v43) fun x45 x45n x45c =>
  opnA a0 fun ad46 =>
  stC (ad46.add 7) (.slice x45 x45n x45c) w44 fun w47 =>
  Q (.tuple #[]) w47) :
C_p_r12_Disk_add #[.pointer a0, .string a1, .slice a2 a2n a2c] w Q := C_fold K_p_r12_Disk_add (by kernel_rfl) h
noncomputable def B_p_disk_Disk_Remove_S1 : Code := match Tryz.f98.body with | some c => c | _ => .skip
noncomputable def X_p_disk_Disk_Remove_S1 : Cx := { P := PP, fn := 98, N := 6, tab := tab, results := [.tmp 2], iter := fun _ => (.none, .none), dyn := fun _ => false, live := fun _ => none }
theorem K_p_disk_Disk_Remove_S1 : OkF X_p_disk_Disk_Remove_S1 B_p_disk_Disk_Remove_S1 Tryz.f98 := ⟨⟨tab_ok, mix_ok⟩, Tryz.func98, by kernel_rfl, by kernel_rfl, by kernel_rfl, by kernel_rfl⟩
theorem C_p_disk_Disk_Remove_S1_eq (Q : Value → World → Prop) (f0 : Addr) (f1 : Addr) (w : World) (h :
  opnP (w.cell? f0) fun x1 =>
  opnS (w.cell? f1) fun x2 =>
  C_p_disk_Disk_there #[.pointer x1, .string x2] w fun v3 w4 =>
  opnI .i64 (some v3) fun x5 =>
  Q (.int .i64 x5) w4) :
C_p_disk_Disk_Remove_S1 #[.pointer (some f0), .pointer (some f1)] w Q := C_fold K_p_disk_Disk_Remove_S1 (by kernel_rfl) h
noncomputable def B_p_disk_Disk_Remove_S2 : Code := match Tryz.f99.body with | some c => c | _ => .skip
noncomputable def X_p_disk_Disk_Remove_S2 : Cx := { P := PP, fn := 99, N := 5, tab := tab, results := [], iter := fun _ => (.none, .none), dyn := fun _ => false, live := fun _ => none }
theorem K_p_disk_Disk_Remove_S2 : OkF X_p_disk_Disk_Remove_S2 B_p_disk_Disk_Remove_S2 Tryz.f99 := ⟨⟨tab_ok, mix_ok⟩, Tryz.func99, by kernel_rfl, by kernel_rfl, by kernel_rfl, by kernel_rfl⟩
theorem C_p_disk_Disk_Remove_S2_eq (Q : Value → World → Prop) (f0 : Addr) (f1 : Addr) (w : World) (h :
  opnP (w.cell? f0) fun x1 =>
  C_p_disk_Disk_rename #[.pointer x1, .func (.func 100) #[] #[.pointer (some f1)]] w fun v2 w3 =>
  opnT (some v2) fun x4 =>
  x4.size = 0 ∧
  Q (.tuple #[]) w3) :
C_p_disk_Disk_Remove_S2 #[.pointer (some f0), .pointer (some f1)] w Q := C_fold K_p_disk_Disk_Remove_S2 (by kernel_rfl) h
noncomputable def B_p_disk_Disk_Remove_S2_S1 : Code := match Tryz.f100.body with | some c => c | _ => .skip
noncomputable def X_p_disk_Disk_Remove_S2_S1 : Cx := { P := PP, fn := 100, N := 5, tab := tab, results := [], iter := fun _ => (.none, .none), dyn := fun _ => false, live := fun _ => none }
theorem K_p_disk_Disk_Remove_S2_S1 : OkF X_p_disk_Disk_Remove_S2_S1 B_p_disk_Disk_Remove_S2_S1 Tryz.f100 := ⟨⟨tab_ok, mix_ok⟩, Tryz.func100, by kernel_rfl, by kernel_rfl, by kernel_rfl, by kernel_rfl⟩
theorem C_p_disk_Disk_Remove_S2_S1_eq (Q : Value → World → Prop) (a0 : Option Nat) (f0 : Addr) (w : World) (h :
  opnS (w.cell? f0) fun x1 =>
  sem PP (Builtin.delete_ #[80, 9] 0 #[.map a0, .string x1]) w fun v2 w3 =>
  Q (.tuple #[]) w3) :
C_p_disk_Disk_Remove_S2_S1 #[.map a0, .pointer (some f0)] w Q := C_fold K_p_disk_Disk_Remove_S2_S1 (by kernel_rfl) h
noncomputable def B_r12_IsName : Code := match Tryz.f101.body with | some c => c | _ => .skip
noncomputable def X_r12_IsName : Cx := { P := PP, fn := 101, N := 55, tab := tab, results := [.tmp 2], iter := fun _ => (.none, .none), dyn := fun _ => false, live := fun r => cond (Nat.beq r 2) (some []) (cond (Nat.beq r 5) (some [0, 3, 4]) (cond (Nat.beq r 6) (some [0, 3, 4]) (cond (Nat.beq r 8) (some [0, 3, 4]) (cond (Nat.beq r 9) (some [0, 4, 5]) (cond (Nat.beq r 10) (some []) (cond (Nat.beq r 11) (some [0, 4]) (cond (Nat.beq r 13) (some []) (none)))))))) }
theorem K_r12_IsName : OkF X_r12_IsName B_r12_IsName Tryz.f101 := ⟨⟨tab_ok, mix_ok⟩, Tryz.func101, by kernel_rfl, by kernel_rfl, by kernel_rfl, by kernel_rfl⟩
noncomputable def N_r12_IsName.j2 (Q : Value → World → Prop) (w : World) : Prop := Nd X_r12_IsName Q [] [.code (B_r12_IsName.r.l.r.l.l), .code (B_r12_IsName.r.l.r.l.r), .code (B_r12_IsName.r.r)] w
noncomputable def N_r12_IsName.j5 (Q : Value → World → Prop) (s0 : ByteArray) (s3 : Int) (s4 : Int) (w : World) : Prop := Nd X_r12_IsName Q [(0, 0, .string s0), (3, 3, .int .i64 s3), (4, 4, .int .i64 s4)] [.code (B_r12_IsName.r.r.r.l.r.l.l.l.l), .code (B_r12_IsName.r.r.r.l.r.l.l.l.r), .code (B_r12_IsName.r.r.r.l.r.l.l.r), .inLoop (B_r12_IsName.r.r.r.l.r.l.l), .inBlock 0, .code (B_r12_IsName.r.r.r.r)] w
noncomputable def N_r12_IsName.j6 (Q : Value → World → Prop) (s0 : ByteArray) (s3 : Int) (s4 : Int) (w : World) : Prop := Nd X_r12_IsName Q [(0, 0, .string s0), (3, 3, .int .i64 s3), (4, 4, .int .i64 s4)] [.code (B_r12_IsName.r.r.r.l.r.l.l.r.r), .inLoop (B_r12_IsName.r.r.r.l.r.l.l), .inBlock 0, .code (B_r12_IsName.r.r.r.r)] w
noncomputable def N_r12_IsName.j8 (Q : Value → World → Prop) (s0 : ByteArray) (s3 : Int) (s4 : Int) (w : World) : Prop := Nd X_r12_IsName Q [(0, 0, .string s0), (3, 3, .int .i64 s3), (4, 4, .int .i64 s4)] [.code (B_r12_IsName.r.r.r.l.r.l.l.r.l.l.r.l.l), .code (B_r12_IsName.r.r.r.l.r.l.l.r.l.l.r.l.r), .inBlock 1, .code (B_r12_IsName.r.r.r.l.r.l.l.r.r), .inLoop (B_r12_IsName.r.r.r.l.r.l.l), .inBlock 0, .code (B_r12_IsName.r.r.r.r)] w
noncomputable def N_r12_IsName.j9 (Q : Value → World → Prop) (s0 : ByteArray) (s4 : Int) (s5 : ByteArray) (w : World) : Prop := Nd X_r12_IsName Q [(0, 0, .string s0), (4, 4, .int .i64 s4), (5, 5, .string s5)] [.code (B_r12_IsName.r.r.r.l.r.l.l.r.l.l.r.l.r.l.l), .code (B_r12_IsName.r.r.r.l.r.l.l.r.l.l.r.l.r.l.r), .code (B_r12_IsName.r.r.r.l.r.l.l.r.l.l.r.l.r.r), .inBlock 1, .code (B_r12_IsName.r.r.r.l.r.l.l.r.r), .inLoop (B_r12_IsName.r.r.r.l.r.l.l), .inBlock 0, .code (B_r12_IsName.r.r.r.r)] w
noncomputable def N_r12_IsName.j10 (Q : Value → World → Prop) (w : World) : Prop := Nd X_r12_IsName Q [] [.code (B_r12_IsName.r.r.r.l.r.l.l.r.l.l.r.l.r.l.r.l.l), .code (B_r12_IsName.r.r.r.l.r.l.l.r.l.l.r.l.r.l.r.l.r), .code (B_r12_IsName.r.r.r.l.r.l.l.r.l.l.r.l.r.r), .inBlock 1, .code (B_r12_IsName.r.r.r.l.r.l.l.r.r), .inLoop (B_r12_IsName.r.r.r.l.r.l.l), .inBlock 0, .code (B_r12_IsName.r.r.r.r)] w
noncomputable def N_r12_IsName.j11 (Q : Value → World → Prop) (s0 : ByteArray) (s4 : Int) (w : World) : Prop := Nd X_r12_IsName Q [(0, 0, .string s0), (4, 4, .int .i64 s4)] [.code (B_r12_IsName.r.r.r.l.r.l.l.r.l.l.r.l.r.r), .inBlock 1, .code (B_r12_IsName.r.r.r.l.r.l.l.r.r), .inLoop (B_r12_IsName.r.r.r.l.r.l.l), .inBlock 0, .code (B_r12_IsName.r.r.r.r)] w
noncomputable def N_r12_IsName.j13 (Q : Value → World → Prop) (w : World) : Prop := Nd X_r12_IsName Q [] [.code (B_r12_IsName.r.r.r.l.r.l.l.r.l.l.r.r.r.l.l), .code (B_r12_IsName.r.r.r.l.r.l.l.r.l.l.r.r.r.l.r), .inBlock 1, .code (B_r12_IsName.r.r.r.l.r.l.l.r.r), .inLoop (B_r12_IsName.r.r.r.l.r.l.l), .inBlock 0, .code (B_r12_IsName.r.r.r.r)] w
theorem N_r12_IsName.j2_eq (Q : Value → World → Prop) (w : World) (h :
  Q (.bool false) w) :
N_r12_IsName.j2 Q w := Nd_fold K_r12_IsName (by kernel_rfl) h
theorem N_r12_IsName.j5_eq (Q : Value → World → Prop) (s0 : ByteArray) (s3 : Int) (s4 : Int) (w : World) (h :
  cond (decide (s4 ≤ ((s0.size : Nat) : Int)))
  (cond (s4 == ((s0.size : Nat) : Int))
  (N_r12_IsName.j8 Q s0 s3 s4 w)
  ((0 : Int) ≤ s4 ∧
  s4 < ((s0.size : Nat) : Int) ∧
  cond ((bt s0 (Int.toNat s4)) == 47)
  (N_r12_IsName.j8 Q s0 s3 s4 w)
  ((0 : Int) ≤ s4 ∧
  s4 < ((s0.size : Nat) : Int) ∧
  cond (decide ((bt s0 (Int.toNat s4)) < 33))
  (N_r12_IsName.j13 Q w)
  ((0 : Int) ≤ s4 ∧
  s4 < ((s0.size : Nat) : Int) ∧
  cond (decide ((bt s0 (Int.toNat s4)) > 126))
  (N_r12_IsName.j13 Q w)
  (N_r12_IsName.j6 Q s0 s3 s4 w)))))
  (Q (.bool true) w)) :
N_r12_IsName.j5 Q s0 s3 s4 w := Nd_fold K_r12_IsName (by kernel_rfl) h
theorem N_r12_IsName.j6_eq (Q : Value → World → Prop) (s0 : ByteArray) (s3 : Int) (s4 : Int) (w : World) (h :
  N_r12_IsName.j5 Q s0 s3 (IntKind.wrap .i64 (s4 + 1)) w) :
N_r12_IsName.j6 Q s0 s3 s4 w := Nd_fold K_r12_IsName (by kernel_rfl) h
theorem N_r12_IsName.j8_eq (Q : Value → World → Prop) (s0 : ByteArray) (s3 : Int) (s4 : Int) (w : World) (h :
  (0 : Int) ≤ s4 ∧
  s4 ≤ ((s0.size : Nat) : Int) ∧
  (0 : Int) ≤ s3 ∧
  s3 ≤ s4 ∧
  N_r12_IsName.j9 Q s0 s4 (s0.extract (Int.toNat s3) (Int.toNat s4)) w) :
N_r12_IsName.j8 Q s0 s3 s4 w := Nd_fold K_r12_IsName (by kernel_rfl) h
theorem N_r12_IsName.j9_eq (Q : Value → World → Prop) (s0 : ByteArray) (s4 : Int) (s5 : ByteArray) (w : World) (h :
  cond (s5.toList == (⟨#[]⟩ : ByteArray).toList)
  (N_r12_IsName.j10 Q w)
  (cond (s5.toList == (⟨#[46]⟩ : ByteArray).toList)
  (N_r12_IsName.j10 Q w)
  (cond (s5.toList == (⟨#[46, 46]⟩ : ByteArray).toList)
  (N_r12_IsName.j10 Q w)
  (N_r12_IsName.j11 Q s0 s4 w)))) :
N_r12_IsName.j9 Q s0 s4 s5 w := Nd_fold K_r12_IsName (by kernel_rfl) h
theorem N_r12_IsName.j10_eq (Q : Value → World → Prop) (w : World) (h :
  Q (.bool false) w) :
N_r12_IsName.j10 Q w := Nd_fold K_r12_IsName (by kernel_rfl) h
theorem N_r12_IsName.j11_eq (Q : Value → World → Prop) (s0 : ByteArray) (s4 : Int) (w : World) (h :
  N_r12_IsName.j6 Q s0 (IntKind.wrap .i64 (s4 + 1)) s4 w) :
N_r12_IsName.j11 Q s0 s4 w := Nd_fold K_r12_IsName (by kernel_rfl) h
theorem N_r12_IsName.j13_eq (Q : Value → World → Prop) (w : World) (h :
  Q (.bool false) w) :
N_r12_IsName.j13 Q w := Nd_fold K_r12_IsName (by kernel_rfl) h
theorem C_r12_IsName_eq (Q : Value → World → Prop) (a0 : ByteArray) (w : World) (h :
  cond (a0.toList == (⟨#[]⟩ : ByteArray).toList)
  (N_r12_IsName.j2 Q w)
  (cond (decide (((a0.size : Nat) : Int) > 255))
  (N_r12_IsName.j2 Q w)
  (N_r12_IsName.j5 Q a0 0 0 w))) :
C_r12_IsName #[.string a0] w Q := C_fold K_r12_IsName (by kernel_rfl) h
noncomputable def B_r12_find : Code := match Tryz.f102.body with | some c => c | _ => .skip
noncomputable def X_r12_find : Cx := { P := PP, fn := 102, N := 20, tab := tab, results := [.tmp 4], iter := fun _ => (.none, .none), dyn := fun _ => false, live := fun r => cond (Nat.beq r 2) (some [0, 1, 5]) (none) }
theorem K_r12_find : OkF X_r12_find B_r12_find Tryz.f102 := ⟨⟨tab_ok, mix_ok⟩, Tryz.func102, by kernel_rfl, by kernel_rfl, by kernel_rfl, by kernel_rfl⟩
noncomputable def N_r12_find.j2 (Q : Value → World → Prop) (s0 : Option Addr) (s0n : Nat) (s0c : Nat) (s1 : ByteArray) (s5 : Int) (w : World) : Prop := Nd X_r12_find Q [(0, 0, .slice s0 s0n s0c), (1, 1, .string s1), (5, 5, .int .i64 s5)] [.code (B_r12_find.r.l.r.l.l.l.l), .code (B_r12_find.r.l.r.l.l.l.r), .code (B_r12_find.r.l.r.l.l.r), .inLoop (B_r12_find.r.l.r.l.l), .inBlock 0, .code (B_r12_find.r.r)] w
theorem N_r12_find.j2_eq (Q : Value → World → Prop) (s0 : Option Addr) (s0n : Nat) (s0c : Nat) (s1 : ByteArray) (s5 : Int) (w : World) (h :
  cond (decide (s5 < ((s0n : Nat) : Int)))
  ((0 : Int) ≤ s5 ∧
  s5 < ((s0n : Nat) : Int) ∧
  opnA s0 fun ad1 =>
  opnS (w.cell? ((ad1.add (Int.toNat s5 * 2)).add 0)) fun x2 =>
  cond (x2.toList == s1.toList)
  (Q (.int .i64 s5) w)
  (N_r12_find.j2 Q s0 s0n s0c s1 (IntKind.wrap .i64 (s5 + 1)) w))
  (Q (.int .i64 (-1)) w)) :
N_r12_find.j2 Q s0 s0n s0c s1 s5 w := Nd_fold K_r12_find (by kernel_rfl) h
theorem C_r12_find_eq (Q : Value → World → Prop) (a0 : Option Addr) (a0n : Nat) (a0c : Nat) (a1 : ByteArray) (w : World) (h :
  N_r12_find.j2 Q a0 a0n a0c a1 0 w) :
C_r12_find #[.slice a0 a0n a0c, .string a1] w Q := C_fold K_r12_find (by kernel_rfl) h
noncomputable def B_p_r12_Disk_called : Code := match Tryz.f103.body with | some c => c | _ => .skip
noncomputable def X_p_r12_Disk_called : Cx := { P := PP, fn := 103, N := 27, tab := tab, results := [.tmp 2], iter := fun _ => (.none, .none), dyn := fun _ => false, live := fun _ => none }
theorem K_p_r12_Disk_called : OkF X_p_r12_Disk_called B_p_r12_Disk_called Tryz.f103 := ⟨⟨tab_ok, mix_ok⟩, Tryz.func103, by kernel_rfl, by kernel_rfl, by kernel_rfl, by kernel_rfl⟩
theorem C_p_r12_Disk_called_eq (Q : Value → World → Prop) (a0 : Option Addr) (w : World) (h :
  opnA a0 fun ad1 =>
  opnI .i64 (w.cell? (ad1.add 2)) fun x2 =>
  opnA a0 fun ad3 =>
  stC (ad3.add 2) (.int .i64 (IntKind.wrap .i64 (x2 + 1))) w fun w4 =>
  opnA a0 fun ad5 =>
  opnI .i64 (w4.cell? (ad5.add 3)) fun x6 =>
  cond (decide (x6 < 1))
  (Q (.bool false) w4)
  (opnA a0 fun ad7 =>
  opnI .i64 (w4.cell? (ad7.add 3)) fun x8 =>
  opnA a0 fun ad9 =>
  stC (ad9.add 3) (.int .i64 (IntKind.wrap .i64 (x8 - 1))) w4 fun w10 =>
  opnA a0 fun ad11 =>
  opnI .i64 (w10.cell? (ad11.add 3)) fun x12 =>
  Q (.bool (x12 == 0)) w10)) :
C_p_r12_Disk_called #[.pointer a0] w Q := C_fold K_p_r12_Disk_called (by kernel_rfl) h
noncomputable def B_p_r12_Disk_turn : Code := match Tryz.f104.body with | some c => c | _ => .skip
noncomputable def X_p_r12_Disk_turn : Cx := { P := PP, fn := 104, N := 23, tab := tab, results := [], iter := fun _ => (.none, .none), dyn := fun _ => false, live := fun _ => none }
theorem K_p_r12_Disk_turn : OkF X_p_r12_Disk_turn B_p_r12_Disk_turn Tryz.f104 := ⟨⟨tab_ok, mix_ok⟩, Tryz.func104, by kernel_rfl, by kernel_rfl, by kernel_rfl, by kernel_rfl⟩
theorem C_p_r12_Disk_turn_eq (Q : Value → World → Prop) (a0 : Option Addr) (a1_0 : Int) (a1_1 : ByteArray) (a1_2 : ByteArray) (a1_3 : Int) (w : World) (h :
  alC #[.int .i64 a1_0, .string a1_1, .string a1_2, .int .i64 a1_3] 131 w fun p1 w2 =>
  drw w2 fun w3 =>
  opnA a0 fun ad4 =>
  opnL (w3.cell? (ad4.add 8)) fun x5 x5n x5c =>
  opnI .i64 (w3.cell? (p1.add 0)) fun x6 =>
  opnS (w3.cell? (p1.add 1)) fun x7 =>
  opnS (w3.cell? (p1.add 2)) fun x8 =>
  opnI .i64 (w3.cell? (p1.add 3)) fun x9 =>
  C_r12_turned #[.slice x5 x5n x5c, .agg #[.int .i64 x6, .string x7, .string x8, .int .i64 x9]] w3 fun v10 w11 =>
  opnL (some v10) fun x12 x12n x12c =>
  opnA a0 fun ad13 =>
  stC (ad13.add 8) (.slice x12 x12n x12c) w11 fun w14 =>
  drw w14 fun w15 =>
  opnA a0 fun ad16 =>
  opnL (w15.cell? (ad16.add 9)) fun x17 x17n x17c =>
  opnI .i64 (w15.cell? (p1.add 0)) fun x18 =>
  opnS (w15.cell? (p1.add 1)) fun x19 =>
  opnS (w15.cell? (p1.add 2)) fun x20 =>
  opnI .i64 (w15.cell? (p1.add 3)) fun x21 =>
  alC #[.int .i64 x18, .string x19, .string x20, .int .i64 x21] 131 w15 fun p22 w23 =>
  (opnL (w23.cell? (ad16.add 9)) fun x24 x24n x24c =>
  ((.slice x24 x24n x24c) : Value) = .slice x17 x17n x17c) ∧
  sem PP (Builtin.append_ #[104, 104] 104 #[.slice x17 x17n x17c, .slice (some p22) 1 1]) w23 fun v25 w26 =>
  opnL (some v25) fun x27 x27n x27c =>
  opnA a0 fun ad28 =>
  stC (ad28.add 9) (.slice x27 x27n x27c) w26 fun w29 =>
  Q (.tuple #[]) w29) :
C_p_r12_Disk_turn #[.pointer a0, .agg #[.int .i64 a1_0, .string a1_1, .string a1_2, .int .i64 a1_3]] w Q := C_fold K_p_r12_Disk_turn (by kernel_rfl) h
noncomputable def B_p_r12_Disk_ended : Code := match Tryz.f105.body with | some c => c | _ => .skip
noncomputable def X_p_r12_Disk_ended : Cx := { P := PP, fn := 105, N := 9, tab := tab, results := [.tmp 4], iter := fun _ => (.none, .none), dyn := fun _ => false, live := fun _ => none }
theorem K_p_r12_Disk_ended : OkF X_p_r12_Disk_ended B_p_r12_Disk_ended Tryz.f105 := ⟨⟨tab_ok, mix_ok⟩, Tryz.func105, by kernel_rfl, by kernel_rfl, by kernel_rfl, by kernel_rfl⟩
theorem C_p_r12_Disk_ended_eq (Q : Value → World → Prop) (a0 : Option Addr) (a1 : Bool) (w : World) (h :
  cond a1
  (opnA a0 fun ad1 =>
  stC (ad1.add 1) (.bool true) w fun w2 =>
  Q (.int .i64 125) w2)
  (Q (.int .i64 0) w)) :
C_p_r12_Disk_ended #[.pointer a0, .bool a1] w Q := C_fold K_p_r12_Disk_ended (by kernel_rfl) h
noncomputable def B_p_r12_Disk_now : Code := match Tryz.f106.body with | some c => c | _ => .skip
noncomputable def X_p_r12_Disk_now : Cx := { P := PP, fn := 106, N := 52, tab := tab, results := [.tmp 4], iter := fun _ => (.none, .none), dyn := fun _ => false, live := fun r => cond (Nat.beq r 3) (some [0, 1, 5, 6]) (cond (Nat.beq r 4) (some [0, 1, 5, 6]) (none)) }
theorem K_p_r12_Disk_now : OkF X_p_r12_Disk_now B_p_r12_Disk_now Tryz.f106 := ⟨⟨tab_ok, mix_ok⟩, Tryz.func106, by kernel_rfl, by kernel_rfl, by kernel_rfl, by kernel_rfl⟩
noncomputable def N_p_r12_Disk_now.j3 (Q : Value → World → Prop) (s0 : Option Addr) (s1 : Int) (s5 : Option Addr) (s5n : Nat) (s5c : Nat) (s6 : Int) (w : World) : Prop := Nd X_p_r12_Disk_now Q [(0, 0, .pointer s0), (1, 1, .int .i64 s1), (5, 5, .slice s5 s5n s5c), (6, 6, .int .i64 s6)] [.code (B_p_r12_Disk_now.r.r.l.r.l.l.l.l), .code (B_p_r12_Disk_now.r.r.l.r.l.l.l.r), .code (B_p_r12_Disk_now.r.r.l.r.l.l.r), .inLoop (B_p_r12_Disk_now.r.r.l.r.l.l), .inBlock 0, .code (B_p_r12_Disk_now.r.r.r)] w
noncomputable def N_p_r12_Disk_now.j4 (Q : Value → World → Prop) (s0 : Option Addr) (s1 : Int) (s5 : Option Addr) (s5n : Nat) (s5c : Nat) (s6 : Int) (w : World) : Prop := Nd X_p_r12_Disk_now Q [(0, 0, .pointer s0), (1, 1, .int .i64 s1), (5, 5, .slice s5 s5n s5c), (6, 6, .int .i64 s6)] [.code (B_p_r12_Disk_now.r.r.l.r.l.l.r.r), .inLoop (B_p_r12_Disk_now.r.r.l.r.l.l), .inBlock 0, .code (B_p_r12_Disk_now.r.r.r)] w
theorem N_p_r12_Disk_now.j3_eq (Q : Value → World → Prop) (s0 : Option Addr) (s1 : Int) (s5 : Option Addr) (s5n : Nat) (s5c : Nat) (s6 : Int) (w : World) (h :
  opnA s0 fun ad1 =>
  opnL (w.cell? (ad1.add 10)) fun x2 x2n x2c =>
  cond (decide (s6 < ((x2n : Nat) : Int)))
  (opnA s0 fun ad3 =>
  opnL (w.cell? (ad3.add 10)) fun x4 x4n x4c =>
  (0 : Int) ≤ s6 ∧
  s6 < ((x4n : Nat) : Int) ∧
  opnA x4 fun ad5 =>
  opnI .i64 (w.cell? ((ad5.add (Int.toNat s6 * 3)).add 0)) fun x6 =>
  cond (x6 == s1)
  (drw w fun w7 =>
  opnA s0 fun ad8 =>
  opnA s0 fun ad9 =>
  opnL (w7.cell? (ad8.add 10)) fun x10 x10n x10c =>
  (0 : Int) ≤ s6 ∧
  s6 < ((x10n : Nat) : Int) ∧
  opnA x10 fun ad11 =>
  opnI .i64 (w7.cell? ((ad11.add (Int.toNat s6 * 3)).add 1)) fun x12 =>
  opnL (w7.cell? (ad9.add 10)) fun x13 x13n x13c =>
  (0 : Int) ≤ s6 ∧
  s6 < ((x13n : Nat) : Int) ∧
  opnA x13 fun ad14 =>
  opnL (w7.cell? ((ad14.add (Int.toNat s6 * 3)).add 2)) fun x15 x15n x15c =>
  C_r12_laid #[.slice s5 s5n s5c, .int .i64 x12, .slice x15 x15n x15c] w7 fun v16 w17 =>
  opnL (some v16) fun x18 x18n x18c =>
  N_p_r12_Disk_now.j4 Q s0 s1 x18 x18n x18c s6 w17)
  (N_p_r12_Disk_now.j4 Q s0 s1 s5 s5n s5c s6 w))
  (Q (.slice s5 s5n s5c) w)) :
N_p_r12_Disk_now.j3 Q s0 s1 s5 s5n s5c s6 w := Nd_fold K_p_r12_Disk_now (by kernel_rfl) h
theorem N_p_r12_Disk_now.j4_eq (Q : Value → World → Prop) (s0 : Option Addr) (s1 : Int) (s5 : Option Addr) (s5n : Nat) (s5c : Nat) (s6 : Int) (w : World) (h :
  N_p_r12_Disk_now.j3 Q s0 s1 s5 s5n s5c (IntKind.wrap .i64 (s6 + 1)) w) :
N_p_r12_Disk_now.j4 Q s0 s1 s5 s5n s5c s6 w := Nd_fold K_p_r12_Disk_now (by kernel_rfl) h
theorem C_p_r12_Disk_now_eq (Q : Value → World → Prop) (a0 : Option Addr) (a1 : Int) (w : World) (h :
  opnA a0 fun ad1 =>
  opnL (w.cell? (ad1.add 5)) fun x2 x2n x2c =>
  (0 : Int) ≤ a1 ∧
  a1 < ((x2n : Nat) : Int) ∧
  opnA x2 fun ad3 =>
  opnL (w.cell? (ad3.add (Int.toNat a1 * 1))) fun x4 x4n x4c =>
  N_p_r12_Disk_now.j3 Q a0 a1 x4 x4n x4c 0 w) :
C_p_r12_Disk_now #[.pointer a0, .int .i64 a1] w Q := C_fold K_p_r12_Disk_now (by kernel_rfl) h
noncomputable def B_r12_without : Code := match Tryz.f108.body with | some c => c | _ => .skip
noncomputable def X_r12_without : Cx := { P := PP, fn := 108, N := 28, tab := tab, results := [.tmp 4], iter := fun _ => (.none, .none), dyn := fun _ => false, live := fun r => cond (Nat.beq r 3) (some [0, 1, 5, 6]) (cond (Nat.beq r 4) (some [0, 1, 5, 6]) (none)) }
theorem K_r12_without : OkF X_r12_without B_r12_without Tryz.f108 := ⟨⟨tab_ok, mix_ok⟩, Tryz.func108, by kernel_rfl, by kernel_rfl, by kernel_rfl, by kernel_rfl⟩
noncomputable def N_r12_without.j3 (Q : Value → World → Prop) (s0 : Option Addr) (s0n : Nat) (s0c : Nat) (s1 : ByteArray) (s5 : Option Addr) (s5n : Nat) (s5c : Nat) (s6 : Int) (w : World) : Prop := Nd X_r12_without Q [(0, 0, .slice s0 s0n s0c), (1, 1, .string s1), (5, 5, .slice s5 s5n s5c), (6, 6, .int .i64 s6)] [.code (B_r12_without.r.r.l.r.l.l.l.l), .code (B_r12_without.r.r.l.r.l.l.l.r), .code (B_r12_without.r.r.l.r.l.l.r), .inLoop (B_r12_without.r.r.l.r.l.l), .inBlock 0, .code (B_r12_without.r.r.r)] w
noncomputable def N_r12_without.j4 (Q : Value → World → Prop) (s0 : Option Addr) (s0n : Nat) (s0c : Nat) (s1 : ByteArray) (s5 : Option Addr) (s5n : Nat) (s5c : Nat) (s6 : Int) (w : World) : Prop := Nd X_r12_without Q [(0, 0, .slice s0 s0n s0c), (1, 1, .string s1), (5, 5, .slice s5 s5n s5c), (6, 6, .int .i64 s6)] [.code (B_r12_without.r.r.l.r.l.l.r.r), .inLoop (B_r12_without.r.r.l.r.l.l), .inBlock 0, .code (B_r12_without.r.r.r)] w
theorem N_r12_without.j3_eq (Q : Value → World → Prop) (s0 : Option Addr) (s0n : Nat) (s0c : Nat) (s1 : ByteArray) (s5 : Option Addr) (s5n : Nat) (s5c : Nat) (s6 : Int) (w : World) (h :
  cond (decide (s6 < ((s0n : Nat) : Int)))
  ((0 : Int) ≤ s6 ∧
  s6 < ((s0n : Nat) : Int) ∧
  opnA s0 fun ad1 =>
  opnS (w.cell? ((ad1.add (Int.toNat s6 * 2)).add 0)) fun x2 =>
  cond (!(x2.toList == s1.toList))
  ((0 : Int) ≤ s6 ∧
  s6 < ((s0n : Nat) : Int) ∧
  opnA s0 fun ad3 =>
  opnS (w.cell? ((ad3.add (Int.toNat s6 * 2)).add 0)) fun x4 =>
  opnI .i64 (w.cell? ((ad3.add (Int.toNat s6 * 2)).add 1)) fun x5 =>
  alC #[.string x4, .int .i64 x5] 133 w fun p6 w7 =>
  sem PP (Builtin.append_ #[103, 103] 103 #[.slice s5 s5n s5c, .slice (some p6) 1 1]) w7 fun v8 w9 =>
  opnL (some v8) fun x10 x10n x10c =>
  N_r12_without.j4 Q s0 s0n s0c s1 x10 x10n x10c s6 w9)
  (N_r12_without.j4 Q s0 s0n s0c s1 s5 s5n s5c s6 w))
  (Q (.slice s5 s5n s5c) w)) :
N_r12_without.j3 Q s0 s0n s0c s1 s5 s5n s5c s6 w := Nd_fold K_r12_without (by kernel_rfl) h
theorem N_r12_without.j4_eq (Q : Value → World → Prop) (s0 : Option Addr) (s0n : Nat) (s0c : Nat) (s1 : ByteArray) (s5 : Option Addr) (s5n : Nat) (s5c : Nat) (s6 : Int) (w : World) (h :
  N_r12_without.j3 Q s0 s0n s0c s1 s5 s5n s5c (IntKind.wrap .i64 (s6 + 1)) w) :
N_r12_without.j4 Q s0 s0n s0c s1 s5 s5n s5c s6 w := Nd_fold K_r12_without (by kernel_rfl) h
theorem C_r12_without_eq (Q : Value → World → Prop) (a0 : Option Addr) (a0n : Nat) (a0c : Nat) (a1 : ByteArray) (w : World) (h :
  N_r12_without.j3 Q a0 a0n a0c a1 none 0 0 0 w) :
C_r12_without #[.slice a0 a0n a0c, .string a1] w Q := C_fold K_r12_without (by kernel_rfl) h
end Go.Proofs.YtfjhhpoabdpdhaaGreatDoor
set_option maxRecDepth 10000
namespace Go.Proofs.YtfjhhpoabdpdhaaGreatDoor
open Go.Sh Go.ChangeShapes
open Go.RowKit
open Go.Lib in
theorem splitK_pieces : ∀ l : List UInt8, splitK [47] 0 (count l [47]) l = pieces l
  | [] => by rw [count_one]; rfl
  | b :: l => by
    have ih := splitK_pieces l
    by_cases hb : b = 47
    · subst hb
      have hix : index (47 :: l) [47] = ((0 : Nat) : Int) := by rw [index]; simp [List.isPrefixOf]
      rw [count_cons_eq, Nat.add_comm, splitK, if_neg (by rw [hix]; decide), hix, pieces, if_pos rfl]
      simpa using ih
    · have hp : ([47] : List UInt8).isPrefixOf (b :: l) = false := by simp [List.isPrefixOf, Ne.symm hb]
      have hix : index (b :: l) [47] = if index l [47] == -1 then -1 else index l [47] + 1 := by rw [index, hp]; simp
      rw [count_cons_ne b 47 l hb, pieces, if_neg hb, ← ih]
      by_cases hm : index l [47] = -1
      · rw [count_miss hm]; rfl
      · have hge := index_ge l [47]
        obtain ⟨j, hj⟩ : ∃ j : Nat, index l [47] = j := ⟨(index l [47]).toNat, by omega⟩
        have hix' : index (b :: l) [47] = ((j + 1 : Nat) : Int) := by rw [hix, if_neg (fun e => hm (beq_iff_eq.1 e)), hj]; omega
        rw [count_hit (by simp) hj, Nat.add_comm, splitK, splitK, if_neg (by rw [hix']; simp; omega), if_neg (by rw [hj]; simp), hix', hj]
        simp
theorem split_word {Q : Value → World → Prop} {w : World} (s : Str) (hs : s.length < 4294967281) (hd : Dst w) (h : ∀ b w', Own w' 9 1 (some ⟨b, 0, none⟩) (pieces s).length (pieces s).length ((pieces s).map strv) → Chg None w w' → w.heap.size ≤ b → Q (.slice (some ⟨b, 0, none⟩) (pieces s).length (pieces s).length) w') : C_strings_Split #[.string ⟨s.toArray⟩, .string (⟨#[47]⟩ : ByteArray)] w Q := by
  obtain ⟨m, hm⟩ := hd
  refine C_calls Tryz.func93 (by rfl) (by decide) ((strings_Split ⟨s.toArray⟩ ⟨#[47]⟩ m w (by show s.toArray.size < _; simpa using hs) hm (by decide)).mono ?_)
  rintro e w' ⟨rfl, rfl⟩
  have hsz : (⟨s.toArray⟩ : ByteArray).data.toList = s := by simp
  have hc : Go.Lib.countB ⟨s.toArray⟩ ⟨#[47]⟩ = Go.Lib.count s [47] := by
    show Go.Lib.count (⟨s.toArray⟩ : ByteArray).data.toList _ = _
    rw [hsz]
  have hl : (Go.Lib.splitB ⟨#[47]⟩ 0 (Go.Lib.countB ⟨s.toArray⟩ ⟨#[47]⟩) ⟨s.toArray⟩).map (·.data.toList) = pieces s := by
    rw [Go.Lib.splitB_data, hc, hsz]; exact splitK_pieces s
  have hn : Go.Lib.countB ⟨s.toArray⟩ ⟨#[47]⟩ + 1 = (pieces s).length := by
    rw [← hl, List.length_map, Go.Lib.splitB_all ⟨#[47]⟩ (by decide) 0 _ _ rfl]
  have hv : (Go.Lib.splitB ⟨#[47]⟩ 0 (Go.Lib.countB ⟨s.toArray⟩ ⟨#[47]⟩) ⟨s.toArray⟩).map Value.string = (pieces s).map strv := by
    rw [← hl, List.map_map]
    refine List.map_congr_left fun x _ => ?_
    simp
  have hb : Blk (w.alloc (.cells ((pieces s).map strv).toArray 9)) w.heap.size 9 ((pieces s).map strv) := by simpa using blk_alloc (w := w) (t := 9) (cs := ((pieces s).map strv).toArray)
  rw [hn, hv]
  exact h w.heap.size _ ⟨by simp, .inr ⟨_, [], rfl, by simpa using hb, by simp, Nat.le_refl _⟩⟩ (chg_alloc _ _) (Nat.le_refl _)
theorem str_eq (a b : List UInt8) : ((⟨a.toArray⟩ : ByteArray).toList == (⟨b.toArray⟩ : ByteArray).toList) = decide (a = b) := by
  rw [ByteArray.toList_eq, ByteArray.toList_eq]
  by_cases h : a = b
  · subst h; rw [beq_self_eq_true, decide_eq_true rfl]
  · rw [decide_eq_false h]; exact beq_eq_false_iff_ne.2 (by simpa using h)
theorem bt_at (pre : List UInt8) (c : UInt8) (r : List UInt8) : bt ⟨(pre ++ c :: r).toArray⟩ (Int.toNat (pre.length : Int)) = (c.toNat : Int) := by
  unfold bt
  simp
def goodC (c : UInt8) : Bool := decide (33 ≤ c.toNat ∧ c.toNat ≤ 126)
section
variable {Q : Value → World → Prop} {w w0 : World}
theorem named_pieces (ps : List (List UInt8)) {b : Nat} (ho : Own w 9 1 (some ⟨b, 0, none⟩) ps.length ps.length (ps.map strv)) (hps : ps.length < 4611686018427387904) : ∀ (r pre : List (List UInt8)), ps = pre ++ r → Q (.bool (r.all pieceOk)) w → N_disk_named.j10 Q (some ⟨b, 0, none⟩) ps.length ps.length (ps.length : Int) (pre.length : Int) w
  | [], pre, he, h => by
    have hl : ps.length = pre.length := by rw [he]; simp
    refine N_disk_named.j10_eq _ _ _ _ _ _ _ ?_
    rw [decide_eq_false (by omega)]
    exact h
  | x :: r, pre, he, h => by
    have hl : ps.length = pre.length + (r.length + 1) := by rw [he]; simp
    refine N_disk_named.j10_eq _ _ _ _ _ _ _ ?_
    rw [decide_eq_true (by omega)]
    refine ⟨by omega, by omega, rd_str ho (l := x) (by rw [he]; simp) ?_⟩
    rw [str_eq x [46], str_eq x [46, 46], show (⟨#[]⟩ : ByteArray) = ⟨([] : List UInt8).toArray⟩ from rfl, str_eq x []]
    have hall : (x :: r).all pieceOk = (pieceOk x && r.all pieceOk) := rfl
    have hp : pieceOk x = (!decide (x = []) && !decide (x = [46]) && !decide (x = [46, 46])) := by
      unfold pieceOk
      have e : ∀ y : List UInt8, (x == y) = decide (x = y) := fun y => by
        by_cases h : x = y
        · subst h; rw [beq_self_eq_true, decide_eq_true rfl]
        · rw [decide_eq_false h]; exact beq_eq_false_iff_ne.2 h
      rw [e, e, e]
    rw [hall, hp] at h
    cases h1 : decide (x = []) with
    | true => rw [h1] at h; exact N_disk_named.j13_eq _ _ h
    | false =>
      cases h2 : decide (x = [46]) with
      | true => rw [h1, h2] at h; exact N_disk_named.j13_eq _ _ h
      | false =>
        cases h3 : decide (x = [46, 46]) with
        | true => rw [h1, h2, h3] at h; exact N_disk_named.j13_eq _ _ h
        | false =>
          rw [h1, h2, h3] at h
          show N_disk_named.j10 _ _ _ _ _ (IntKind.wrap .i64 _) _
          rw [wrap_nat (by omega)]
          have := named_pieces ps ho hps r (pre ++ [x]) (by rw [he]; simp) h
          simpa using this
theorem named_chars (s : Str) (hs : s.length ≤ 255) (hd : Dst w) (h : ∀ w', Chg None w w' → Q (.bool (s.all goodC && (pieces s).all pieceOk)) w') : ∀ (r pre : List UInt8), s = pre ++ r → pre.all goodC = true → N_disk_named.j4 Q ⟨s.toArray⟩ (s.length : Int) (pre.length : Int) w
  | [], pre, he, hp => by
    have hl : s.length = pre.length := by rw [he]; simp
    refine N_disk_named.j4_eq _ _ _ _ _ ?_
    rw [decide_eq_false (by omega)]
    refine split_word s (by omega) hd fun b w' ho k hb => ?_
    have hpc : ∀ l : List UInt8, (pieces l).length ≤ l.length + 1 := by
      intro l
      induction l with
      | nil => simp [pieces]
      | cons c l ih =>
        rw [pieces]
        split
        · simp; exact ih
        · split
          · rename_i hx; rw [hx] at ih; simp at ih ⊢; omega
          · simp
    have := hpc s
    refine named_pieces (pieces s) ho (by omega) (pieces s) [] rfl ?_
    have hsp : s = pre := by rw [he]; simp
    have := h w' k
    rw [hsp, hp] at this
    rw [hsp]; exact this
  | c :: r, pre, he, hp => by
    have hl : s.length = pre.length + (r.length + 1) := by rw [he]; simp
    refine N_disk_named.j4_eq _ _ _ _ _ ?_
    rw [decide_eq_true (by omega)]
    have hsz : (⟨s.toArray⟩ : ByteArray).size = s.length := by show s.toArray.size = _; simp
    have hbt : bt ⟨s.toArray⟩ (Int.toNat (pre.length : Int)) = (c.toNat : Int) := by rw [he]; exact bt_at pre c r
    have hno : goodC c = false → Q (.bool false) w := fun hc => by
      have := h w (Chg.refl _ _)
      rw [he, List.all_append, List.all_cons, hc] at this
      simpa using this
    rw [hsz, hbt]
    refine ⟨by omega, by omega, ?_⟩
    by_cases h1 : c.toNat < 33
    · rw [decide_eq_true (by omega)]
      exact N_disk_named.j7_eq _ _ (hno (decide_eq_false (by omega)))
    · rw [decide_eq_false (by omega)]
      refine ⟨by omega, by omega, ?_⟩
      by_cases h2 : c.toNat > 126
      · rw [decide_eq_true (by omega)]
        exact N_disk_named.j7_eq _ _ (hno (decide_eq_false (by omega)))
      · rw [decide_eq_false (by omega)]
        show N_disk_named.j4 _ _ _ (IntKind.wrap .i64 _) _
        rw [wrap_nat (by omega)]
        have := named_chars s hs hd h r (pre ++ [c]) (by rw [he]; simp) (by rw [List.all_append, hp]; simp [goodC]; omega)
        simpa using this
theorem named_word (s : Str) (hs : s.length < 4611686018427387904) (hd : Dst w) (h : ∀ w', Chg None w w' → Q (.bool (nameOk s)) w') : C_disk_named #[strv s] w Q := by
  refine C_disk_named_eq _ _ _ ?_
  have hsz : (⟨s.toArray⟩ : ByteArray).size = s.length := by show s.toArray.size = _; simp
  have hg : (fun c : UInt8 => decide (33 ≤ c.toNat ∧ c.toNat ≤ 126)) = goodC := rfl
  rw [hsz]
  unfold nameOk at h
  rw [hg] at h
  by_cases h1 : s.length < 1
  · rw [decide_eq_true (by omega)]
    rw [decide_eq_false (by omega)] at h
    exact N_disk_named.j2_eq _ _ (h w (Chg.refl _ _))
  · rw [decide_eq_false (by omega)]
    by_cases h2 : s.length > 255
    · rw [decide_eq_true (by omega)]
      rw [decide_eq_false (by omega)] at h
      exact N_disk_named.j2_eq _ _ (h w (Chg.refl _ _))
    · rw [decide_eq_false (by omega)]
      rw [decide_eq_true (by omega)] at h
      exact named_chars s (by omega) hd h s [] rfl rfl
end
end Go.Proofs.YtfjhhpoabdpdhaaGreatDoor
set_option maxRecDepth 10000
namespace Go.Proofs.YtfjhhpoabdpdhaaGreatDoor
open Go.Sh Go.ChangeShapes
open Go.RowKit
theorem T29 : SlT PP 23 5 1 1 := ⟨Tryz.underlying23, by kernel_rfl⟩
theorem T66 : SlT PP 81 101 1 8 := ⟨Tryz.underlying81, by kernel_rfl⟩
theorem T73 : SlT PP 87 94 3 40 := ⟨Tryz.underlying87, by kernel_rfl⟩
theorem K9 : KeyT PP 9 strv := key_string Tryz.underlying9
theorem M65 : PP.underlying 80 = some (.map 9 86) := Tryz.underlying80
theorem z72 : (PP.info? 86).bind (·.zero) = some (.pointer none) := by kernel_rfl
section
variable {Q : Value → World → Prop} {w w0 : World}
theorem lies_nil {S : Nat → Prop} {l : List Value} (h : Lies w S none l) : l = [] := by
  cases l with
  | nil => rfl
  | cons v r => obtain ⟨_, hq, _⟩ := h 0 v rfl; cases hq
theorem clone_word {S : Nat → Prop} {a : Option Addr} {c : Nat} {l : List UInt8} (h : Lies w S a (bvs l)) (hl : l.length ≤ 140737488355328) (hQ : ∀ a' c' w', Own w' 5 1 a' l.length c' (bvs l) → (∀ k, At a' k → w.heap.size ≤ k) → Chg None w w' → Q (.slice a' l.length c') w') : C_slices_Clone_byte_byte #[.slice a l.length c] w Q := by
  refine C_slices_Clone_byte_byte_eq _ _ _ _ _ ?_
  cases a with
  | none =>
    have : l = [] := List.map_eq_nil_iff.1 (lies_nil h)
    subst this
    exact hQ none 0 w Own.nil (fun k hk => by obtain ⟨p, hp, _⟩ := hk; cases hp) (Chg.refl _ _)
  | some p =>
    rw [show (some p).isNone = false from rfl, cond_false]
    refine alC_box fun b w2 hb k hlt => ?_
    have ho : Own w2 5 1 (some ⟨b, 0, none⟩) 0 0 [] := ⟨rfl, .inr ⟨b, [], rfl, hb, Nat.le_refl _, Nat.le_refl _⟩⟩
    refine append_own T29 ho (src_bytes Tryz.underlying23 (h.chg0 k)) (by simp [maxLen]; omega) (by omega) fun a' c' w' o k' f => ?_
    show Q _ _
    rw [List.nil_append, Nat.zero_add] at *
    refine hQ a' c' w' o (fun x hx => ?_) (Chg.fresh k k' fun x hx => ?_)
    · obtain ⟨q, rfl, rfl⟩ := hx
      rcases f with e | ⟨b', e, hb'⟩
      · cases e; exact hlt
      · cases e; exact Nat.le_trans k.size hb'
    · obtain ⟨q, e, rfl⟩ := hx; cases e; exact hlt
theorem copied_word {S : Nat → Prop} {a : Option Addr} {c : Nat} {l : List UInt8} (h : Lies w S a (bvs l)) (hl : l.length ≤ 140737488355328) (hQ : ∀ a' c' w', Own w' 5 1 a' l.length c' (bvs l) → (∀ k, At a' k → w.heap.size ≤ k) → Chg None w w' → Q (.slice a' l.length c') w') : C_l12_copied #[.slice a l.length c] w Q := by
  refine C_l12_copied_eq _ _ _ _ _ ?_
  refine append_own T29 Own.nil (src_bytes Tryz.underlying23 h) (by simp [maxLen]; omega) (by omega) fun a' c' w' o k' f => ?_
  show Q _ _
  rw [List.nil_append, Nat.zero_add] at *
  refine hQ a' c' w' o (fun x hx => ?_) (k'.mono fun x _ hx => by obtain ⟨q, e, rfl⟩ := hx; cases e)
  obtain ⟨q, rfl, rfl⟩ := hx
  rcases f with e | ⟨b', e, hb'⟩
  · cases e
  · cases e; exact hb'
theorem copy_own {S : Nat → Prop} {b n c : Nat} {l d : List UInt8} (h : Own w 5 1 (some ⟨b, 0, none⟩) n c (bvs l)) {q : Option Addr} {cq : Nat} (hq : Lies w S q (bvs d)) {i : Nat} (hi : i + d.length ≤ n) (hd : d ≠ []) {K : Value → World → Prop}
    (hK : ∀ w', Own w' 5 1 (some ⟨b, 0, none⟩) n c (bvs (l.take i ++ d ++ l.drop (i + d.length))) → Chg (fun k => k = b) w w' → K (.int .i64 (d.length : Int)) w') :
    sem PP (Builtin.copy_ #[23, 23] 3 #[.slice (slA (some ⟨b, 0, none⟩) i c 1) (n - i) (c - i), .slice q d.length cq]) w K := by
  have hd0 : 0 < d.length := List.length_pos_iff.2 hd
  have hln : l.length = n := by have := h.len; simpa using this
  rcases h.row with ⟨e, _⟩ | ⟨b', rest, e, hb, hc, hnc⟩
  · cases e
  obtain rfl : b = b' := by cases e; rfl
  cases q with
  | none => have := lies_nil hq; rw [bvs, List.map_eq_nil_iff] at this; exact absurd this hd
  | some p =>
    have hsl : slA (some (⟨b, 0, none⟩ : Addr)) i c 1 = some ⟨b, i, none⟩ := by
      unfold slA
      rw [if_neg (by omega)]
      simp [Addr.add_lit]
    have hl2 : (bvs l ++ rest).length = l.length + rest.length := by simp
    have hrun := run_copy_cells (P := PP) w 23 23 3 5 b i (n - i) (c - i) p d.length cq (bvs d) T29.ht (by kernel_rfl) (by rw [bvs_len]; exact (Nat.min_eq_left (by omega)).symm)
      (fun j v hj => by obtain ⟨q, hq1, _, hc⟩ := hq j v hj; cases hq1; exact hc)
      (fun j hj => by rw [bvs_len] at hj; rw [hb.cell, List.getElem?_eq_getElem (by omega)]; rfl)
      (fun j hj => by rw [bvs_len] at hj; exact hb.thaw (by omega)) bvs_one
    unfold sem
    rw [hsl, hrun]
    obtain ⟨g1, g2⟩ := hb.setCells (bvs d) i (by rw [bvs_len]; omega)
    rw [show goInt (bvs d).length = .int .i64 (d.length : Int) by rw [bvs_len]; rfl]
    refine hK _ ⟨?_, .inr ⟨b, rest, rfl, ?_, ?_, hnc⟩⟩ g2
    · simp; omega
    · have e : (bvs l ++ rest).take i ++ bvs d ++ (bvs l ++ rest).drop (i + (bvs d).length) = bvs (l.take i ++ d ++ l.drop (i + d.length)) ++ rest := by
        rw [List.take_append_of_le_length (by rw [bvs_len]; omega), List.drop_append_of_le_length (by rw [bvs_len, bvs_len]; omega), bvs_len]
        simp only [bvs, List.map_append, List.map_take, List.map_drop, List.append_assoc]
      rw [← e]; exact g1
    · have e : (bvs (l.take i ++ d ++ l.drop (i + d.length)) ++ rest).length = (bvs l ++ rest).length := by simp; omega
      rw [e]; exact hc
theorem own_some {e sz n c : Nat} {a : Option Addr} {l : List Value} (h : Own w e sz a n c l) (hn : 0 < n) : ∃ b, a = some ⟨b, 0, none⟩ := by
  rcases h.row with ⟨_, e, _⟩ | ⟨b, _, e, _⟩
  · omega
  · exact ⟨b, e⟩
theorem laid_copy {S : Nat → Prop} {b c : Nat} {x d : List UInt8} (h : Own w 5 1 (some ⟨b, 0, none⟩) x.length c (bvs x)) {q : Option Addr} {cq : Nat} (hq : Lies w S q (bvs d)) {i : Nat} (hi : i + d.length ≤ x.length) (hd : d ≠ [])
    (hQ : ∀ w', Own w' 5 1 (some ⟨b, 0, none⟩) x.length c (bvs (x.take i ++ d ++ x.drop (i + d.length))) → Chg (fun k => k = b) w w' → Q (.slice (some ⟨b, 0, none⟩) x.length c) w') :
    N_disk_laid.j6 Q (some ⟨b, 0, none⟩) x.length c (i : Int) q d.length cq w := by
  refine N_disk_laid.j6_eq _ _ _ _ _ _ _ _ _ ⟨by omega, by omega, ?_⟩
  rw [Int.toNat_natCast]
  refine copy_own h hq hi hd fun w' o k => ?_
  exact opnI_c rfl (N_disk_laid.j7_eq _ _ _ _ _ (hQ w' o k))
theorem laid_word {S : Nat → Prop} {a : Option Addr} {c : Nat} {b d : List UInt8} (h : Own w 5 1 a b.length c (bvs b)) {q : Option Addr} {cq : Nat} (hq : Lies w S q (bvs d)) (hS : ∀ k, S k → ¬ At a k) {i : Nat} (hb : b.length ≤ 35184372088832) (hi : i ≤ 35184372088832) (hdl : d.length ≤ 35184372088832)
    (hQ : ∀ a' c' w', Own w' 5 1 a' (laidB b i d).length c' (bvs (laidB b i d)) → Chg (At a) w w' → (∀ k, At a' k → At a k ∨ w.heap.size ≤ k) → Q (.slice a' (laidB b i d).length c') w') :
    C_disk_laid #[.slice a b.length c, .int .i64 (i : Int), .slice q d.length cq] w Q := by
  refine C_disk_laid_eq _ _ _ _ _ _ _ _ _ ?_
  by_cases hd : d = []
  · subst hd
    have e : laidB b i [] = b := by unfold laidB; rw [if_pos rfl]
    rw [e] at hQ
    exact hQ a c w h (Chg.refl _ _) fun k hk => .inl hk
  · have hd0 : 0 < d.length := List.length_pos_iff.2 hd
    have hz : (((d.length : Nat) : Int) == 0) = false := beq_eq_false_iff_ne.2 (by omega)
    rw [hz, cond_false, wrap_id (n := (i : Int) + (d.length : Int)) (by omega) (by omega), wrap_id (by omega) (by omega)]
    have hll := laidB_len b i hd
    by_cases hm : i + d.length ≤ b.length
    · rw [decide_eq_false (by omega), cond_false]
      have e : laidB b i d = b.take i ++ d ++ b.drop (i + d.length) := by
        unfold laidB
        rw [if_neg hd, Nat.sub_eq_zero_of_le hm, List.replicate_zero, List.append_nil]
      obtain ⟨p, rfl⟩ := own_some h (by omega)
      refine laid_copy h hq hm hd fun w' o k => ?_
      have hlen : b.length = (laidB b i d).length := by rw [hll]; omega
      rw [← e, hlen] at o
      rw [hlen]
      exact hQ _ _ w' o (k.mono fun x _ hx => ⟨_, rfl, hx.symm⟩) fun k hk => .inl hk
    · obtain ⟨m, hm'⟩ : ∃ m, m = i + d.length - b.length := ⟨_, rfl⟩
      rw [decide_eq_true (by omega), cond_true, show (i : Int) + (d.length : Int) - (b.length : Int) = (m : Int) by omega]
      refine append_zeros T29 (z := .int .u8 0) (by kernel_rfl) rfl rfl Tryz.underlying3 h (m := m) (by omega) (by omega) (by omega) fun a' c' w2 o k f => ?_
      refine opnL_c rfl ?_
      have eo : bvs b ++ List.replicate m (.int .u8 0) = bvs (b ++ List.replicate m 0) := by
        simp only [bvs, List.map_append, List.map_replicate]
        rfl
      have hxl : (b ++ List.replicate m (0 : UInt8)).length = b.length + m := by simp
      rw [eo, ← hxl] at o
      rw [← hxl]
      obtain ⟨p, rfl⟩ := own_some o (by rw [hxl]; omega)
      refine laid_copy o (hq.chg k fun x _ hx => hS x hx) (by rw [hxl]; omega) hd fun w' o' k' => ?_
      have e : laidB b i d = (b ++ List.replicate m 0).take i ++ d ++ (b ++ List.replicate m 0).drop (i + d.length) := by
        unfold laidB
        rw [if_neg hd, ← hm']
      have hlen : (b ++ List.replicate m (0 : UInt8)).length = (laidB b i d).length := by rw [hll, hxl]; omega
      rw [← e, hlen] at o'
      rw [hlen]
      have hp : At a p ∨ w.heap.size ≤ p := by
        rcases f with e | ⟨b', e, hb'⟩
        · exact .inl ⟨_, e.symm, rfl⟩
        · cases e; exact .inr hb'
      refine hQ _ _ w' o' (Chg.trans k k' (fun _ _ h => h) fun x hx h => ?_) fun k hk => ?_
      · rcases hp with hp | hp
        · rw [h]; exact hp
        · omega
      · obtain ⟨_, e, rfl⟩ := hk; cases e; exact hp
end
section
variable {Q : Value → World → Prop} {w w0 : World} {T : Tags} {d : Nat} {M : DiskM}
def lenV (M : DiskM) (x : Str × Value) : Nat := match x.2 with | .pointer (some a) => (M.file a.block).now.length | _ => 0
theorem lenV_sum (M : DiskM) : ∀ m : Names, ((ptrs m).map (lenV M)).sum = (m.map fun x => (M.file x.2).now.length).sum
  | [] => rfl
  | x :: m => by
    have := lenV_sum M m
    simp only [ptrs, List.map_cons, List.sum_cons] at this ⊢
    rw [this]; rfl
theorem used_loop {it r : Nat} (hit : 0 < it ∧ T it = .free) (hu : usedM M ≤ 1152921504606846976) : ∀ (n : Nat) (rest : List (Str × Value)) (cur : Option (Str × Value)) (acc : Nat) (w : World), rest.length < n → Itr w strv it r (ptrs M.names) rest cur → (∀ x ∈ rest, ∃ s f, x = (s, ptr f) ∧ T f = .fl) → DiskAt w T d M → T r = .nm → acc + (rest.map (lenV M)).sum = usedM M → (∀ w', Chg (fun k => k = it) w w' → Q (.int .i64 (usedM M : Int)) w') → N_p_disk_Disk_Used.j5 Q (acc : Int) ⟨it, 0, none⟩ w
  | 0, _, _, _, _, hn, _, _, _, _, _, _ => by omega
  | n + 1, rest, cur, acc, w, hn, hi, hx, hd, hr, hs, hQ => by
    refine N_p_disk_Disk_Used.j5_eq _ _ _ _ ?_
    refine map_next hi (fun he w' k => ?_) fun x rest' hp w' hi' k => ?_
    · subst he
      show Q _ _
      rw [show acc = usedM M by simpa using hs]
      exact hQ w' (k.mono fun _ _ h => h.elim)
    · obtain ⟨s, f, rfl, hf⟩ := hx x (hp.mem_iff.2 (by simp))
      refine map_entry hi' ?_
      refine ⟨rfl, ?_⟩
      have hd' := hd.chg k (by omega) fun x hx h => hx (by rw [h]; exact hit.2)
      have hd2 := hd'
      obtain ⟨nb, lb, ad, ac, xs, hv⟩ := hd2
      obtain ⟨na, nc, la, lc, wa, wc, ys, hF⟩ := hv.file f hf
      refine opnL_c (hF.blk.rd 0 rfl) ?_
      have hsum : (rest.map (lenV M)).sum = (M.file f).now.length + (rest'.map (lenV M)).sum := by
        have := (hp.map (lenV M)).sum_nat
        rw [this, List.map_cons, List.sum_cons]; rfl
      rw [show (acc : Int) + ((M.file f).now.length : Int) = ((acc + (M.file f).now.length : Nat) : Int) by omega, wrap_id (by omega) (by omega)]
      have hl := hp.length_eq
      rw [List.length_cons] at hl
      refine used_loop hit hu n rest' _ _ w' (by omega) hi' (fun y hy => hx y (hp.mem_iff.2 (List.mem_cons_of_mem _ hy))) hd' hr (by omega) fun w2 k2 => hQ w2 (Chg.trans k k2 (fun _ _ h => h) fun _ _ h => h)
theorem used_word (hd : DiskAt w T d M) (hQ : ∀ w', Chg None w w' → Q (.int .i64 (if M.dead = true then 0 else (usedM M : Int))) w') : C_p_disk_Disk_Used #[ptr d] w Q := by
  have hd2 := hd
  obtain ⟨nb, lb, ad, ac, xs, hv⟩ := hd2
  refine C_p_disk_Disk_Used_eq _ _ _ ?_
  rw [opnA_e]
  refine opnB_c (hv.blk.rd 8 rfl) ?_
  cases hM : M.dead with
  | true => rw [hM] at hQ; exact hQ w (Chg.refl _ _)
  | false =>
    rw [hM] at hQ
    rw [cond_false, opnA_e]
    refine opnM_c (hv.blk.rd 1 rfl) ?_
    refine map_range M65 hv.nm fun it w1 hi k hit => ?_
    show N_p_disk_Disk_Used.j5 _ _ _ _
    have h0 := hv.std.lt
    have hfree : T it = .free := by
      by_cases h : T it = .free
      · exact h
      · have := hv.size it h; omega
    refine used_loop (d := d) (M := M) (T := T) ⟨by omega, hfree⟩ hv.ok.used _ _ _ 0 w1 (Nat.lt_succ_self _) hi (fun x hx => ?_) (hd.chg0 k) hv.nmT ?_ fun w2 k2 => hQ w2 (Chg.fresh k k2 fun x hx => by rw [hx]; exact hit)
    · obtain ⟨y, hy, rfl⟩ := List.mem_map.1 hx
      exact ⟨y.1, y.2, rfl, hv.nmF y hy⟩
    · rw [Nat.zero_add, lenV_sum]; rfl
theorem there_word (hd : DiskAt w T d M) (s : Str) (hs : s.length < 4611686018427387904) (hQ : ∀ w', Chg None w w' → Q (.int .i64 (thereE M s)) w') : C_p_disk_Disk_there #[ptr d, strv s] w Q := by
  refine C_p_disk_Disk_there_eq _ _ _ _ ?_
  refine named_word s hs hd.dst fun w1 k => ?_
  refine opnB_c rfl ?_
  have hd2 := hd.chg0 k
  obtain ⟨nb, lb, ad, ac, xs, hv⟩ := hd2
  unfold thereE at hQ
  cases hM : nameOk s with
  | false => rw [hM, if_neg (by simp)] at hQ; exact hQ w1 k
  | true =>
    rw [hM, if_pos rfl] at hQ
    rw [Bool.not_true, cond_false, opnA_e]
    refine opnM_c (hv.blk.rd 1 rfl) ?_
    refine map_lookup M65 K9 z72 hv.nm s ?_
    rw [look_ptrs]
    cases hL : Go.Sh.look s M.names with
    | none =>
      rw [hL] at hQ
      refine opnP_c rfl ?_
      rw [ptr_nil_eql Tryz.underlying86]
      exact hQ w1 k
    | some f =>
      rw [hL] at hQ
      refine opnP_c rfl ?_
      rw [ptr_nil_eql Tryz.underlying86]
      exact hQ w1 k
end
end Go.Proofs.YtfjhhpoabdpdhaaGreatDoor
set_option maxRecDepth 10000
namespace Go.Proofs.YtfjhhpoabdpdhaaGreatDoor
open Go.Sh Go.ChangeShapes
open Go.RowKit
abbrev OwnB (T : Tags) (B : Nat) : Nat → Prop := fun k => T k ≠ .free ∨ B ≤ k
section
variable {Q : Value → World → Prop} {w w0 : World} {T : Tags} {d : Nat} {M : DiskM}
theorem DiskOk.bump (h : DiskOk T M) : DiskOk T (bump M) := ⟨h.room0, h.room1, h.now, h.wl, Nat.le_succ_of_le h.ac, Nat.le_succ_of_le h.wr, h.used, Nat.lt_of_le_of_lt (Nat.sub_le _ _) h.strike, h.inj⟩
theorem act_do {a2 : Value} {e : Int} {P : DiskM → Prop} {B : Nat} {w2 : World} (he : e = 0) (hM : M.dead = false) (kw : Chg (OwnB T B) w w2) (hd2 : DiskAt w2 T d (bump M))
    (h2 : ∀ (Q' : Value → World → Prop), (∀ T' w3 M2, DiskAt w3 T' d M2 → (∀ k, k < B → T' k = T k) → Chg (OwnB T B) w2 w3 → P M2 → Q' (.tuple #[]) w3) → invk PP a2 #[] w2 Q')
    (hns : ¬ (M.strike = 1 ∧ M.fault ≠ 125))
    (hQ : ∀ T' w' M' r, DiskAt w' T' d M' → (∀ k, k < B → T' k = T k) → Chg (OwnB T B) w w' → actR M e P M' r → Q (.int .i64 r) w') :
    N_p_disk_Disk_act.j12 Q (some ⟨d, 0, none⟩) a2 (decide (M.strike = 1)) w2 := by
  refine N_p_disk_Disk_act.j12_eq _ _ _ _ _ ?_
  refine h2 _ fun T' w3 M2 hd3 hT k3 hP => ?_
  refine ⟨rfl, ?_⟩
  refine N_p_disk_Disk_act.j13_eq _ _ _ _ ?_
  have k13 : Chg (OwnB T B) w w3 := Chg.trans kw k3 (fun _ _ h => h) fun _ _ h => h
  by_cases hs : M.strike = 1
  · rw [decide_eq_true hs, cond_true]
    refine N_p_disk_Disk_act.j14_eq _ _ _ ?_
    rw [opnA_e]
    have hd4 := hd3
    obtain ⟨nb, lb, ad, ac, xs, hv⟩ := hd4
    refine box_set hv.blk (by show (8 : Nat) < 9; decide) rfl fun w4 hb4 k4 => ?_
    refine N_p_disk_Disk_act.j15_eq _ _ ?_
    have hv4 : DiskV w4 T' d { M2 with dead := true } nb lb ad ac xs := hv.cells k4 hb4 rfl rfl rfl rfl ⟨hv.ok.room0, hv.ok.room1, hv.ok.now, hv.ok.wl, hv.ok.ac, hv.ok.wr, hv.ok.used, hv.ok.strike, hv.ok.inj⟩
    have kd : Chg (OwnB T B) w w4 := Chg.trans k13 k4 (fun _ _ h => h) fun x hx h => by
      subst h
      obtain ⟨_, _, _, _, _, hv2⟩ := hd2
      exact .inl (by rw [hv2.tag]; simp)
    exact hQ T' w4 _ 125 ⟨nb, lb, ad, ac, xs, hv4⟩ hT kd (.inr (.inr (.inr ⟨hM, he, hns, M2, hP, by rw [if_pos hs], by rw [if_pos hs]⟩)))
  · rw [decide_eq_false hs, cond_false]
    exact N_p_disk_Disk_act.j16_eq _ _ (hQ T' w3 M2 0 hd3 hT k13 (.inr (.inr (.inr ⟨hM, he, hns, M2, hP, by rw [if_neg hs], by rw [if_neg hs]⟩))))
theorem act_word {a1 a2 : Value} {e : Int} {P : DiskM → Prop} {B : Nat} (hd : DiskAt w T d M) (ha : M.acts < 4611686018427387904)
    (h1 : M.dead = false → ∀ (Q' : Value → World → Prop) w1, DiskAt w1 T d (bump M) → Chg (fun k => k = d) w w1 → (∀ w2, Chg None w1 w2 → Q' (.int .i64 e) w2) → invk PP a1 #[] w1 Q')
    (h2 : M.dead = false → e = 0 → ∀ (Q' : Value → World → Prop) w2, DiskAt w2 T d (bump M) → Chg (fun k => k = d) w w2 → (∀ T' w3 M2, DiskAt w3 T' d M2 → (∀ k, k < B → T' k = T k) → Chg (OwnB T B) w2 w3 → P M2 → Q' (.tuple #[]) w3) → invk PP a2 #[] w2 Q')
    (hQ : ∀ T' w' M' r, DiskAt w' T' d M' → (∀ k, k < B → T' k = T k) → Chg (OwnB T B) w w' → actR M e P M' r → Q (.int .i64 r) w') :
    C_p_disk_Disk_act #[ptr d, a1, a2] w Q := by
  have hd2 := hd
  obtain ⟨nb, lb, ad, ac, xs, hv⟩ := hd2
  refine C_p_disk_Disk_act_eq _ _ _ _ _ ?_
  rw [opnA_e]
  refine opnB_c (hv.blk.rd 8 rfl) ?_
  cases hM : M.dead with
  | true => exact hQ T w M 125 hd (fun _ _ => rfl) (Chg.refl _ _) (.inl ⟨hM, rfl, rfl⟩)
  | false =>
    rw [cond_false, opnA_e]
    refine opnI_c (hv.blk.rd 5 rfl) ?_
    rw [opnA_e]
    refine box_set hv.blk (by show (5 : Nat) < 9; decide) rfl fun w6 hb6 k6 => ?_
    rw [opnA_e]
    refine opnI_c (hb6.rd 6 rfl) ?_
    rw [opnA_e]
    refine opnI_c (hb6.rd 6 rfl) ?_
    have hs := hv.ok.strike
    have hst : ((M.strike : Int) == 1) = decide (M.strike = 1) := by
      by_cases h : M.strike = 1
      · rw [h]; rfl
      · rw [decide_eq_false h]; exact beq_eq_false_iff_ne.2 (by omega)
    have hkd : ∀ {a b : World}, Chg (fun k => k = d) a b → Chg (OwnB T B) a b := fun k => k.mono fun x _ hx => by subst hx; exact .inl (by rw [hv.tag]; simp)
    have key : ∀ w1, Blk w1 d 83 (dcells (bump M) nb lb ad ac) → Chg (fun k => k = d) w w1 → N_p_disk_Disk_act.j7 Q (some ⟨d, 0, none⟩) a1 a2 (decide (M.strike = 1)) w1 := fun w1 hb1 k1 => by
      have hv1 : DiskV w1 T d (bump M) nb lb ad ac xs := hv.cells k1 hb1 rfl rfl rfl rfl hv.ok.bump
      have hd1 : DiskAt w1 T d (bump M) := ⟨nb, lb, ad, ac, xs, hv1⟩
      refine N_p_disk_Disk_act.j7_eq _ _ _ _ _ _ ?_
      refine h1 hM _ w1 hd1 k1 fun w2 k2 => ?_
      refine opnI_c rfl ?_
      refine N_p_disk_Disk_act.j8_eq _ _ _ _ _ _ ?_
      have hd2 := hd1.chg0 k2
      have hv2 := hv1.chg0 k2
      have kd2 : Chg (fun k => k = d) w w2 := Chg.trans k1 k2 (fun _ _ h => h) fun _ _ h => h.elim
      by_cases he : e = 0
      · subst he
        rw [show ((0 : Int) != 0) = false from rfl, cond_false]
        refine N_p_disk_Disk_act.j10_eq _ _ _ _ _ ?_
        by_cases h1 : M.strike = 1
        · rw [decide_eq_true h1, cond_true, opnA_e]
          refine opnI_c (hv2.blk.rd 7 rfl) ?_
          by_cases hf : M.fault = 125
          · rw [show ((bump M).fault != 125) = false by show (M.fault != 125) = false; rw [hf]; rfl, cond_false]
            have := act_do (Q := Q) (w := w) (P := P) (B := B) (a2 := a2) rfl hM (hkd kd2) hd2 (fun Q' h => h2 hM rfl Q' w2 hd2 kd2 h) (fun h => h.2 hf) hQ
            rw [decide_eq_true h1] at this
            exact this
          · rw [show ((bump M).fault != 125) = true by show (M.fault != 125) = true; exact bne_iff_ne.2 hf, cond_true]
            refine N_p_disk_Disk_act.j11_eq _ _ _ ?_
            rw [opnA_e]
            refine opnI_c (hv2.blk.rd 7 rfl) ?_
            exact hQ T w2 (bump M) M.fault hd2 (fun _ _ => rfl) (hkd kd2) (.inr (.inr (.inl ⟨hM, rfl, h1, hf, rfl, rfl⟩)))
        · rw [decide_eq_false h1, cond_false]
          have := act_do (Q := Q) (w := w) (P := P) (B := B) (a2 := a2) rfl hM (hkd kd2) hd2 (fun Q' h => h2 hM rfl Q' w2 hd2 kd2 h) (fun h => h1 h.1) hQ
          rw [decide_eq_false h1] at this
          exact this
      · rw [show (e != 0) = true from bne_iff_ne.2 he, cond_true]
        exact N_p_disk_Disk_act.j9_eq _ _ _ (hQ T w2 (bump M) e hd2 (fun _ _ => rfl) (hkd kd2) (.inr (.inl ⟨hM, he, rfl, rfl⟩)))
    rw [hst]
    by_cases h0 : M.strike = 0
    · rw [decide_eq_false (by omega), cond_false]
      refine key w6 ?_ k6
      have e : (dcells M nb lb ad ac).set 5 (.int .i64 (IntKind.wrap .i64 ((M.acts : Int) + 1))) = dcells (bump M) nb lb ad ac := by
        rw [wrap_nat (by omega)]
        unfold dcells bump
        simp [h0]
      rw [← e]; exact hb6
    · rw [decide_eq_true (by omega), cond_true, opnA_e]
      refine opnI_c (hb6.rd 6 rfl) ?_
      rw [opnA_e]
      refine box_set hb6 (by show (6 : Nat) < 9; decide) rfl fun w7 hb7 k7 => ?_
      refine key w7 ?_ (Chg.trans k6 k7 (fun _ _ h => h) fun _ _ h => h)
      have e : ((dcells M nb lb ad ac).set 5 (.int .i64 (IntKind.wrap .i64 ((M.acts : Int) + 1)))).set 6 (.int .i64 (IntKind.wrap .i64 ((M.strike : Int) - 1))) = dcells (bump M) nb lb ad ac := by
        rw [wrap_nat (by omega), wrap_id (by omega) (by omega), show (M.strike : Int) - 1 = ((M.strike - 1 : Nat) : Int) by omega]
        unfold dcells bump
        simp
      rw [← e]; exact hb7
end
end Go.Proofs.YtfjhhpoabdpdhaaGreatDoor
set_option maxRecDepth 10000
namespace Go.Proofs.YtfjhhpoabdpdhaaGreatDoor
open Go.Sh Go.ChangeShapes
open Go.RowKit
theorem mem_putp {n : Str} {f : Nat} : ∀ {m : Names} {x : Str × Nat}, x ∈ Go.Sh.put n f m → x = (n, f) ∨ x ∈ m
  | [], x, h => by simpa [Go.Sh.put] using h
  | y :: m, x, h => by
    simp only [Go.Sh.put] at h
    split at h
    · rcases List.mem_cons.1 h with h | h
      · exact .inl h
      · exact .inr (List.mem_cons_of_mem _ h)
    · rcases List.mem_cons.1 h with h | h
      · exact .inr (by rw [h]; simp)
      · rcases mem_putp h with h | h
        · exact .inl h
        · exact .inr (List.mem_cons_of_mem _ h)
theorem mem_delp {n : Str} {m : Names} {x : Str × Nat} (h : x ∈ Go.Sh.del n m) : x ∈ m := del_sub.subset h
def ActM.fits : ActM → Names → Prop
  | .rename a _, m => ∃ f, Go.Sh.look a m = some f
  | _, _ => True
section
variable {Q : Value → World → Prop} {w w0 : World} {T : Tags} {d : Nat} {M : DiskM}
theorem on_tags {a : ActM} {v : Value} {m : Names} (ha : ActAt w T a v) (hm : ∀ x ∈ m, T x.2 = .fl) : ∀ x ∈ a.on m, T x.2 = .fl := by
  cases a with
  | create n f =>
    obtain ⟨_, _, _, _, _, _, _, hf⟩ := ha
    intro x hx
    rcases mem_putp hx with h | h
    · rw [h]; exact hf
    · exact hm x h
  | rename a b =>
    intro x hx
    simp only [ActM.on] at hx
    cases hL : Go.Sh.look a m with
    | none => rw [hL] at hx; exact hm x hx
    | some f =>
      rw [hL] at hx
      rcases mem_putp hx with h | h
      · rw [h]; exact hm (a, f) (look_mem hL)
      · exact hm x (mem_delp h)
  | remove n => intro x hx; exact hm x (mem_delp hx)
theorem act_invk {a : ActM} {v : Value} {r : Nat} {m : Names} (h : HMap w strv r (ptrs m)) (ha : ActAt w T a v) (hr : T r ≠ .bx) (hf : a.fits m) (hQ : ∀ w', HMap w' strv r (ptrs (a.on m)) → Chg (fun k => k = r) w w' → Q (.tuple #[]) w') : invk PP v #[.map (some r)] w Q := by
  have ne : ∀ x, T x = .bx → x ≠ r := fun x hx e => hr (by rw [← e]; exact hx)
  cases a with
  | create n f =>
    obtain ⟨p, q, rfl, b1, t1, b2, t2, hf⟩ := ha
    show C_p_disk_Disk_Create_S2_S1 #[.map (some r), ptr p, ptr q] w Q
    refine C_p_disk_Disk_Create_S2_S1_eq _ _ _ _ _ ?_
    refine opnS_c (b2.cell 0) (opnP_c (b1.cell 0) ?_)
    refine map_update M65 K9 h n (ptr f) fun w' h' k => ?_
    rw [put_ptrs] at h'
    exact hQ w' h' k
  | remove n =>
    obtain ⟨q, rfl, b2, t2⟩ := ha
    show C_p_disk_Disk_Remove_S2_S1 #[.map (some r), ptr q] w Q
    refine C_p_disk_Disk_Remove_S2_S1_eq _ _ _ _ ?_
    refine opnS_c (b2.cell 0) ?_
    refine map_delete M65 K9 h n fun w' h' k => ?_
    rw [del_ptrs] at h'
    exact hQ w' h' k
  | rename a b =>
    obtain ⟨p, q, rfl, b1, t1, b2, t2⟩ := ha
    obtain ⟨f, hL⟩ := hf
    show C_p_disk_Disk_Rename_S2_S1 #[.map (some r), ptr p, ptr q] w Q
    refine C_p_disk_Disk_Rename_S2_S1_eq _ _ _ _ _ ?_
    refine opnS_c (b1.cell 0) ?_
    refine map_lookup M65 K9 z72 h a ?_
    rw [look_ptrs, hL]
    refine opnP_c rfl (opnS_c (b1.cell 0) ?_)
    refine map_delete M65 K9 h a fun w' h' k => ?_
    rw [del_ptrs] at h'
    refine opnS_c ((b2.chg k (ne q t2)).cell 0) ?_
    refine map_update M65 K9 h' b (ptr f) fun w2 h2 k2 => ?_
    rw [put_ptrs] at h2
    have e : (ActM.rename a b).on m = Go.Sh.put b f (Go.Sh.del a m) := by simp only [ActM.on, hL]
    rw [← e] at h2
    exact hQ w2 h2 (Chg.trans k k2 (fun _ _ h => h) fun _ _ h => h)
def onM (M : DiskM) (a : ActM) : DiskM := { M with names := a.on M.names, loose := M.loose ++ [a] }
theorem rename_word {a : ActM} {v : Value} (hd : DiskAt w T d M) (ha : ActAt w T a v) (hf : a.fits M.names) (hl : M.loose.length < M.acts) (hac : M.acts < 4611686018427387904) (hu : usedM (onM M a) ≤ 1152921504606846976) (hinj : ((a.on M.names).map (·.2)).Nodup)
    (hlen : M.loose.length < 1099511627776)
    (hQ : ∀ T' w', DiskAt w' T' d (onM M a) → (∀ k, k < w.heap.size → T' k = T k) → Chg (Ownd T) w w' → Q (.tuple #[]) w') : C_p_disk_Disk_rename #[ptr d, v] w Q := by
  obtain ⟨nb, lb, ad, ac, xs, hv⟩ := hd
  refine C_p_disk_Disk_rename_eq _ _ _ _ ?_
  rw [opnA_e]
  refine opnL_c (hv.blk.rd 3 rfl) ?_
  have hb85 : PP.built 101 (#[(0, v)] : Array (Nat × Value)).toList = some #[v] := by
    cases a with
    | create n f => obtain ⟨p, q, rfl, _⟩ := ha; rfl
    | rename a b => obtain ⟨p, q, rfl, _⟩ := ha; rfl
    | remove n => obtain ⟨q, rfl, _⟩ := ha; rfl
  have hv1 : v.oneCell' = true := by
    cases a with
    | create n f => obtain ⟨p, q, rfl, _⟩ := ha; rfl
    | rename a b => obtain ⟨p, q, rfl, _⟩ := ha; rfl
    | remove n => obtain ⟨q, rfl, _⟩ := ha; rfl
  refine built_c hb85 ?_
  refine ⟨rfl, opnV_c rfl ?_⟩
  show sem PP _ (w.alloc (.cells #[v] 101)) _
  have k8 : Chg None w (w.alloc (.cells #[v] 101)) := chg_alloc _ _
  refine append_own T66 (hv.acO.chg0 k8) (src_two (vs := [v]) (n := 1) (c := 1) (sz := 1) Tryz.underlying81 rfl (by simpa using hv1)) (by simp [maxLen]; omega) (by omega) fun a' c' w10 o10 k10 f10 => ?_
  refine opnL_c rfl ?_
  have nd : ∀ x t, T x = t → t ≠ .ac → ¬ At ad x := fun x t hx ht h => ht (hx.symm.trans (hv.acT x h))
  have hb10 := (hv.blk.chg k8 fun h => h).chg k10 (nd d _ hv.tag (by simp))
  rw [opnA_e]
  refine box_set hb10 (by show (3 : Nat) < 9; decide) rfl fun w13 hb13 k13 => ?_
  rw [opnA_e]
  refine opnM_c (hb13.rd 1 rfl) ?_
  have ka : Chg (fun k => At ad k ∨ k = d) w w13 := Chg.trans (Chg.trans k8 k10 (fun _ _ h => h.elim) fun _ _ h => Or.inl h) k13 (fun _ _ h => h) fun _ _ h => Or.inr h
  have nda : ∀ x t, T x = t → t ≠ .ac → t ≠ .dk → ¬ (At ad x ∨ x = d) := fun x t hx ht hk h => by
    rcases h with h | h
    · exact nd x t hx ht h
    · subst h; exact hk (hx.symm.trans hv.tag)
  refine act_invk (T := T) (m := M.names) (hv.nm.chg ka (nda nb _ hv.nmT (by simp) (by simp))) (ha.chg ka (Ext.refl T) fun x hx => nda x _ hx (by simp) (by simp)) (by rw [hv.nmT]; simp) hf fun w17 h17 k17 => ?_
  refine ⟨rfl, ?_⟩
  have kall : Chg (fun k => (At ad k ∨ k = d) ∨ k = nb) w w17 := Chg.trans ka k17 (fun _ _ h => Or.inl h) fun _ _ h => Or.inr h
  have ndall : ∀ x t, T x = t → t ≠ .ac → t ≠ .dk → t ≠ .nm → ¬ ((At ad x ∨ x = d) ∨ x = nb) := fun x t hx h1 h2 h3 h => by
    rcases h with h | h
    · exact nda x t hx h1 h2 h
    · subst h; exact h3 (hx.symm.trans hv.nmT)
  have hsz : w.heap.size ≤ w17.heap.size := kall.size
  have hat : ∀ k, At a' k → T k = .ac ∨ w.heap.size ≤ k := fun k hk => by
    rcases f10 with e | ⟨b, e, hb⟩
    · subst e; exact .inl (hv.acT k hk)
    · subst e; obtain ⟨p, e, rfl⟩ := hk; cases e; exact .inr (Nat.le_trans k8.size hb)
  have hatlt : ∀ k, At a' k → k < w17.heap.size := fun k hk => Nat.lt_of_lt_of_le (o10.lt hk) (Nat.le_trans k13.size k17.size)
  have hcl : ∀ k, T k ≠ .free → k < w.heap.size := hv.size
  classical
  let T' : Tags := fun k => if At a' k then .ac else T k
  have hT' : ∀ k, k < w.heap.size → T' k = T k := fun k hk => by
    show (if At a' k then Tag.ac else T k) = T k
    by_cases h : At a' k
    · rw [if_pos h]
      rcases hat k h with e | e
      · exact e.symm
      · omega
    · rw [if_neg h]
  have hext : Ext T T' := fun k hk => hT' k (hcl k hk)
  have hfl : ∀ k, T' k = .fl → T k = .fl := fun k hk => by
    by_cases h : At a' k
    · rw [show T' k = Tag.ac from if_pos h] at hk; cases hk
    · rwa [show T' k = T k from if_neg h] at hk
  have hb17 := hb13.chg k17 (by intro e; have := hv.tag; rw [e, hv.nmT] at this; cases this)
  have hon : (onM M a).loose.length = M.loose.length + 1 := by simp [onM]
  have hxm : (xs ++ [(a, v)]).map (·.2) = xs.map (·.2) ++ [v] := by simp
  refine hQ T' w17 ⟨nb, lb, a', c', xs ++ [(a, v)], ?_⟩ hT' (kall.mono fun x _ hx => ?_)
  · exact {
      size := fun k hk => by
        by_cases h : At a' k
        · exact hatlt k h
        · rw [show T' k = T k from if_neg h] at hk; exact Nat.lt_of_lt_of_le (hcl k hk) hsz
      zero := by rw [hT' 0 hv.std.lt]; exact hv.zero
      std := hv.std.chg kall (ndall 0 _ hv.zero (by simp) (by simp) (by simp))
      tag := by rw [hT' d (hcl d (by rw [hv.tag]; simp))]; exact hv.tag
      blk := by
        have e : (dcells M nb lb ad ac).set 3 (.slice a' (M.loose.length + 1) c') = dcells (onM M a) nb lb a' c' := by
          unfold dcells
          rw [hon]; rfl
        rw [← e]; exact hb17
      nmT := hext.at hv.nmT (by simp)
      nm := h17
      laT := hext.at hv.laT (by simp)
      la := hv.la.chg kall (ndall lb _ hv.laT (by simp) (by simp) (by simp))
      acO := by
        rw [hon, hxm]
        refine (o10.chg k13 fun x hx e => ?_).chg k17 fun x hx e => ?_
        · rcases hat x hx with h | h
          · rw [e, hv.tag] at h; cases h
          · have := hcl x (by rw [e, hv.tag]; simp); omega
        · rcases hat x hx with h | h
          · rw [e, hv.nmT] at h; cases h
          · have := hcl x (by rw [e, hv.nmT]; simp); omega
      acT := fun k hk => if_pos hk
      xsm := by simp [onM, hv.xsm]
      acts := fun x hx => by
        rcases List.mem_append.1 hx with h | h
        · exact (hv.acts x h).chg kall hext fun y hy => ndall y _ hy (by simp) (by simp) (by simp)
        · rw [List.mem_singleton.1 h]
          exact ha.chg kall hext fun y hy => ndall y _ hy (by simp) (by simp) (by simp)
      file := fun f hf => (hv.file f (hfl f hf)).chg kall hext (ndall f _ (hfl f hf) (by simp) (by simp) (by simp)) (fun y hy => ndall y _ hy (by simp) (by simp) (by simp)) (fun y hy => ndall y _ hy (by simp) (by simp) (by simp)) (fun y hy => ndall y _ hy (by simp) (by simp) (by simp))
      nmF := fun x hx => hext.at (on_tags ha hv.nmF x hx) (by simp)
      laF := fun x hx => hext.at (hv.laF x hx) (by simp)
      ok := ⟨hv.ok.room0, hv.ok.room1, fun f hf => hv.ok.now f (hfl f hf), fun f hf => hv.ok.wl f (hfl f hf), by rw [hon]; exact hl, hv.ok.wr, hu, hv.ok.strike, hinj⟩ }
  · rcases hx with (hx | hx) | hx
    · rw [Ownd, hv.acT x hx]; simp
    · rw [hx, Ownd, hv.tag]; simp
    · rw [hx, Ownd, hv.nmT]; simp
end
end Go.Proofs.YtfjhhpoabdpdhaaGreatDoor
set_option maxRecDepth 10000
namespace Go.Proofs.YtfjhhpoabdpdhaaGreatDoor
open Go.Sh
def RepOk : Names → List ActM → Names → Prop
  | m, [], n => m = n
  | m, a :: r, n => a.fits m ∧ RepOk (a.on m) r n
def reps : Names → List ActM → List Names
  | m, [] => [m]
  | m, a :: r => m :: reps (a.on m) r
theorem RepOk.app {a : ActM} : ∀ {l : List ActM} {m n : Names}, RepOk m l n → a.fits n → RepOk m (l ++ [a]) (a.on n)
  | [], m, n, h, hf => by
    have h : m = n := h
    subst h
    exact ⟨hf, rfl⟩
  | b :: l, m, n, h, hf => ⟨h.1, RepOk.app h.2 hf⟩
end Go.Proofs.YtfjhhpoabdpdhaaGreatDoor
set_option maxRecDepth 10000
namespace Go.Proofs.YtfjhhpoabdpdhaaGreatDoor
open Go.Sh Go.ChangeShapes
open Go.RowKit
theorem sum_congr {α : Type} (f g : α → Nat) : ∀ (l : List α), (∀ x ∈ l, f x = g x) → (l.map f).sum = (l.map g).sum
  | [], _ => rfl
  | x :: l, h => by
    simp only [List.map_cons, List.sum_cons]
    rw [h x (by simp), sum_congr f g l fun y hy => h y (by simp [hy])]
theorem usedM_congr {M M1 : DiskM} (e : M1.names = M.names) (h : ∀ x ∈ M.names, (M1.file x.2).now.length = (M.file x.2).now.length) : usedM M1 = usedM M := by
  unfold usedM
  rw [e]
  exact sum_congr _ _ _ h
theorem put_inj {n : Str} {f : Nat} : ∀ {m : Names}, (m.map (·.2)).Nodup → (∀ x ∈ m, x.2 ≠ f) → ((Go.Sh.put n f m).map (·.2)).Nodup
  | [], _, _ => by simp [Go.Sh.put]
  | x :: m, h, hf => by
    simp only [List.map_cons, List.nodup_cons] at h
    simp only [Go.Sh.put]
    split
    · simp only [List.map_cons, List.nodup_cons]
      exact ⟨fun e => by obtain ⟨y, hy, e⟩ := List.mem_map.1 e; exact hf y (List.mem_cons_of_mem _ hy) e, h.2⟩
    · simp only [List.map_cons, List.nodup_cons]
      refine ⟨fun e => ?_, put_inj h.2 fun y hy => hf y (List.mem_cons_of_mem _ hy)⟩
      obtain ⟨y, hy, e⟩ := List.mem_map.1 e
      rcases mem_putp hy with h1 | h1
      · rw [h1] at e; exact hf x (by simp) e.symm
      · exact h.1 (by rw [← e]; exact List.mem_map_of_mem (f := (·.2)) h1)
theorem del_inj {n : Str} {m : Names} (h : (m.map (·.2)).Nodup) : ((Go.Sh.del n m).map (·.2)).Nodup := h.sublist (del_sub.map _)
theorem del_look {n : Str} {f : Nat} : ∀ {m : Names}, (m.map (·.2)).Nodup → Go.Sh.look n m = some f → ∀ x ∈ Go.Sh.del n m, x.2 ≠ f
  | [], _, h => by cases h
  | x :: m, hn, h => by
    simp only [List.map_cons, List.nodup_cons] at hn
    simp only [Go.Sh.look] at h
    simp only [Go.Sh.del]
    split
    · rename_i hx
      rw [if_pos hx] at h
      cases h
      intro y hy e
      exact hn.1 (by rw [← e]; exact List.mem_map_of_mem (f := (·.2)) hy)
    · rename_i hx
      rw [if_neg hx] at h
      intro y hy
      rcases List.mem_cons.1 hy with h1 | h1
      · subst h1
        intro e
        exact hn.1 (by rw [e]; exact List.mem_map_of_mem (f := (·.2)) (look_mem h))
      · exact del_look hn.2 h y h1
theorem sum_set (g g' : Nat → Nat) {n : Str} {f : Nat} (hg : ∀ k, k ≠ f → g' k = g k) : ∀ {m : Names}, (m.map (·.2)).Nodup → Go.Sh.look n m = some f → (m.map fun x => g' x.2).sum + g f = (m.map fun x => g x.2).sum + g' f
  | [], _, h => by cases h
  | x :: m, hn, h => by
    simp only [List.map_cons, List.nodup_cons] at hn
    simp only [Go.Sh.look] at h
    simp only [List.map_cons, List.sum_cons]
    split at h
    · cases h
      have : (m.map fun y => g' y.2).sum = (m.map fun y => g y.2).sum := sum_congr _ _ _ fun y hy => hg _ fun e => hn.1 (by rw [← e]; exact List.mem_map_of_mem (f := (·.2)) hy)
      omega
    · have h1 := sum_set g g' hg hn.2 h
      have h2 := hg x.2 (fun e => hn.1 (by rw [e]; exact List.mem_map_of_mem (f := (·.2)) (look_mem h)))
      omega
theorem sum_del (g : Str × Nat → Nat) (n : Str) : ∀ m : Names, ((Go.Sh.del n m).map g).sum ≤ (m.map g).sum
  | [] => Nat.le_refl _
  | x :: m => by
    simp only [Go.Sh.del]
    split
    · simp
    · have := sum_del g n m
      simp only [List.map_cons, List.sum_cons]; omega
theorem sum_put (g : Str × Nat → Nat) (n : Str) (f : Nat) : ∀ m : Names, ((Go.Sh.put n f m).map g).sum ≤ (m.map g).sum + g (n, f)
  | [] => by simp [Go.Sh.put]
  | x :: m => by
    simp only [Go.Sh.put]
    split
    · simp; omega
    · have := sum_put g n f m
      simp only [List.map_cons, List.sum_cons]; omega
theorem sum_look {g : Nat → Nat} {n : Str} {f : Nat} : ∀ {m : Names}, Go.Sh.look n m = some f → ((Go.Sh.del n m).map fun x => g x.2).sum + g f = (m.map fun x => g x.2).sum
  | [], h => by cases h
  | x :: m, h => by
    simp only [Go.Sh.look] at h
    simp only [Go.Sh.del]
    split
    · rename_i hx
      rw [if_pos hx] at h
      cases h
      simp; omega
    · rename_i hx
      rw [if_neg hx] at h
      have := sum_look (g := g) h
      simp only [List.map_cons, List.sum_cons]; omega
theorem sum_mem {g : Nat → Nat} {n : Str} {f : Nat} {m : Names} (h : Go.Sh.look n m = some f) : g f ≤ (m.map fun x => g x.2).sum := by
  have := sum_look (g := g) h
  omega
section
variable {Q : Value → World → Prop} {w w0 : World} {T : Tags} {d : Nat} {M : DiskM}
theorem DiskV.ext {T1 : Tags} {nb lb : Nat} {ad : Option Addr} {ac : Nat} {xs : List (ActM × Value)} (h : DiskV w T d M nb lb ad ac xs) (fl : Nat → FileM) (hfl : ∀ f, T f = .fl → fl f = M.file f) (hx : Ext T T1) (size : ∀ k, T1 k ≠ .free → k < w.heap.size) (zero : T1 0 = .free)
    (hnew : ∀ f, T1 f = .fl → T f ≠ .fl → FileAt w T1 f (fl f) ∧ (fl f).now.length ≤ 1099511627776 ∧ (fl f).loose.length ≤ M.writes) : DiskV w T1 d { M with file := fl } nb lb ad ac xs where
  size := size
  zero := zero
  std := h.std
  tag := hx.at h.tag (by simp)
  blk := h.blk
  nmT := hx.at h.nmT (by simp)
  nm := h.nm
  laT := hx.at h.laT (by simp)
  la := h.la
  acO := h.acO
  acT k hk := hx.at (h.acT k hk) (by simp)
  xsm := h.xsm
  acts x hx' := (h.acts x hx').chg (Chg.refl (fun _ => False) w) hx fun _ _ h => h
  file f hf := by
    by_cases h1 : T f = .fl
    · show FileAt w T1 f (fl f)
      rw [hfl f h1]
      exact (h.file f h1).chg (Chg.refl (fun _ => False) w) hx (fun h => h) (fun _ _ h => h) (fun _ _ h => h) (fun _ _ h => h)
    · exact (hnew f hf h1).1
  nmF x hx' := hx.at (h.nmF x hx') (by simp)
  laF x hx' := hx.at (h.laF x hx') (by simp)
  ok := by
    have hu : usedM { M with file := fl } = usedM M := usedM_congr rfl fun x hx' => by rw [show ({ M with file := fl } : DiskM).file x.2 = M.file x.2 from hfl _ (h.nmF x hx')]
    refine ⟨h.ok.room0, h.ok.room1, fun f hf => ?_, fun f hf => ?_, h.ok.ac, h.ok.wr, by rw [hu]; exact h.ok.used, h.ok.strike, h.ok.inj⟩
    · by_cases h1 : T f = .fl
      · show (fl f).now.length ≤ _
        rw [hfl f h1]; exact h.ok.now f h1
      · exact (hnew f hf h1).2.1
    · by_cases h1 : T f = .fl
      · show (fl f).loose.length ≤ _
        rw [hfl f h1]; exact h.ok.wl f h1
      · exact (hnew f hf h1).2.2
def createE (n : Str) : Int := if nameOk n = true then 0 else 120
theorem create_do {n : Str} {p1 p3 : Nat} {B : Nat} (hd : DiskAt w T d M) (b1 : Blk w p1 28 [ptr d]) (b3 : Blk w p3 9 [strv n]) (h3 : B ≤ p3) (t3 : T p3 = .free) (hB : B ≤ w.heap.size) (hB0 : 0 < B) (hac : M.acts < 4611686018427387904) (hl : M.loose.length < M.acts) (hlen : M.loose.length < 1099511627776)
    (hQ : ∀ T' w' f, DiskAt w' T' d (createM M n f) → (∀ k, k < B → T' k = T k) → Chg (OwnB T B) w w' → B ≤ f → Q (.tuple #[]) w') : C_p_disk_Disk_Create_S2 #[ptr p1, ptr p3] w Q := by
  refine C_p_disk_Disk_Create_S2_eq _ _ _ _ ?_
  refine alC_box0 fun f w2 hf k2 hlt => ?_
  refine alC_box fun p w4 hp k4 hlt4 => ?_
  refine hp.store (j := 0) (by show (0 : Nat) < 1; decide) rfl fun hp5 k5 => ?_
  generalize w4.setCell ⟨p, 0, none⟩ (.pointer (some ⟨f, 0, none⟩)) = w5 at hp5 k5
  have h3lt := b3.lt
  have h1lt := b1.lt
  have k25 : Chg None w2 w5 := Chg.fresh k4 k5 fun x hx => by rw [hx]; exact hlt4
  have k05 : Chg None w w5 := Chg.none_trans k2 k25
  have hf5 : Blk0 w5 f 89 [.slice none 0 0, .slice none 0 0, .slice none 0 0] := hf.chg k25 fun h => h
  refine opnP_c ((b1.chg k05 fun h => h).cell 0) ?_
  classical
  have hd5 := hd.chg0 k05
  obtain ⟨nb, lb, ad, ac, xs, hv⟩ := hd5
  have hv0 := hd
  obtain ⟨_, _, _, _, _, hv0⟩ := hv0
  have hfT : T f = .free := by
    by_cases h : T f = .free
    · exact h
    · have := hv0.size f h; omega
  have hpT : T p = .free := by
    by_cases h : T p = .free
    · exact h
    · have := hv0.size p h
      have := k2.size
      omega
  let T1 : Tags := fun k => if k = f then .fl else if k = p ∨ k = p3 then .bx else T k
  have hflt : f < w2.heap.size := hf.lt
  have nfp : f ≠ p := by omega
  have nf3 : f ≠ p3 := by omega
  have e1 : T1 f = .fl := if_pos rfl
  have e2 : T1 p = .bx := by show (if p = f then Tag.fl else if p = p ∨ p = p3 then .bx else T p) = _; rw [if_neg (Ne.symm nfp), if_pos (.inl rfl)]
  have e3 : T1 p3 = .bx := by show (if p3 = f then Tag.fl else if p3 = p ∨ p3 = p3 then .bx else T p3) = _; rw [if_neg (Ne.symm nf3), if_pos (.inr rfl)]
  have e4 : ∀ k, k ≠ f → k ≠ p → k ≠ p3 → T1 k = T k := fun k h1 h2 h3 => by
    show (if k = f then Tag.fl else if k = p ∨ k = p3 then .bx else T k) = _
    rw [if_neg h1, if_neg (by rintro (h | h); exact h2 h; exact h3 h)]
  have hx : Ext T T1 := fun k hk => e4 k (fun e => hk (by rw [e]; exact hfT)) (fun e => hk (by rw [e]; exact hpT)) (fun e => hk (by rw [e]; exact t3))
  have hp5lt := hp5.lt
  have hf5lt := hf5.lt
  have hs5 := k05.size
  have hv1 : DiskV w5 T1 d { M with file := setFile M f ⟨[], [], []⟩ } nb lb ad ac xs := hv.ext _ (fun g hg => if_neg (fun e => by rw [e, hfT] at hg; cases hg)) hx (fun k hk => by
      by_cases h1 : k = f
      · omega
      · by_cases h2 : k = p
        · omega
        · by_cases h3 : k = p3
          · omega
          · rw [e4 k h1 h2 h3] at hk; exact hv.size k hk)
    (by rw [e4 0 (by omega) (by omega) (by omega)]; exact hv.zero)
    (fun g hg hn => by
      have hgf : g = f := by
        by_cases h1 : g = f
        · exact h1
        · exfalso
          by_cases h2 : g = p
          · rw [h2, e2] at hg; cases hg
          · by_cases h3 : g = p3
            · rw [h3, e3] at hg; cases hg
            · rw [e4 g h1 h2 h3] at hg; exact hn hg
      subst hgf
      rw [show setFile M g ⟨[], [], []⟩ g = ⟨[], [], []⟩ from if_pos rfl]
      exact ⟨⟨none, 0, none, 0, none, 0, [], ⟨hf5, Own.nil, (fun k hk => by obtain ⟨_, e, _⟩ := hk; cases e), Lies.nil, Nat.le_refl _, Own.nil, (fun k hk => by obtain ⟨_, e, _⟩ := hk; cases e), rfl, (fun x hx => by cases hx)⟩⟩, Nat.zero_le _, Nat.zero_le _⟩)
  have b35 := b3.chg k05 fun h => h
  refine rename_word (T := T1) (M := { M with file := setFile M f ⟨[], [], []⟩ }) (a := .create n f) (v := .func (.func 47) #[] #[ptr p, ptr p3]) ⟨nb, lb, ad, ac, xs, hv1⟩ ⟨p, p3, rfl, hp5, e2, b35, e3, e1⟩ trivial hl hac ?_ (put_inj hv0.ok.inj fun x hx e => by have := hv0.size x.2 (by rw [hv0.nmF x hx]; simp); omega) hlen fun T' w' hd' hT' k' => ?_
  · have h1 := sum_put (fun x => (setFile M f ⟨[], [], []⟩ x.2).now.length) n f M.names
    have h2 : (M.names.map fun x => (setFile M f ⟨[], [], []⟩ x.2).now.length).sum = usedM M := sum_congr _ _ _ fun x hx => by
      rw [show setFile M f ⟨[], [], []⟩ x.2 = M.file x.2 from if_neg fun e => by
        have := hv0.size x.2 (by rw [hv0.nmF x hx]; simp); omega]
    have h3 : (setFile M f ⟨[], [], []⟩ f).now.length = 0 := by rw [show setFile M f ⟨[], [], []⟩ f = ⟨[], [], []⟩ from if_pos rfl]; rfl
    have h4 := hv0.ok.used
    show (((Go.Sh.put n f M.names).map fun x => (setFile M f ⟨[], [], []⟩ x.2).now.length).sum) ≤ _
    simp only [h3] at h1
    omega
  · refine ⟨rfl, ?_⟩
    refine hQ T' w' f hd' (fun k hk => ?_) (Chg.trans k05 k' (fun _ _ h => h.elim) fun x hx h => ?_) (by omega)
    · rw [hT' k (by omega), e4 k (by omega) (by omega) (by omega)]
    · by_cases hxB : x < B
      · rw [Ownd, e4 x (by omega) (by omega) (by omega)] at h; exact .inl h
      · exact .inr (by omega)
theorem create_word (hd : DiskAt w T d M) (n : Str) (hn : n.length < 4611686018427387904) (hac : M.acts < 1099511627775)
    (hQ : ∀ T' w' M' r, DiskAt w' T' d M' → (∀ k, k < w.heap.size → T' k = T k) → Chg (Ownd T) w w' → actR M (createE n) (fun M2 => ∃ f, w.heap.size ≤ f ∧ M2 = createM (bump M) n f) M' r → Q (.int .i64 r) w') : C_p_disk_Disk_Create #[ptr d, strv n] w Q := by
  have hd0 := hd
  obtain ⟨nb, lb, ad, ac, xs, hv⟩ := hd0
  refine C_p_disk_Disk_Create_eq _ _ _ _ ?_
  refine alC_box fun p1 w2 b1 k2 h1 => ?_
  refine alC_box fun p3 w4 b3 k4 h3 => ?_
  have b14 := b1.chg k4 fun h => h
  have k04 := Chg.none_trans k2 k4
  have hdlt := hv.size d (by rw [hv.tag]; simp)
  have hs2 := k2.size
  have hs4 := k04.size
  refine opnP_c (b14.cell 0) ?_
  refine act_word (B := w.heap.size) (e := createE n) (P := fun M2 => ∃ f, w.heap.size ≤ f ∧ M2 = createM (bump M) n f) (hd.chg0 k04) (by omega) (fun _ Q' w1 hd1 kd h => ?_) (fun _ he Q' w1 hd1 kd h => ?_) fun T' w' M' r hd' hT' k' hr => ?_
  · show C_p_disk_Disk_Create_S1 #[ptr p3] w1 Q'
    refine C_p_disk_Disk_Create_S1_eq _ _ _ ?_
    refine opnS_c ((b3.chg kd (by omega)).cell 0) ?_
    refine named_word n hn hd1.dst fun w5 k5 => ?_
    refine opnB_c rfl ?_
    have := h w5 k5
    unfold createE at this
    cases hM : nameOk n with
    | true => rw [hM, if_pos rfl] at this; exact this
    | false => rw [hM, if_neg (by simp)] at this; exact this
  · show C_p_disk_Disk_Create_S2 #[ptr p1, ptr p3] w1 Q'
    have t3 : T p3 = .free := by
      by_cases h : T p3 = .free
      · exact h
      · have := hv.size p3 h; omega
    refine create_do (B := w.heap.size) hd1 (b14.chg kd (by omega)) (b3.chg kd (by omega)) (by omega) t3 (Nat.le_trans hs4 kd.size) hv.std.lt (show M.acts + 1 < _ by omega) (show M.loose.length < M.acts + 1 from Nat.lt_succ_of_le hv.ok.ac) (show M.loose.length < _ by have := hv.ok.ac; omega) fun T' w' f hd' hT' k' hf => ?_
    exact h T' w' _ hd' hT' k' ⟨f, hf, rfl⟩
  · refine opnI_c rfl ?_
    refine hQ T' w' M' r hd' hT' (Chg.trans k04 k' (fun _ _ h => h.elim) fun x hx h => ?_) hr
    rcases h with h | h
    · exact h
    · omega
end
end Go.Proofs.YtfjhhpoabdpdhaaGreatDoor
set_option maxRecDepth 10000
namespace Go.Proofs.YtfjhhpoabdpdhaaGreatDoor
open Go.Sh Go.ChangeShapes
open Go.RowKit
abbrev growsE (M : DiskM) (f at_ : Nat) (data : List UInt8) : Prop := data ≠ [] ∧ (M.file f).now.length < at_ + data.length ∧ M.room < (usedM M : Int) + ((at_ : Int) + data.length - (M.file f).now.length)
def writeE (M : DiskM) (n : Str) (at_ : Int) (data : List UInt8) : Int :=
  if thereE M n ≠ 0 then thereE M n
  else if at_ < 0 ∨ at_ > 1048576 then 1
  else match Go.Sh.look n M.names with
    | some f => if growsE M f at_.toNat data then 123 else 0
    | none => 0
theorem thereE_look {M : DiskM} {n : Str} (h : thereE M n = 0) : nameOk n = true ∧ ∃ f, Go.Sh.look n M.names = some f := by
  unfold thereE at h
  split at h
  · rename_i h1
    split at h
    · rename_i f hf; exact ⟨h1, f, hf⟩
    · cases h
  · cases h
section
variable {Q : Value → World → Prop} {w w0 : World} {T : Tags} {d : Nat} {M : DiskM}
theorem write_against {n : Str} {at_ : Int} {data : List UInt8} {p1 p3 p5 p7 : Nat} {q : Option Addr} {c : Nat} (hd : DiskAt w T d M) (hM : M.dead = false) (b1 : Blk w p1 28 [ptr d]) (b3 : Blk w p3 9 [strv n]) (b5 : Blk w p5 3 [.int .i64 at_]) (b7 : Blk w p7 23 [.slice q data.length c]) (hn : n.length < 4611686018427387904) (hdl : data.length ≤ 140737488355328)
    (hQ : ∀ w', Chg None w w' → Q (.int .i64 (writeE M n at_ data)) w') : C_p_disk_Disk_Write_S1 #[ptr p1, ptr p3, ptr p5, ptr p7] w Q := by
  refine C_p_disk_Disk_Write_S1_eq _ _ _ _ _ _ ?_
  refine opnP_c (b1.cell 0) (opnS_c (b3.cell 0) ?_)
  refine there_word hd n hn fun w4 k4 => ?_
  refine opnI_c rfl ?_
  unfold writeE at hQ
  by_cases h1 : thereE M n = 0
  · rw [if_neg (fun h => h h1)] at hQ
    rw [show (thereE M n != 0) = false by rw [h1]; rfl, cond_false]
    have b54 := b5.chg k4 fun h => h
    refine opnI_c (b54.cell 0) ?_
    by_cases h2 : at_ < 0
    · rw [decide_eq_true h2, cond_true]
      rw [if_pos (.inl h2)] at hQ
      exact N_p_disk_Disk_Write_S1.j5_eq _ _ (hQ w4 k4)
    · rw [decide_eq_false h2, cond_false]
      refine opnI_c (b54.cell 0) ?_
      by_cases h3 : at_ > 1048576
      · rw [decide_eq_true h3, cond_true]
        rw [if_pos (.inr h3)] at hQ
        exact N_p_disk_Disk_Write_S1.j5_eq _ _ (hQ w4 k4)
      · rw [decide_eq_false h3, cond_false]
        rw [if_neg (by omega)] at hQ
        obtain ⟨_, f, hf⟩ := thereE_look h1
        rw [hf] at hQ
        simp only at hQ
        obtain ⟨i, hi⟩ : ∃ i : Nat, at_ = i := ⟨at_.toNat, by omega⟩
        subst hi
        rw [Int.toNat_natCast] at hQ
        have k8 : Chg None w w4.drew := k4.drew
        refine opnI_c ((b5.chg k8 fun h => h).cell 0) (opnL_c ((b7.chg k8 fun h => h).cell 0) (opnP_c ((b1.chg k8 fun h => h).cell 0) ?_))
        rw [opnA_e]
        have hd8 := hd.chg0 k8
        obtain ⟨nb, lb, ad, ac, xs, hv⟩ := hd8
        refine opnM_c (hv.blk.rd 1 rfl) (opnS_c ((b3.chg k8 fun h => h).cell 0) ?_)
        refine map_lookup M65 K9 z72 hv.nm n ?_
        rw [look_ptrs, hf]
        refine opnP_c rfl ?_
        rw [opnA_e]
        have hfl : T f = .fl := hv.nmF (n, f) (look_mem hf)
        obtain ⟨na, nc, la, lc, wa, wc, ys, hF⟩ := hv.file f hfl
        refine opnL_c (hF.blk.rd 0 rfl) ?_
        have k19 : Chg None w w4.drew.drew := k8.drew
        refine opnL_c ((b7.chg k19 fun h => h).cell 0) ?_
        have hnow := hv.ok.now f hfl
        by_cases h4 : data = []
        · subst h4
          rw [decide_eq_false (by simp), cond_false]
          rw [if_neg (fun h => h.1 rfl)] at hQ
          exact N_p_disk_Disk_Write_S1.j9_eq _ _ (hQ _ k19)
        · have h40 : 0 < data.length := List.length_pos_iff.2 h4
          rw [decide_eq_true (by omega), cond_true, wrap_id (n := (i : Int) + (data.length : Int)) (by omega) (by omega), wrap_id (by omega) (by omega)]
          by_cases h5 : (M.file f).now.length < i + data.length
          · rw [decide_eq_true (by omega), cond_true]
            refine opnP_c ((b1.chg k19 fun h => h).cell 0) (opnP_c ((b1.chg k19 fun h => h).cell 0) ?_)
            rw [opnA_e]
            have hd19 := hd.chg0 k19
            have hd19' := hd19
            obtain ⟨nb2, lb2, ad2, ac2, xs2, hv2⟩ := hd19
            refine opnI_c (hv2.blk.rd 0 rfl) ?_
            refine used_word hd19' fun w26 k26 => ?_
            rw [hM, if_neg (by simp)]
            refine opnI_c rfl ?_
            refine ⟨opnI_c ((hv2.blk.chg k26 fun h => h).rd 0 rfl) rfl, opnP_c ((b1.chg (Chg.none_trans k19 k26) fun h => h).cell 0) rfl, ?_⟩
            have hu := hv.ok.used
            rw [wrap_id (by omega) (by omega)]
            by_cases h6 : M.room < (usedM M : Int) + ((i : Int) + data.length - (M.file f).now.length)
            · rw [decide_eq_true (by omega), cond_true]
              rw [if_pos ⟨h4, h5, h6⟩] at hQ
              exact hQ _ (Chg.none_trans k19 k26)
            · rw [decide_eq_false (by omega), cond_false]
              rw [if_neg (fun h => h6 h.2.2)] at hQ
              exact N_p_disk_Disk_Write_S1.j9_eq _ _ (hQ _ (Chg.none_trans k19 k26))
          · rw [decide_eq_false (by omega), cond_false]
            rw [if_neg (fun h => h5 h.2.1)] at hQ
            exact N_p_disk_Disk_Write_S1.j9_eq _ _ (hQ _ k19)
  · rw [if_pos h1] at hQ
    rw [show (thereE M n != 0) = true from bne_iff_ne.2 h1, cond_true]
    exact hQ w4 k4
theorem drw_e {K : World → Prop} : drw w K = K w.drew := rfl
theorem write_do {n : Str} {i : Nat} {data : List UInt8} {p1 p3 p5 p7 f : Nat} {q : Option Addr} {c : Nat} {S : Nat → Prop} (hd : DiskAt w T d M) (b1 : Blk w p1 28 [ptr d]) (b3 : Blk w p3 9 [strv n]) (b5 : Blk w p5 3 [.int .i64 (i : Int)]) (b7 : Blk w p7 23 [.slice q data.length c])
    (t1 : T p1 = .free) (t3 : T p3 = .free) (t5 : T p5 = .free) (t7 : T p7 = .free) (hq : Lies w S q (bvs data)) (hS : ∀ k, S k → T k = .free) (hf : Go.Sh.look n M.names = some f) (hg : ¬ growsE M f i data) (hi : i ≤ 1048576) (hdl : data.length ≤ 140737488355328) (hac : M.acts < 1099511627776) (hwr : M.writes < M.acts)
    (hQ : ∀ T' w', DiskAt w' T' d (writeM M n i data) → (∀ k, k < w.heap.size → T' k = T k) → Chg (Ownd T) w w' → Q (.tuple #[]) w') : C_p_disk_Disk_Write_S2 #[ptr p7, ptr p1, ptr p3, ptr p5] w Q := by
  refine C_p_disk_Disk_Write_S2_eq _ _ _ _ _ _ ?_
  refine opnL_c (b7.cell 0) ?_
  by_cases h4 : data = []
  · subst h4
    have e : writeM M n i [] = M := by unfold writeM; rw [if_pos rfl]
    rw [e] at hQ
    exact hQ T w hd (fun _ _ => rfl) (Chg.refl _ _)
  · have h40 : 0 < data.length := List.length_pos_iff.2 h4
    rw [show (((data.length : Nat) : Int) == 0) = false from beq_eq_false_iff_ne.2 (by omega), cond_false]
    obtain ⟨nb, lb, ad, ac, xs, hv⟩ := hd
    have kd : Chg None w w.drew := Chg.drew0 w
    have kdd : Chg None w w.drew.drew := kd.drew
    refine opnP_c ((b1.chg kd fun h => h).cell 0) ?_
    rw [opnA_e]
    refine opnM_c ((hv.blk.chg kd fun h => h).rd 1 rfl) (opnS_c ((b3.chg kd fun h => h).cell 0) ?_)
    refine map_lookup M65 K9 z72 (hv.nm.chg0 kd) n ?_
    rw [look_ptrs, hf]
    refine opnP_c rfl ?_
    rw [drw_e, opnA_e]
    have hfl : T f = .fl := hv.nmF (n, f) (look_mem hf)
    obtain ⟨na, nc, la, lc, wa, wc, ys, hF⟩ := hv.file f hfl
    have hnow := hv.ok.now f hfl
    have hwl := hv.ok.wl f hfl
    refine opnL_c ((hF.blk.chg kdd fun h => h).rd 0 rfl) (opnI_c ((b5.chg kdd fun h => h).cell 0) (opnL_c ((b7.chg kdd fun h => h).cell 0) ?_))
    have hdl' : data.length ≤ 1099511627776 := by
      have h5 : (M.file f).now.length ≤ usedM M := sum_mem (g := fun k => (M.file k).now.length) hf
      have h3 := hv.ok.room1
      by_cases h : (M.file f).now.length < i + data.length
      · have h2 : ¬ M.room < (usedM M : Int) + ((i : Int) + data.length - (M.file f).now.length) := fun h3 => hg ⟨h4, h, h3⟩
        omega
      · omega
    have nna : ∀ k, At na k → T k = .nw f := hF.nowT
    have nwa : ∀ k, At wa k → T k = .wl f := hF.wrT
    refine laid_word (hF.now.chg0 kdd) (hq.chg0 kdd) (fun k hk h => by have := hS k hk; rw [nna k h] at this; cases this) (by omega) (by omega) (by omega) fun a' c' w15 o15 k15 f15 => ?_
    refine opnL_c rfl ?_
    rw [opnA_e]
    have kA : Chg (At na) w w15 := Chg.trans kdd k15 (fun _ _ h => h.elim) fun _ _ h => h
    have hfb15 := hF.blk.chg kA fun h => by have := nna f h; rw [hfl] at this; cases this
    refine box_set0 hfb15 (by show (0 : Nat) < 3; decide) rfl fun w18 hb18 k18 => ?_
    have k19 : Chg (fun k => At na k ∨ k = f) w w18.drew := (Chg.trans kA k18 (fun _ _ h => Or.inl h) fun _ _ h => Or.inr h).drew
    have n19 : ∀ x t, T x = t → t ≠ .nw f → t ≠ .fl → ¬ (At na x ∨ x = f) := fun x t hx h1 h2 h => by
      rcases h with h | h
      · exact h1 (hx.symm.trans (nna x h))
      · subst h; exact h2 (hx.symm.trans hfl)
    rw [drw_e, opnA_e]
    have hb19 : Blk0 w18.drew f 89 _ := hb18.chg (Chg.drew0 (D := None) w18) fun h => h
    refine opnL_c (hb19.rd 2 rfl) ?_
    have b1' := b1.chg k19 (n19 p1 _ t1 (by simp) (by simp))
    have b5' := b5.chg k19 (n19 p5 _ t5 (by simp) (by simp))
    have b7' := b7.chg k19 (n19 p7 _ t7 (by simp) (by simp))
    have hdb := hv.blk.chg k19 (n19 d _ hv.tag (by simp) (by simp))
    refine opnP_c (b1'.cell 0) ?_
    rw [opnA_e]
    refine opnI_c (hdb.rd 4 rfl) (opnI_c (b5'.cell 0) (opnL_c (b7'.cell 0) ?_))
    have hq19 := hq.chg k19 fun k _ hk => n19 k _ (hS k hk) (by simp) (by simp)
    refine clone_word hq19 (by omega) fun ca cc w28 o28 f28 k28 => ?_
    refine opnL_c rfl ?_
    refine ⟨opnI_c ((b5'.chg k28 fun h => h).cell 0) rfl, opnI_c ((hdb.chg k28 fun h => h).rd 4 rfl) rfl, opnP_c ((b1'.chg k28 fun h => h).cell 0) rfl, opnL_c ((hb19.chg k28 fun h => h).rd 2 rfl) rfl, ?_⟩
    show (opnL ((w28.alloc (.cells (wrCells (⟨M.writes, i, data⟩, ca, cc)).toArray 94)).cell? _) _) ∧ _
    have k35 : Chg None w28 (w28.alloc (.cells (wrCells (⟨M.writes, i, data⟩, ca, cc)).toArray 94)) := chg_alloc _ _
    have k1935 := Chg.none_trans k28 k35
    refine ⟨opnL_c ((hb19.chg k1935 fun h => h).rd 2 rfl) rfl, ?_⟩
    have nwaf : ∀ x, At wa x → ¬ (At na x ∨ x = f) := fun x hx => n19 x _ (nwa x hx) (by simp) (by simp)
    have hwa35 := (hF.wr.chg k19 nwaf).chg0 k1935
    refine append_own T73 hwa35 (src_two (vs := wrCells (⟨M.writes, i, data⟩, ca, cc)) (n := 1) (c := 1) (sz := 3) Tryz.underlying87 rfl (fun u hu => by
      simp only [wrCells, List.mem_cons, List.not_mem_nil, or_false] at hu
      rcases hu with rfl | rfl | rfl <;> rfl)) (by simp [maxLen]; omega) (by omega) fun wa' wc' w38 o38 k38 f38 => ?_
    refine opnL_c rfl ?_
    rw [opnA_e]
    have k1938 : Chg (At wa) w18.drew w38 := Chg.trans k1935 k38 (fun _ _ h => h.elim) fun _ _ h => h
    have nf : ¬ At wa f := fun h => by have := nwa f h; rw [hfl] at this; cases this
    have ndw : ¬ At wa d := fun h => by have := nwa d h; rw [hv.tag] at this; cases this
    refine box_set0 (hb19.chg k1938 nf) (by show (2 : Nat) < 3; decide) rfl fun w41 hb41 k41 => ?_
    have ne1 : p1 ≠ f := fun e => by rw [e, hfl] at t1; cases t1
    have nwp1 : ¬ At wa p1 := fun h => by have := nwa p1 h; rw [t1] at this; cases this
    refine opnP_c (((b1'.chg k1938 nwp1).chg k41 ne1).cell 0) ?_
    rw [opnA_e]
    have ndf : d ≠ f := fun e => by have := hv.tag; rw [e, hfl] at this; cases this
    have hdb41 := (hdb.chg k1938 ndw).chg k41 ndf
    refine opnI_c (hdb41.rd 4 rfl) ?_
    rw [opnA_e]
    refine box_set hdb41 (by show (4 : Nat) < 9; decide) rfl fun w46 hb46 k46 => ?_
    -- what has changed
    have k1941 : Chg (fun k => At wa k ∨ k = f) w18.drew w41 := Chg.trans k1938 k41 (fun _ _ h => Or.inl h) fun _ _ h => Or.inr h
    have kall : Chg (fun k => ((At na k ∨ k = f) ∨ At wa k) ∨ k = d) w w46 := Chg.trans (Chg.trans (E := fun k => (At na k ∨ k = f) ∨ At wa k) k19 k1941 (fun _ _ h => Or.inl h) fun x _ h => h.elim Or.inr fun h => Or.inl (Or.inr h)) k46 (fun _ _ h => Or.inl h) fun _ _ h => Or.inr h
    have ndall : ∀ x t, T x = t → t ≠ .nw f → t ≠ .fl → t ≠ .wl f → t ≠ .dk → ¬ (((At na x ∨ x = f) ∨ At wa x) ∨ x = d) := fun x t hx h1 h2 h3 h5 h => by
      rcases h with (h | h) | h
      · exact n19 x t hx h1 h2 h
      · exact h3 (hx.symm.trans (nwa x h))
      · subst h; exact h5 (hx.symm.trans hv.tag)
    have ndflo : ∀ g, T g = .fl → g ≠ f → ¬ (((At na g ∨ g = f) ∨ At wa g) ∨ g = d) := fun g hg hne h => by
      rcases h with ((h | h) | h) | h
      · have := nna g h; rw [hg] at this; cases this
      · exact hne h
      · have := nwa g h; rw [hg] at this; cases this
      · rw [h, hv.tag] at hg; cases hg
    have hs15 : w.heap.size ≤ w15.heap.size := kA.size
    have hs19 : w.heap.size ≤ w18.drew.heap.size := k19.size
    have hs1519 : w15.heap.size ≤ w18.drew.heap.size := (k18.drew).size
    have hs28 := k28.size
    have hs35 := k35.size
    have hs3846 : w38.heap.size ≤ w46.heap.size := Nat.le_trans k41.size k46.size
    have hsall := kall.size
    -- where the new slices lie
    have la' : ∀ k, At a' k → (T k = .nw f ∧ k < w.heap.size) ∨ (w.heap.size ≤ k ∧ k < w15.heap.size) := fun k hk => by
      have hlt := o15.lt hk
      rcases f15 k hk with h | h
      · exact .inl ⟨nna k h, hv.size k (by rw [nna k h]; simp)⟩
      · exact .inr ⟨h, hlt⟩
    have lc' : ∀ k, At ca k → w18.drew.heap.size ≤ k ∧ k < w28.heap.size := fun k hk => ⟨f28 k hk, o28.lt hk⟩
    have lw' : ∀ k, At wa' k → (T k = .wl f ∧ k < w.heap.size) ∨ (w28.heap.size ≤ k ∧ k < w38.heap.size) := fun k hk => by
      rcases f38 with e | ⟨b, e, hb⟩
      · subst e; exact .inl ⟨nwa k hk, hv.size k (by rw [nwa k hk]; simp)⟩
      · have hlt := o38.lt hk
        subst e; obtain ⟨p, e, rfl⟩ := hk; cases e; exact .inr ⟨Nat.le_trans hs35 hb, hlt⟩
    classical
    let T' : Tags := fun k => if At a' k then .nw f else if At ca k then .dt else if At wa' k then .wl f else T k
    have ea : ∀ k, At a' k → T' k = .nw f := fun k hk => if_pos hk
    have ec : ∀ k, At ca k → T' k = .dt := fun k hk => by
      have h1 : ¬ At a' k := fun h => by have := lc' k hk; rcases la' k h with h | h <;> omega
      show (if At a' k then Tag.nw f else if At ca k then .dt else if At wa' k then .wl f else T k) = _
      rw [if_neg h1, if_pos hk]
    have ew : ∀ k, At wa' k → T' k = .wl f := fun k hk => by
      have h1 : ¬ At a' k := fun h => by
        rcases lw' k hk with h2 | h2
        · rcases la' k h with h | h
          · rw [h2.1] at h; cases h.1
          · omega
        · rcases la' k h with h | h <;> omega
      have h2 : ¬ At ca k := fun h => by have := lc' k h; rcases lw' k hk with h2 | h2 <;> omega
      show (if At a' k then Tag.nw f else if At ca k then .dt else if At wa' k then .wl f else T k) = _
      rw [if_neg h1, if_neg h2, if_pos hk]
    have eo : ∀ k, ¬ At a' k → ¬ At ca k → ¬ At wa' k → T' k = T k := fun k h1 h2 h3 => by
      show (if At a' k then Tag.nw f else if At ca k then .dt else if At wa' k then .wl f else T k) = _
      rw [if_neg h1, if_neg h2, if_neg h3]
    have hT' : ∀ k, k < w.heap.size → T' k = T k := fun k hk => by
      by_cases h1 : At a' k
      · rw [ea k h1]
        rcases la' k h1 with h | h
        · exact h.1.symm
        · omega
      · by_cases h2 : At ca k
        · have := lc' k h2; omega
        · by_cases h3 : At wa' k
          · rw [ew k h3]
            rcases lw' k h3 with h | h
            · exact h.1.symm
            · omega
          · exact eo k h1 h2 h3
    have hext : Ext T T' := fun k hk => hT' k (hv.size k hk)
    have hfl' : ∀ k, T' k = .fl → T k = .fl := fun k hk => by
      by_cases h1 : At a' k
      · rw [ea k h1] at hk; cases hk
      · by_cases h2 : At ca k
        · rw [ec k h2] at hk; cases hk
        · by_cases h3 : At wa' k
          · rw [ew k h3] at hk; cases hk
          · rwa [eo k h1 h2 h3] at hk
    have hM' : writeM M n i data = { M with file := setFile M f ⟨laidB (M.file f).now i data, (M.file f).lasts, (M.file f).loose ++ [⟨M.writes, i, data⟩]⟩, writes := M.writes + 1 } := by
      unfold writeM; rw [if_neg h4, hf]
    have hff : (writeM M n i data).file f = ⟨laidB (M.file f).now i data, (M.file f).lasts, (M.file f).loose ++ [⟨M.writes, i, data⟩]⟩ := by rw [hM']; exact if_pos rfl
    have hfo : ∀ g, g ≠ f → (writeM M n i data).file g = M.file g := fun g hg => by rw [hM']; exact if_neg hg
    have hll := laidB_len (M.file f).now i h4
    have hmem := sum_mem (g := fun k => (M.file k).now.length) hf
    have hroom : (laidB (M.file f).now i data).length ≤ 1099511627776 := by
      rw [hll]
      by_cases h : (M.file f).now.length < i + data.length
      · have h2 : ¬ M.room < (usedM M : Int) + ((i : Int) + data.length - (M.file f).now.length) := fun h3 => hg ⟨h4, h, h3⟩
        have h3 := hv.ok.room1
        have h5 : (M.file f).now.length ≤ usedM M := hmem
        omega
      · omega
    have hused : usedM (writeM M n i data) ≤ 1152921504606846976 := by
      have h1 := sum_set (fun k => (M.file k).now.length) (fun k => ((writeM M n i data).file k).now.length) (fun k hk => by show ((writeM M n i data).file k).now.length = _; rw [hfo k hk]) hv.ok.inj hf
      have h2 : usedM (writeM M n i data) = (M.names.map fun x => ((writeM M n i data).file x.2).now.length).sum := by rw [hM']; rfl
      rw [hff] at h1
      rw [h2]
      have h3 : (M.names.map fun x => (M.file x.2).now.length).sum = usedM M := rfl
      have h5 := hv.ok.used
      have h6 := hv.ok.room1
      have h7 : (M.file f).now.length ≤ usedM M := hmem
      simp only at h1
      by_cases h : (M.file f).now.length < i + data.length
      · have h8 : ¬ M.room < (usedM M : Int) + ((i : Int) + data.length - (M.file f).now.length) := fun h3 => hg ⟨h4, h, h3⟩
        omega
      · omega
    have k1546 : Chg (fun k => (k = f ∨ At wa k) ∨ k = d) w15 w46 := Chg.trans (Chg.trans (E := fun k => k = f ∨ At wa k) k18.drew k1941 (fun _ _ h => Or.inl h) fun _ _ h => h.elim Or.inr Or.inl) k46 (fun _ _ h => Or.inl h) fun _ _ h => Or.inr h
    have k2846 : Chg (fun k => (At wa k ∨ k = f) ∨ k = d) w28 w46 := Chg.trans (Chg.trans (Chg.trans k35 k38 (fun _ _ h => h.elim) fun _ _ h => h) (E := fun k => At wa k ∨ k = f) k41 (fun _ _ h => Or.inl h) fun _ _ h => Or.inr h) k46 (fun _ _ h => Or.inl h) fun _ _ h => Or.inr h
    have hflt : f < w.heap.size := hv.size f (by rw [hfl]; simp)
    have hdlt : d < w.heap.size := hv.size d (by rw [hv.tag]; simp)
    have hwalt : ∀ k, At wa k → k < w.heap.size := fun k hk => hv.size k (by rw [nwa k hk]; simp)
    have hF' : FileV w46 T' f ((writeM M n i data).file f) a' c' la lc wa' wc' (ys ++ [(⟨M.writes, i, data⟩, ca, cc)]) := by
      rw [hff]
      exact {
        blk := by
          have e : (([.slice na (M.file f).now.length nc, .slice la (M.file f).lasts.length lc, .slice wa (M.file f).loose.length wc] : List Value).set 0 (.slice a' (laidB (M.file f).now i data).length c')).set 2 (.slice wa' ((M.file f).loose.length + 1) wc') = [.slice a' (laidB (M.file f).now i data).length c', .slice la (M.file f).lasts.length lc, .slice wa' ((M.file f).loose ++ [(⟨M.writes, i, data⟩ : WrM)]).length wc'] := by
            rw [List.length_append]; rfl
          show Blk0 w46 f 89 [.slice a' (laidB (M.file f).now i data).length c', .slice la (M.file f).lasts.length lc, .slice wa' ((M.file f).loose ++ [(⟨M.writes, i, data⟩ : WrM)]).length wc']
          rw [← e]
          exact hb41.chg k46 (Ne.symm ndf)
        now := o15.chg k1546 fun k hk h => by
          have := la' k hk
          rcases h with (h | h) | h
          · subst h
            rcases this with h | h
            · rw [hfl] at h; cases h.1
            · omega
          · rcases this with h2 | h2
            · rw [nwa k h] at h2; cases h2.1
            · have := hwalt k h; omega
          · subst h
            rcases this with h | h
            · rw [hv.tag] at h; cases h.1
            · omega
        nowT := ea
        lasts := (hF.lasts.chg kall fun k _ hk => ndall k _ hk (by simp) (by simp) (by simp) (by simp)).mono fun k hk => hext.at hk (by simp)
        lastsC := hF.lastsC
        wr := by
          have e : (ys ++ [((⟨M.writes, i, data⟩ : WrM), ca, cc)]).flatMap wrCells = ys.flatMap wrCells ++ wrCells (⟨M.writes, i, data⟩, ca, cc) := by simp
          show Own w46 94 3 wa' ((M.file f).loose ++ [(⟨M.writes, i, data⟩ : WrM)]).length wc' _
          rw [e, List.length_append]
          refine (o38.chg k41 fun k hk h => ?_).chg k46 fun k hk h => ?_
          · subst h
            rcases lw' k hk with h | h
            · rw [hfl] at h; cases h.1
            · omega
          · subst h
            rcases lw' k hk with h | h
            · rw [hv.tag] at h; cases h.1
            · omega
        wrT := ew
        xsm := by simp [hF.xsm]
        dat := fun x hx => by
          rcases List.mem_append.1 hx with h | h
          · exact ⟨((hF.dat x h).1.chg kall fun k _ hk => ndall k _ hk (by simp) (by simp) (by simp) (by simp)).mono fun k hk => hext.at hk (by simp), (hF.dat x h).2⟩
          · rw [List.mem_singleton.1 h]
            refine ⟨(o28.lies.chg k2846 fun k _ hk h => ?_).mono fun k hk => ec k hk, o28.le⟩
            have := lc' k hk
            rcases h with (h | h) | h
            · have := hwalt k h; omega
            · omega
            · omega }
    refine hQ T' w46 ⟨nb, lb, ad, ac, xs, ?_⟩ hT' (kall.mono fun x _ hx => ?_)
    · exact {
        size := fun k hk => by
          by_cases h1 : At a' k
          · have := k1546.size
            rcases la' k h1 with h | h <;> omega
          · by_cases h2 : At ca k
            · have := lc' k h2
              have := k2846.size; omega
            · by_cases h3 : At wa' k
              · rcases lw' k h3 with h | h <;> omega
              · rw [eo k h1 h2 h3] at hk; exact Nat.lt_of_lt_of_le (hv.size k hk) hsall
        zero := by rw [hT' 0 hv.std.lt]; exact hv.zero
        std := hv.std.chg kall (ndall 0 _ hv.zero (by simp) (by simp) (by simp) (by simp))
        tag := hext.at hv.tag (by simp)
        blk := by
          have e : (dcells M nb lb ad ac).set 4 (.int .i64 (IntKind.wrap .i64 ((M.writes : Int) + 1))) = dcells (writeM M n i data) nb lb ad ac := by
            rw [wrap_nat (by omega), hM']; rfl
          rw [← e]; exact hb46
        nmT := hext.at hv.nmT (by simp)
        nm := by
          have e : (writeM M n i data).names = M.names := by rw [hM']
          rw [e]
          exact hv.nm.chg kall (ndall nb _ hv.nmT (by simp) (by simp) (by simp) (by simp))
        laT := hext.at hv.laT (by simp)
        la := by
          have e : (writeM M n i data).lasting = M.lasting := by rw [hM']
          rw [e]
          exact hv.la.chg kall (ndall lb _ hv.laT (by simp) (by simp) (by simp) (by simp))
        acO := by
          have e : (writeM M n i data).loose = M.loose := by rw [hM']
          rw [e]
          exact hv.acO.chg kall fun k hk => ndall k _ (hv.acT k hk) (by simp) (by simp) (by simp) (by simp)
        acT := fun k hk => hext.at (hv.acT k hk) (by simp)
        xsm := by rw [hM']; exact hv.xsm
        acts := fun x hx => (hv.acts x hx).chg kall hext fun y hy => ndall y _ hy (by simp) (by simp) (by simp) (by simp)
        file := fun g hg => by
          by_cases h : g = f
          · subst h; exact ⟨_, _, _, _, _, _, _, hF'⟩
          · rw [hfo g h]
            exact (hv.file g (hfl' g hg)).chg kall hext (ndflo g (hfl' g hg) h) (fun y hy => ndall y _ hy (by simpa using h) (by simp) (by simp) (by simp)) (fun y hy => ndall y _ hy (by simp) (by simp) (by simpa using h) (by simp)) (fun y hy => ndall y _ hy (by simp) (by simp) (by simp) (by simp))
        nmF := fun x hx => by
          have e : (writeM M n i data).names = M.names := by rw [hM']
          rw [e] at hx
          exact hext.at (hv.nmF x hx) (by simp)
        laF := fun x hx => by
          have e : (writeM M n i data).lasting = M.lasting := by rw [hM']
          rw [e] at hx
          exact hext.at (hv.laF x hx) (by simp)
        ok := by
          refine ⟨by rw [hM']; exact hv.ok.room0, by rw [hM']; exact hv.ok.room1, fun g hg => ?_, fun g hg => ?_, by rw [hM']; exact hv.ok.ac, by rw [hM']; exact hwr, hused, by rw [hM']; exact hv.ok.strike, by rw [hM']; exact hv.ok.inj⟩
          · by_cases h : g = f
            · subst h; rw [hff]; exact hroom
            · rw [hfo g h]; exact hv.ok.now g (hfl' g hg)
          · have e : (writeM M n i data).writes = M.writes + 1 := by rw [hM']
            rw [e]
            by_cases h : g = f
            · subst h; rw [hff]
              show ((M.file g).loose ++ [_]).length ≤ _
              rw [List.length_append]
              exact Nat.succ_le_succ hwl
            · rw [hfo g h]; exact Nat.le_succ_of_le (hv.ok.wl g (hfl' g hg)) }
    · rcases hx with ((hx | hx) | hx) | hx
      · rw [Ownd, nna x hx]; simp
      · rw [hx, Ownd, hfl]; simp
      · rw [Ownd, nwa x hx]; simp
      · rw [hx, Ownd, hv.tag]; simp
end
end Go.Proofs.YtfjhhpoabdpdhaaGreatDoor
set_option maxRecDepth 10000
namespace Go.Proofs.YtfjhhpoabdpdhaaGreatDoor
open Go.Sh Go.ChangeShapes
open Go.RowKit
section
variable {Q : Value → World → Prop} {w w0 : World} {T : Tags} {d : Nat} {M : DiskM}
theorem DiskV.free {nb lb : Nat} {ad : Option Addr} {ac : Nat} {xs : List (ActM × Value)} (h : DiskV w T d M nb lb ad ac xs) {k : Nat} (hk : w.heap.size ≤ k) : T k = .free := by
  by_cases e : T k = .free
  · exact e
  · have := h.size k e; omega
theorem write_word (hd : DiskAt w T d M) (n : Str) (hn : n.length < 4611686018427387904) (at_ : Int) {q : Option Addr} {c : Nat} {data : List UInt8} {S : Nat → Prop} (hq : Lies w S q (bvs data)) (hS : ∀ k, S k → T k = .free) (hdl : data.length ≤ 140737488355328) (hac : M.acts < 1099511627775)
    (hQ : ∀ T' w' M' r, DiskAt w' T' d M' → (∀ k, k < w.heap.size → T' k = T k) → Chg (Ownd T) w w' → actR M (writeE M n at_ data) (fun M2 => M2 = writeM (bump M) n at_.toNat data) M' r → Q (.int .i64 r) w') : C_p_disk_Disk_Write #[ptr d, strv n, .int .i64 at_, .slice q data.length c] w Q := by
  have hd0 := hd
  obtain ⟨nb, lb, ad, ac, xs, hv⟩ := hd0
  refine C_p_disk_Disk_Write_eq _ _ _ _ _ _ _ _ ?_
  refine alC_box fun p1 w2 b1 k2 h1 => ?_
  refine alC_box fun p3 w4 b3 k4 h3 => ?_
  refine alC_box fun p5 w6 b5 k6 h5 => ?_
  refine alC_box fun p7 w8 b7 k8 h7 => ?_
  have hs2 := k2.size
  have hs4 := k4.size
  have hs6 := k6.size
  have hs8 := k8.size
  have k68 := Chg.none_trans k6 k8
  have k48 := Chg.none_trans k4 k68
  have k08 := Chg.none_trans k2 k48
  have b18 := b1.chg k48 fun h => h
  have b38 := b3.chg k68 fun h => h
  have b58 := b5.chg k8 fun h => h
  have hdlt := hv.size d (by rw [hv.tag]; simp)
  refine opnP_c (b18.cell 0) ?_
  refine act_word (B := w.heap.size) (e := writeE M n at_ data) (P := fun M2 => M2 = writeM (bump M) n at_.toNat data) (hd.chg0 k08) (by omega) (fun hM Q' w1 hd1 kd h => ?_) (fun hM he Q' w1 hd1 kd h => ?_) fun T' w' M' r hd' hT' k' hr => ?_
  · show C_p_disk_Disk_Write_S1 #[ptr p1, ptr p3, ptr p5, ptr p7] w1 Q'
    exact write_against (M := bump M) hd1 hM (b18.chg kd (by omega)) (b38.chg kd (by omega)) (b58.chg kd (by omega)) (b7.chg kd (by omega)) hn hdl h
  · show C_p_disk_Disk_Write_S2 #[ptr p7, ptr p1, ptr p3, ptr p5] w1 Q'
    have he' := he
    unfold writeE at he'
    by_cases h1t : thereE M n = 0
    · rw [if_neg (fun h => h h1t)] at he'
      by_cases h2 : at_ < 0 ∨ at_ > 1048576
      · rw [if_pos h2] at he'; cases he'
      · rw [if_neg h2] at he'
        obtain ⟨_, f, hf⟩ := thereE_look h1t
        rw [hf] at he'
        simp only at he'
        have hg : ¬ growsE (bump M) f at_.toNat data := fun h => by
          rw [if_pos (show growsE M f at_.toNat data from h)] at he'; cases he'
        have hat : at_ = (at_.toNat : Int) := by omega
        have b5' := b58.chg kd (by omega)
        rw [hat] at b5'
        refine write_do (M := bump M) (S := S) hd1 (b18.chg kd (by omega)) (b38.chg kd (by omega)) b5' (b7.chg kd (by omega)) (hv.free (by omega)) (hv.free (by omega)) (hv.free (by omega)) (hv.free (by omega)) ((hq.chg0 k08).chg kd fun k _ hk e => ?_) hS hf hg (by omega) hdl (show M.acts + 1 < _ by omega) (show M.writes < M.acts + 1 from Nat.lt_succ_of_le hv.ok.wr) fun T' w' hd' hT' k' => ?_
        · have := hS k hk; rw [e, hv.tag] at this; cases this
        · have hs1 := kd.size
          have hs := k08.size
          exact h T' w' _ hd' (fun k hk => hT' k (by omega)) (k'.mono fun _ _ h => .inl h) rfl
    · rw [if_pos h1t] at he'; exact absurd he' h1t
  · refine opnI_c rfl ?_
    refine hQ T' w' M' r hd' hT' (Chg.trans k08 k' (fun _ _ h => h.elim) fun x hx h => ?_) hr
    rcases h with h | h
    · exact h
    · omega
theorem sync_do {n : Str} {p1 p3 f : Nat} (hd : DiskAt w T d M) (b1 : Blk w p1 28 [ptr d]) (b3 : Blk w p3 9 [strv n]) (hf : Go.Sh.look n M.names = some f)
    (hQ : ∀ T' w', DiskAt w' T' d (syncM M n) → (∀ k, k < w.heap.size → T' k = T k) → Chg (Ownd T) w w' → Q (.tuple #[]) w') : C_p_disk_Disk_Sync_S2 #[ptr p1, ptr p3] w Q := by
  refine C_p_disk_Disk_Sync_S2_eq _ _ _ _ ?_
  rw [drw_e]
  have kd : Chg None w w.drew := Chg.drew0 w
  obtain ⟨nb, lb, ad, ac, xs, hv⟩ := hd
  refine opnP_c ((b1.chg kd fun h => h).cell 0) ?_
  rw [opnA_e]
  refine opnM_c ((hv.blk.chg kd fun h => h).rd 1 rfl) (opnS_c ((b3.chg kd fun h => h).cell 0) ?_)
  refine map_lookup M65 K9 z72 (hv.nm.chg0 kd) n ?_
  rw [look_ptrs, hf]
  refine opnP_c rfl ?_
  rw [opnA_e]
  have hfl : T f = .fl := hv.nmF (n, f) (look_mem hf)
  obtain ⟨na, nc, la, lc, wa, wc, ys, hF⟩ := hv.file f hfl
  have hnow := hv.ok.now f hfl
  have hfb := hF.blk.chg kd fun h => h
  refine opnL_c (hfb.rd 0 rfl) ?_
  refine clone_word ((hF.now.chg0 kd).lies) (by omega) fun ca cc w11 o11 f11 k11 => ?_
  refine opnL_c rfl ?_
  rw [opnA_e]
  refine box_set0 (hfb.chg k11 fun h => h) (by show (1 : Nat) < 3; decide) rfl fun w14 hb14 k14 => ?_
  rw [opnA_e]
  refine box_set0 hb14 (by show (2 : Nat) < 3; decide) rfl fun w16 hb16 k16 => ?_
  have k0 : Chg None w w11 := Chg.none_trans kd k11
  have k1116 : Chg (fun k => k = f) w11 w16 := Chg.trans k14 k16 (fun _ _ h => h) fun _ _ h => h
  have kall : Chg (fun k => k = f) w w16 := Chg.trans k0 k1116 (fun _ _ h => h.elim) fun _ _ h => h
  have nf : ∀ x t, T x = t → t ≠ .fl → x ≠ f := fun x t hx ht e => by subst e; exact ht (hx.symm.trans hfl)
  have lc' : ∀ k, At ca k → w.heap.size ≤ k ∧ k < w11.heap.size := fun k hk => ⟨f11 k hk, o11.lt hk⟩
  have hs11 := k1116.size
  have hflt := hv.size f (by rw [hfl]; simp)
  classical
  let T' : Tags := fun k => if At ca k then .dt else T k
  have ec : ∀ k, At ca k → T' k = .dt := fun k hk => if_pos hk
  have eo : ∀ k, ¬ At ca k → T' k = T k := fun k hk => if_neg hk
  have hT' : ∀ k, k < w.heap.size → T' k = T k := fun k hk => eo k fun h => by have := lc' k h; omega
  have hext : Ext T T' := fun k hk => hT' k (hv.size k hk)
  have hfl' : ∀ k, T' k = .fl → T k = .fl := fun k hk => by
    by_cases h : At ca k
    · rw [ec k h] at hk; cases hk
    · rwa [eo k h] at hk
  have hM' : syncM M n = { M with file := setFile M f ⟨(M.file f).now, (M.file f).now, []⟩ } := by unfold syncM; rw [hf]
  have hff : (syncM M n).file f = ⟨(M.file f).now, (M.file f).now, []⟩ := by rw [hM']; exact if_pos rfl
  have hfo : ∀ g, g ≠ f → (syncM M n).file g = M.file g := fun g hg => by rw [hM']; exact if_neg hg
  have hF' : FileV w16 T' f ((syncM M n).file f) na nc ca cc none 0 [] := by
    rw [hff]
    exact {
      blk := hb16
      now := hF.now.chg kall fun k hk => nf k _ (hF.nowT k hk) (by simp)
      nowT := fun k hk => hext.at (hF.nowT k hk) (by simp)
      lasts := (o11.lies.chg k1116 fun k _ hk e => by have := lc' k hk; omega).mono fun k hk => ec k hk
      lastsC := o11.le
      wr := Own.nil
      wrT := fun k hk => by obtain ⟨_, e, _⟩ := hk; cases e
      xsm := rfl
      dat := fun x hx => by cases hx }
  have eu : usedM (syncM M n) = usedM M := by
    refine usedM_congr (by rw [hM']) fun x hx => ?_
    by_cases h : x.2 = f
    · rw [h, hff]
    · rw [hfo x.2 h]
  have e1 : (syncM M n).names = M.names := by rw [hM']
  have e2 : (syncM M n).lasting = M.lasting := by rw [hM']
  have e3 : (syncM M n).loose = M.loose := by rw [hM']
  refine hQ T' w16 ⟨nb, lb, ad, ac, xs, ?_⟩ hT' (kall.mono fun x _ hx => by rw [hx, Ownd, hfl]; simp)
  exact {
    size := fun k hk => by
      by_cases h : At ca k
      · have := lc' k h; omega
      · rw [eo k h] at hk; exact Nat.lt_of_lt_of_le (hv.size k hk) kall.size
    zero := by rw [hT' 0 hv.std.lt]; exact hv.zero
    std := hv.std.chg kall (nf 0 _ hv.zero (by simp))
    tag := hext.at hv.tag (by simp)
    blk := by
      have e : dcells (syncM M n) nb lb ad ac = dcells M nb lb ad ac := by rw [hM']; rfl
      rw [e]; exact hv.blk.chg kall (nf d _ hv.tag (by simp))
    nmT := hext.at hv.nmT (by simp)
    nm := by rw [e1]; exact hv.nm.chg kall (nf nb _ hv.nmT (by simp))
    laT := hext.at hv.laT (by simp)
    la := by rw [e2]; exact hv.la.chg kall (nf lb _ hv.laT (by simp))
    acO := by rw [e3]; exact hv.acO.chg kall fun k hk => nf k _ (hv.acT k hk) (by simp)
    acT := fun k hk => hext.at (hv.acT k hk) (by simp)
    xsm := by rw [e3]; exact hv.xsm
    acts := fun x hx => (hv.acts x hx).chg kall hext fun y hy => nf y _ hy (by simp)
    file := fun g hg => by
      by_cases h : g = f
      · subst h; exact ⟨_, _, _, _, _, _, _, hF'⟩
      · rw [hfo g h]
        exact (hv.file g (hfl' g hg)).chg kall hext h (fun y hy => nf y _ hy (by simp)) (fun y hy => nf y _ hy (by simp)) (fun y hy => nf y _ hy (by simp))
    nmF := fun x hx => by rw [e1] at hx; exact hext.at (hv.nmF x hx) (by simp)
    laF := fun x hx => by rw [e2] at hx; exact hext.at (hv.laF x hx) (by simp)
    ok := by
      refine ⟨by rw [hM']; exact hv.ok.room0, by rw [hM']; exact hv.ok.room1, fun g hg => ?_, fun g hg => ?_, by rw [hM']; exact hv.ok.ac, by rw [hM']; exact hv.ok.wr, by rw [eu]; exact hv.ok.used, by rw [hM']; exact hv.ok.strike, by rw [e1]; exact hv.ok.inj⟩
      · by_cases h : g = f
        · subst h; rw [hff]; exact hnow
        · rw [hfo g h]; exact hv.ok.now g (hfl' g hg)
      · have e : (syncM M n).writes = M.writes := by rw [hM']
        rw [e]
        by_cases h : g = f
        · subst h; rw [hff]; exact Nat.zero_le _
        · rw [hfo g h]; exact hv.ok.wl g (hfl' g hg) }
theorem sync_word (hd : DiskAt w T d M) (n : Str) (hn : n.length < 4611686018427387904) (hac : M.acts < 1099511627775)
    (hQ : ∀ T' w' M' r, DiskAt w' T' d M' → (∀ k, k < w.heap.size → T' k = T k) → Chg (Ownd T) w w' → actR M (thereE M n) (fun M2 => M2 = syncM (bump M) n) M' r → Q (.int .i64 r) w') : C_p_disk_Disk_Sync #[ptr d, strv n] w Q := by
  have hd0 := hd
  obtain ⟨nb, lb, ad, ac, xs, hv⟩ := hd0
  refine C_p_disk_Disk_Sync_eq _ _ _ _ ?_
  refine alC_box fun p1 w2 b1 k2 h1 => ?_
  refine alC_box fun p3 w4 b3 k4 h3 => ?_
  have b14 := b1.chg k4 fun h => h
  have k04 := Chg.none_trans k2 k4
  have hdlt := hv.size d (by rw [hv.tag]; simp)
  have hs2 := k2.size
  have hs4 := k04.size
  refine opnP_c (b14.cell 0) ?_
  refine act_word (B := w.heap.size) (e := thereE M n) (P := fun M2 => M2 = syncM (bump M) n) (hd.chg0 k04) (by omega) (fun _ Q' w1 hd1 kd h => ?_) (fun _ he Q' w1 hd1 kd h => ?_) fun T' w' M' r hd' hT' k' hr => ?_
  · show C_p_disk_Disk_Sync_S1 #[ptr p1, ptr p3] w1 Q'
    refine C_p_disk_Disk_Sync_S1_eq _ _ _ _ ?_
    refine opnP_c ((b14.chg kd (by omega)).cell 0) (opnS_c ((b3.chg kd (by omega)).cell 0) ?_)
    refine there_word hd1 n hn fun w5 k5 => ?_
    exact opnI_c rfl (h w5 k5)
  · show C_p_disk_Disk_Sync_S2 #[ptr p1, ptr p3] w1 Q'
    obtain ⟨_, f, hf⟩ := thereE_look he
    refine sync_do (M := bump M) hd1 (b14.chg kd (by omega)) (b3.chg kd (by omega)) hf fun T' w' hd' hT' k' => ?_
    have hs1 := kd.size
    exact h T' w' _ hd' (fun k hk => hT' k (by omega)) (k'.mono fun _ _ h => .inl h) rfl
  · refine opnI_c rfl ?_
    refine hQ T' w' M' r hd' hT' (Chg.trans k04 k' (fun _ _ h => h.elim) fun x hx h => ?_) hr
    rcases h with h | h
    · exact h
    · omega
def readE (M : DiskM) (n : Str) : Int := if M.dead = true then 125 else thereE M n
def readB (M : DiskM) (n : Str) : List UInt8 := if M.dead = true then [] else if thereE M n = 0 then (match Go.Sh.look n M.names with | some f => (M.file f).now | none => []) else []
theorem read_word (hd : DiskAt w T d M) (n : Str) (hn : n.length < 4611686018427387904)
    (hQ : ∀ a c w', Own w' 5 1 a (readB M n).length c (bvs (readB M n)) → (∀ k, At a k → w.heap.size ≤ k) → Chg None w w' → Q (.tuple #[.slice a (readB M n).length c, .int .i64 (readE M n)]) w') : C_p_disk_Disk_Read #[ptr d, strv n] w Q := by
  have hd0 := hd
  obtain ⟨nb, lb, ad, ac, xs, hv⟩ := hd0
  refine C_p_disk_Disk_Read_eq _ _ _ _ ?_
  rw [opnA_e]
  refine opnB_c (hv.blk.rd 8 rfl) ?_
  cases hM : M.dead with
  | true =>
    rw [show readB M n = [] by unfold readB; rw [hM]; rfl, show readE M n = 125 by unfold readE; rw [hM]; rfl] at hQ
    exact hQ none 0 w Own.nil (fun k hk => by obtain ⟨_, e, _⟩ := hk; cases e) (Chg.refl _ _)
  | false =>
    rw [show readE M n = thereE M n by unfold readE; rw [hM]; rfl] at hQ
    rw [cond_false]
    refine there_word hd n hn fun w4 k4 => ?_
    refine opnI_c rfl ?_
    by_cases h1 : thereE M n = 0
    · rw [show (thereE M n != 0) = false by rw [h1]; rfl, cond_false, opnA_e]
      obtain ⟨_, f, hf⟩ := thereE_look h1
      have hv4 := hv.chg0 k4
      refine opnM_c (hv4.blk.rd 1 rfl) ?_
      refine map_lookup M65 K9 z72 hv4.nm n ?_
      rw [look_ptrs, hf]
      refine opnP_c rfl ?_
      rw [opnA_e]
      have hfl : T f = .fl := hv.nmF (n, f) (look_mem hf)
      obtain ⟨na, nc, la, lc, wa, wc, ys, hF⟩ := hv4.file f hfl
      have hnow := hv.ok.now f hfl
      refine opnL_c (hF.blk.rd 0 rfl) ?_
      refine clone_word hF.now.lies (by omega) fun ca cc w13 o13 f13 k13 => ?_
      refine opnL_c rfl ?_
      rw [show readB M n = (M.file f).now by unfold readB; rw [hM, h1, hf]; rfl, h1] at hQ
      exact hQ ca cc w13 o13 (fun k hk => Nat.le_trans k4.size (f13 k hk)) (Chg.none_trans k4 k13)
    · rw [show (thereE M n != 0) = true from bne_iff_ne.2 h1, cond_true]
      rw [show readB M n = [] by unfold readB; rw [hM, if_neg h1]; rfl] at hQ
      exact hQ none 0 w4 Own.nil (fun k hk => by obtain ⟨_, e, _⟩ := hk; cases e) k4
end
end Go.Proofs.YtfjhhpoabdpdhaaGreatDoor
