/- ShF5, ShF6, ShF7, ShF8, DkNamed, DkWord1, DkAct, DkRename, DkRep, DkCreate, DkWrite, DkSync, DkNew, DkRemove, DkNum, DkLay2, DkList, DkLay3, DkFiles, ShL23, DkMark, DkPending -/
import Derived.Test.YtcigjlbpdkkflaaGreatDoorPkB
import Derived.Test.YtcigjlbpdkkflaaGreatDoorPkC
import Derived.Laws.IdiomCopy
import Derived.Shelf.Slices.In.SortNone
import Derived.Shelf.Sort.Plain
import Derived.Test.YtcigjlbpdkkflaaGreatDoorProg
import Derived.Shelf.SlMaps.Clone
import Derived.LaidEql
set_option maxRecDepth 100000
namespace Go.Proofs.YtcigjlbpdkkflaaGreatDoor
open Go.Sh
noncomputable def B_p_disk_Disk_there : Code := match Tryz.f91.body with | some c => c | _ => .skip
noncomputable def X_p_disk_Disk_there : Cx := { P := PP, fn := 91, N := 15, tab := tab, results := [.tmp 4], iter := fun _ => (.none, .none), dyn := fun _ => false, live := fun _ => none }
theorem K_p_disk_Disk_there : OkF X_p_disk_Disk_there B_p_disk_Disk_there Tryz.f91 := ⟨⟨tab_ok, mix_ok⟩, Tryz.func91, by kernel_rfl, by kernel_rfl, by kernel_rfl, by kernel_rfl⟩
theorem C_p_disk_Disk_there_eq (Q : Value → World → Prop) (a0 : Option Addr) (a1 : ByteArray) (w : World) (h :
  C_disk_named #[.string a1] w fun v1 w2 =>
  opnB (some v1) fun x3 =>
  cond (!x3)
  (Q (.int .i64 120) w2)
  (opnA a0 fun ad4 =>
  opnM (w2.cell? (ad4.add 1)) fun x5 =>
  semR PP (Instr.lookup 116 (.map x5) (.string a1) false) w2 fun x6 =>
  opnP (some x6) fun x7 =>
  semR PP (do eqGuard .eql 115 (.tmp 13) (.const (.pointer none)) (.pointer x7) (.pointer none); binOp .eql 115 (.pointer x7) (.pointer none)) w2 fun x8 =>
  opnB (some x8) fun x9 =>
  cond x9
  (Q (.int .i64 121) w2)
  (Q (.int .i64 0) w2))) :
C_p_disk_Disk_there #[.pointer a0, .string a1] w Q := C_fold K_p_disk_Disk_there (by kernel_rfl) h
noncomputable def B_p_disk_Disk_Remove : Code := match Tryz.f94.body with | some c => c | _ => .skip
noncomputable def X_p_disk_Disk_Remove : Cx := { P := PP, fn := 94, N := 9, tab := tab, results := [.tmp 4], iter := fun _ => (.none, .none), dyn := fun _ => false, live := fun _ => none }
theorem K_p_disk_Disk_Remove : OkF X_p_disk_Disk_Remove B_p_disk_Disk_Remove Tryz.f94 := ⟨⟨tab_ok, mix_ok⟩, Tryz.func94, by kernel_rfl, by kernel_rfl, by kernel_rfl, by kernel_rfl⟩
theorem C_p_disk_Disk_Remove_eq (Q : Value → World → Prop) (a0 : Option Addr) (a1 : ByteArray) (w : World) (h :
  alC #[.pointer a0] 27 w fun p1 w2 =>
  alC #[.string a1] 9 w2 fun p3 w4 =>
  opnP (w4.cell? p1) fun x5 =>
  C_p_disk_Disk_act #[.pointer x5, .func (.func 145) #[] #[.pointer (some p1), .pointer (some p3)], .func (.func 146) #[] #[.pointer (some p1), .pointer (some p3)]] w4 fun v6 w7 =>
  opnI .i64 (some v6) fun x8 =>
  Q (.int .i64 x8) w7) :
C_p_disk_Disk_Remove #[.pointer a0, .string a1] w Q := C_fold K_p_disk_Disk_Remove (by kernel_rfl) h
noncomputable def B_p_disk_Disk_act : Code := match Tryz.f95.body with | some c => c | _ => .skip
noncomputable def X_p_disk_Disk_act : Cx := { P := PP, fn := 95, N := 60, tab := tab, results := [.tmp 6], iter := fun _ => (.none, .none), dyn := fun r => cond (Nat.beq r 37) true (cond (Nat.beq r 54) true (false)), live := fun r => cond (Nat.beq r 7) (some [0, 1, 2, 7]) (cond (Nat.beq r 8) (some [0, 2, 7, 8]) (cond (Nat.beq r 9) (some [8]) (cond (Nat.beq r 10) (some [0, 2, 7]) (cond (Nat.beq r 11) (some [0]) (cond (Nat.beq r 12) (some [0, 2, 7]) (cond (Nat.beq r 13) (some [0, 7]) (cond (Nat.beq r 14) (some [0]) (cond (Nat.beq r 15) (some []) (cond (Nat.beq r 16) (some []) (none)))))))))) }
theorem K_p_disk_Disk_act : OkF X_p_disk_Disk_act B_p_disk_Disk_act Tryz.f95 := ⟨⟨tab_ok, mix_ok⟩, Tryz.func95, by kernel_rfl, by kernel_rfl, by kernel_rfl, by kernel_rfl⟩
noncomputable def N_p_disk_Disk_act.j7 (Q : Value → World → Prop) (s0 : Option Addr) (s1 : Value) (s2 : Value) (s7 : Bool) (w : World) : Prop := Nd X_p_disk_Disk_act Q [(0, 0, .pointer s0), (1, 1, s1), (2, 2, s2), (7, 7, .bool s7)] [.code (B_p_disk_Disk_act.r.r.r.r.r.l.l), .code (B_p_disk_Disk_act.r.r.r.r.r.l.r), .code (B_p_disk_Disk_act.r.r.r.r.r.r)] w
noncomputable def N_p_disk_Disk_act.j8 (Q : Value → World → Prop) (s0 : Option Addr) (s2 : Value) (s7 : Bool) (s8 : Int) (w : World) : Prop := Nd X_p_disk_Disk_act Q [(0, 0, .pointer s0), (2, 2, s2), (7, 7, .bool s7), (8, 8, .int .i64 s8)] [.code (B_p_disk_Disk_act.r.r.r.r.r.l.r.l), .code (B_p_disk_Disk_act.r.r.r.r.r.l.r.r), .code (B_p_disk_Disk_act.r.r.r.r.r.r)] w
noncomputable def N_p_disk_Disk_act.j9 (Q : Value → World → Prop) (s8 : Int) (w : World) : Prop := Nd X_p_disk_Disk_act Q [(8, 8, .int .i64 s8)] [.code (B_p_disk_Disk_act.r.r.r.r.r.l.r.r.l.l), .code (B_p_disk_Disk_act.r.r.r.r.r.l.r.r.l.r), .code (B_p_disk_Disk_act.r.r.r.r.r.r)] w
noncomputable def N_p_disk_Disk_act.j10 (Q : Value → World → Prop) (s0 : Option Addr) (s2 : Value) (s7 : Bool) (w : World) : Prop := Nd X_p_disk_Disk_act Q [(0, 0, .pointer s0), (2, 2, s2), (7, 7, .bool s7)] [.code (B_p_disk_Disk_act.r.r.r.r.r.r.l.l), .code (B_p_disk_Disk_act.r.r.r.r.r.r.l.r), .code (B_p_disk_Disk_act.r.r.r.r.r.r.r)] w
noncomputable def N_p_disk_Disk_act.j11 (Q : Value → World → Prop) (s0 : Option Addr) (w : World) : Prop := Nd X_p_disk_Disk_act Q [(0, 0, .pointer s0)] [.code (B_p_disk_Disk_act.r.r.r.r.r.r.l.r.l.l), .code (B_p_disk_Disk_act.r.r.r.r.r.r.l.r.l.r), .code (B_p_disk_Disk_act.r.r.r.r.r.r.r)] w
noncomputable def N_p_disk_Disk_act.j12 (Q : Value → World → Prop) (s0 : Option Addr) (s2 : Value) (s7 : Bool) (w : World) : Prop := Nd X_p_disk_Disk_act Q [(0, 0, .pointer s0), (2, 2, s2), (7, 7, .bool s7)] [.code (B_p_disk_Disk_act.r.r.r.r.r.r.r.l), .code (B_p_disk_Disk_act.r.r.r.r.r.r.r.r)] w
noncomputable def N_p_disk_Disk_act.j13 (Q : Value → World → Prop) (s0 : Option Addr) (s7 : Bool) (w : World) : Prop := Nd X_p_disk_Disk_act Q [(0, 0, .pointer s0), (7, 7, .bool s7)] [.code (B_p_disk_Disk_act.r.r.r.r.r.r.r.r.l.l), .code (B_p_disk_Disk_act.r.r.r.r.r.r.r.r.l.r), .code (B_p_disk_Disk_act.r.r.r.r.r.r.r.r.r)] w
noncomputable def N_p_disk_Disk_act.j14 (Q : Value → World → Prop) (s0 : Option Addr) (w : World) : Prop := Nd X_p_disk_Disk_act Q [(0, 0, .pointer s0)] [.code (B_p_disk_Disk_act.r.r.r.r.r.r.r.r.l.r.l.l), .code (B_p_disk_Disk_act.r.r.r.r.r.r.r.r.l.r.l.r), .code (B_p_disk_Disk_act.r.r.r.r.r.r.r.r.r)] w
noncomputable def N_p_disk_Disk_act.j15 (Q : Value → World → Prop) (w : World) : Prop := Nd X_p_disk_Disk_act Q [] [.code (B_p_disk_Disk_act.r.r.r.r.r.r.r.r.l.r.l.r.l), .code (B_p_disk_Disk_act.r.r.r.r.r.r.r.r.l.r.l.r.r), .code (B_p_disk_Disk_act.r.r.r.r.r.r.r.r.r)] w
noncomputable def N_p_disk_Disk_act.j16 (Q : Value → World → Prop) (w : World) : Prop := Nd X_p_disk_Disk_act Q [] [.code (B_p_disk_Disk_act.r.r.r.r.r.r.r.r.r.l), .code (B_p_disk_Disk_act.r.r.r.r.r.r.r.r.r.r)] w
theorem N_p_disk_Disk_act.j7_eq (Q : Value → World → Prop) (s0 : Option Addr) (s1 : Value) (s2 : Value) (s7 : Bool) (w : World) (h :
  invk PP s1 #[] w fun v1 w2 =>
  opnI .i64 (some v1) fun x3 =>
  N_p_disk_Disk_act.j8 Q s0 s2 s7 x3 w2) :
N_p_disk_Disk_act.j7 Q s0 s1 s2 s7 w := Nd_fold K_p_disk_Disk_act (by kernel_rfl) h
theorem N_p_disk_Disk_act.j8_eq (Q : Value → World → Prop) (s0 : Option Addr) (s2 : Value) (s7 : Bool) (s8 : Int) (w : World) (h :
  cond (s8 != 0)
  (N_p_disk_Disk_act.j9 Q s8 w)
  (N_p_disk_Disk_act.j10 Q s0 s2 s7 w)) :
N_p_disk_Disk_act.j8 Q s0 s2 s7 s8 w := Nd_fold K_p_disk_Disk_act (by kernel_rfl) h
theorem N_p_disk_Disk_act.j9_eq (Q : Value → World → Prop) (s8 : Int) (w : World) (h :
  Q (.int .i64 s8) w) :
N_p_disk_Disk_act.j9 Q s8 w := Nd_fold K_p_disk_Disk_act (by kernel_rfl) h
theorem N_p_disk_Disk_act.j10_eq (Q : Value → World → Prop) (s0 : Option Addr) (s2 : Value) (s7 : Bool) (w : World) (h :
  cond s7
  (opnA s0 fun ad1 =>
  opnI .i64 (w.cell? (ad1.add 7)) fun x2 =>
  cond (x2 != 125)
  (N_p_disk_Disk_act.j11 Q s0 w)
  (N_p_disk_Disk_act.j12 Q s0 s2 true w))
  (N_p_disk_Disk_act.j12 Q s0 s2 false w)) :
N_p_disk_Disk_act.j10 Q s0 s2 s7 w := Nd_fold K_p_disk_Disk_act (by kernel_rfl) h
theorem N_p_disk_Disk_act.j11_eq (Q : Value → World → Prop) (s0 : Option Addr) (w : World) (h :
  opnA s0 fun ad1 =>
  opnI .i64 (w.cell? (ad1.add 7)) fun x2 =>
  Q (.int .i64 x2) w) :
N_p_disk_Disk_act.j11 Q s0 w := Nd_fold K_p_disk_Disk_act (by kernel_rfl) h
theorem N_p_disk_Disk_act.j12_eq (Q : Value → World → Prop) (s0 : Option Addr) (s2 : Value) (s7 : Bool) (w : World) (h :
  invk PP s2 #[] w fun v1 w2 =>
  opnT (some v1) fun x3 =>
  x3.size = 0 ∧
  N_p_disk_Disk_act.j13 Q s0 s7 w2) :
N_p_disk_Disk_act.j12 Q s0 s2 s7 w := Nd_fold K_p_disk_Disk_act (by kernel_rfl) h
theorem N_p_disk_Disk_act.j13_eq (Q : Value → World → Prop) (s0 : Option Addr) (s7 : Bool) (w : World) (h :
  cond s7
  (N_p_disk_Disk_act.j14 Q s0 w)
  (N_p_disk_Disk_act.j16 Q w)) :
N_p_disk_Disk_act.j13 Q s0 s7 w := Nd_fold K_p_disk_Disk_act (by kernel_rfl) h
theorem N_p_disk_Disk_act.j14_eq (Q : Value → World → Prop) (s0 : Option Addr) (w : World) (h :
  opnA s0 fun ad1 =>
  stC (ad1.add 8) (.bool true) w fun w2 =>
  N_p_disk_Disk_act.j15 Q w2) :
N_p_disk_Disk_act.j14 Q s0 w := Nd_fold K_p_disk_Disk_act (by kernel_rfl) h
theorem N_p_disk_Disk_act.j15_eq (Q : Value → World → Prop) (w : World) (h :
  Q (.int .i64 125) w) :
N_p_disk_Disk_act.j15 Q w := Nd_fold K_p_disk_Disk_act (by kernel_rfl) h
theorem N_p_disk_Disk_act.j16_eq (Q : Value → World → Prop) (w : World) (h :
  Q (.int .i64 0) w) :
N_p_disk_Disk_act.j16 Q w := Nd_fold K_p_disk_Disk_act (by kernel_rfl) h
theorem C_p_disk_Disk_act_eq (Q : Value → World → Prop) (a0 : Option Addr) (a1 : Value) (a2 : Value) (w : World) (h :
  opnA a0 fun ad1 =>
  opnB (w.cell? (ad1.add 8)) fun x2 =>
  cond x2
  (Q (.int .i64 125) w)
  (opnA a0 fun ad3 =>
  opnI .i64 (w.cell? (ad3.add 5)) fun x4 =>
  opnA a0 fun ad5 =>
  stC (ad5.add 5) (.int .i64 (IntKind.wrap .i64 (x4 + 1))) w fun w6 =>
  opnA a0 fun ad7 =>
  opnI .i64 (w6.cell? (ad7.add 6)) fun x8 =>
  opnA a0 fun ad9 =>
  opnI .i64 (w6.cell? (ad9.add 6)) fun x10 =>
  cond (decide (x10 > 0))
  (opnA a0 fun ad11 =>
  opnI .i64 (w6.cell? (ad11.add 6)) fun x12 =>
  opnA a0 fun ad13 =>
  stC (ad13.add 6) (.int .i64 (IntKind.wrap .i64 (x12 - 1))) w6 fun w14 =>
  N_p_disk_Disk_act.j7 Q a0 a1 a2 (x8 == 1) w14)
  (N_p_disk_Disk_act.j7 Q a0 a1 a2 (x8 == 1) w6))) :
C_p_disk_Disk_act #[.pointer a0, a1, a2] w Q := C_fold K_p_disk_Disk_act (by kernel_rfl) h
noncomputable def B_p_disk_Disk_SyncNames_S1 : Code := match Tryz.f96.body with | some c => c | _ => .skip
noncomputable def X_p_disk_Disk_SyncNames_S1 : Cx := { P := PP, fn := 96, N := 1, tab := tab, results := [.tmp 0], iter := fun _ => (.none, .none), dyn := fun _ => false, live := fun _ => none }
theorem K_p_disk_Disk_SyncNames_S1 : OkF X_p_disk_Disk_SyncNames_S1 B_p_disk_Disk_SyncNames_S1 Tryz.f96 := ⟨⟨tab_ok, mix_ok⟩, Tryz.func96, by kernel_rfl, by kernel_rfl, by kernel_rfl, by kernel_rfl⟩
theorem C_p_disk_Disk_SyncNames_S1_eq (Q : Value → World → Prop) (w : World) (h :
  Q (.int .i64 0) w) :
C_p_disk_Disk_SyncNames_S1 #[] w Q := C_fold K_p_disk_Disk_SyncNames_S1 (by kernel_rfl) h
noncomputable def B_p_disk_Disk_SyncNames_S2 : Code := match Tryz.f97.body with | some c => c | _ => .skip
noncomputable def X_p_disk_Disk_SyncNames_S2 : Cx := { P := PP, fn := 97, N := 12, tab := tab, results := [], iter := fun _ => (.none, .none), dyn := fun _ => false, live := fun _ => none }
theorem K_p_disk_Disk_SyncNames_S2 : OkF X_p_disk_Disk_SyncNames_S2 B_p_disk_Disk_SyncNames_S2 Tryz.f97 := ⟨⟨tab_ok, mix_ok⟩, Tryz.func97, by kernel_rfl, by kernel_rfl, by kernel_rfl, by kernel_rfl⟩
theorem C_p_disk_Disk_SyncNames_S2_eq (Q : Value → World → Prop) (f0 : Addr) (w : World) (h :
  drw w fun w1 =>
  opnP (w1.cell? f0) fun x2 =>
  opnP (w1.cell? f0) fun x3 =>
  opnP (w1.cell? f0) fun x4 =>
  opnA x4 fun ad5 =>
  opnM (w1.cell? (ad5.add 1)) fun x6 =>
  C_maps_Clone_map_string_disk_content_string_disk_content #[.map x6] w1 fun v7 w8 =>
  opnM (some v7) fun x9 =>
  (opnP (w8.cell? f0) fun x10 =>
  ((.pointer x10) : Value) = .pointer x3) ∧
  (opnP (w8.cell? f0) fun x11 =>
  ((.pointer x11) : Value) = .pointer x2) ∧
  opnA x2 fun ad12 =>
  stC (ad12.add 2) (.map x9) w8 fun w13 =>
  (opnP (w13.cell? f0) fun x14 =>
  ((.pointer x14) : Value) = .pointer x3) ∧
  opnA x3 fun ad15 =>
  stC (ad15.add 3) (.slice none 0 0) w13 fun w16 =>
  Q (.tuple #[]) w16) :
C_p_disk_Disk_SyncNames_S2 #[.pointer (some f0)] w Q := C_fold K_p_disk_Disk_SyncNames_S2 (by kernel_rfl) h
noncomputable def B_tile_full : Code := match Tryz.f101.body with | some c => c | _ => .skip
noncomputable def X_tile_full : Cx := { P := PP, fn := 101, N := 5, tab := tab, results := [.tmp 2], iter := fun _ => (.none, .none), dyn := fun _ => false, live := fun _ => none }
theorem K_tile_full : OkF X_tile_full B_tile_full Tryz.f101 := ⟨⟨tab_ok, mix_ok⟩, Tryz.func101, by kernel_rfl, by kernel_rfl, by kernel_rfl, by kernel_rfl⟩
theorem C_tile_full_eq (Q : Value → World → Prop) (a0 : Int) (w : World) (h :
  nn a0 (
  Q (.int .i64 (shlI .i64 1 a0)) w)) :
C_tile_full #[.int .i64 a0] w Q := C_fold K_tile_full (by kernel_rfl) h
noncomputable def B_tile_Check : Code := match Tryz.f107.body with | some c => c | _ => .skip
noncomputable def X_tile_Check : Cx := { P := PP, fn := 107, N := 75, tab := tab, results := [.tmp 2], iter := fun _ => (.none, .none), dyn := fun _ => false, live := fun r => cond (Nat.beq r 2) (some []) (cond (Nat.beq r 3) (some [1]) (cond (Nat.beq r 4) (some []) (cond (Nat.beq r 5) (some [1]) (cond (Nat.beq r 6) (some [1, 3]) (cond (Nat.beq r 7) (some []) (cond (Nat.beq r 8) (some []) (none))))))) }
theorem K_tile_Check : OkF X_tile_Check B_tile_Check Tryz.f107 := ⟨⟨tab_ok, mix_ok⟩, Tryz.func107, by kernel_rfl, by kernel_rfl, by kernel_rfl, by kernel_rfl⟩
noncomputable def N_tile_Check.j2 (Q : Value → World → Prop) (w : World) : Prop := Nd X_tile_Check Q [] [.code (B_tile_Check.r.l.r.l.l), .code (B_tile_Check.r.l.r.l.r), .code (B_tile_Check.r.r)] w
noncomputable def N_tile_Check.j3 (Q : Value → World → Prop) (s1 : Addr) (w : World) : Prop := Nd X_tile_Check Q [(1, 1, .pointer (some s1))] [.code (B_tile_Check.r.r.l.l), .code (B_tile_Check.r.r.l.r), .code (B_tile_Check.r.r.r)] w
noncomputable def N_tile_Check.j4 (Q : Value → World → Prop) (w : World) : Prop := Nd X_tile_Check Q [] [.code (B_tile_Check.r.r.l.r.l.l), .code (B_tile_Check.r.r.l.r.l.r), .code (B_tile_Check.r.r.r)] w
noncomputable def N_tile_Check.j5 (Q : Value → World → Prop) (s1 : Addr) (w : World) : Prop := Nd X_tile_Check Q [(1, 1, .pointer (some s1))] [.code (B_tile_Check.r.r.r.l), .code (B_tile_Check.r.r.r.r)] w
noncomputable def N_tile_Check.j6 (Q : Value → World → Prop) (s1 : Addr) (s3 : Int) (w : World) : Prop := Nd X_tile_Check Q [(1, 1, .pointer (some s1)), (3, 3, .int .i64 s3)] [.code (B_tile_Check.r.r.r.r.l.l), .code (B_tile_Check.r.r.r.r.l.r), .code (B_tile_Check.r.r.r.r.r)] w
noncomputable def N_tile_Check.j7 (Q : Value → World → Prop) (w : World) : Prop := Nd X_tile_Check Q [] [.code (B_tile_Check.r.r.r.r.l.r.l.l), .code (B_tile_Check.r.r.r.r.l.r.l.r), .code (B_tile_Check.r.r.r.r.r)] w
noncomputable def N_tile_Check.j8 (Q : Value → World → Prop) (w : World) : Prop := Nd X_tile_Check Q [] [.code (B_tile_Check.r.r.r.r.r.l), .code (B_tile_Check.r.r.r.r.r.r)] w
theorem N_tile_Check.j2_eq (Q : Value → World → Prop) (w : World) (h :
  Q (.int .i64 101) w) :
N_tile_Check.j2 Q w := Nd_fold K_tile_Check (by kernel_rfl) h
theorem N_tile_Check.j3_eq (Q : Value → World → Prop) (s1 : Addr) (w : World) (h :
  drw w fun w1 =>
  opnI .i64 (w1.cell? (s1.add 1)) fun x2 =>
  opnI .i64 (w1.cell? (s1.add 0)) fun x3 =>
  x3 ≠ (0 : Int) ∧
  cond (decide (x2 > (IntKind.wrap .i64 (Int.tdiv 48 x3))))
  (N_tile_Check.j4 Q w1)
  (N_tile_Check.j5 Q s1 w1)) :
N_tile_Check.j3 Q s1 w := Nd_fold K_tile_Check (by kernel_rfl) h
theorem N_tile_Check.j4_eq (Q : Value → World → Prop) (w : World) (h :
  Q (.int .i64 101) w) :
N_tile_Check.j4 Q w := Nd_fold K_tile_Check (by kernel_rfl) h
theorem N_tile_Check.j5_eq (Q : Value → World → Prop) (s1 : Addr) (w : World) (h :
  opnI .i64 (w.cell? (s1.add 0)) fun x1 =>
  opnI .i64 (w.cell? (s1.add 1)) fun x2 =>
  nn (IntKind.wrap .i64 (x1 * x2)) (
  N_tile_Check.j6 Q s1 (shrI .i64 281474976710656 (IntKind.wrap .i64 (x1 * x2))) w)) :
N_tile_Check.j5 Q s1 w := Nd_fold K_tile_Check (by kernel_rfl) h
theorem N_tile_Check.j6_eq (Q : Value → World → Prop) (s1 : Addr) (s3 : Int) (w : World) (h :
  drw w fun w1 =>
  opnI .i64 (w1.cell? (s1.add 2)) fun x2 =>
  opnI .i64 (w1.cell? (s1.add 0)) fun x3 =>
  nn x3 (
  cond (decide (x2 > (shrI .i64 s3 x3)))
  (N_tile_Check.j7 Q w1)
  (opnI .i64 (w1.cell? (s1.add 2)) fun x4 =>
  opnI .i64 (w1.cell? (s1.add 0)) fun x5 =>
  nn x5 (
  opnI .i64 (w1.cell? (s1.add 3)) fun x6 =>
  cond (decide ((IntKind.wrap .i64 ((shlI .i64 x4 x5) + x6)) > s3))
  (N_tile_Check.j7 Q w1)
  (N_tile_Check.j8 Q w1))))) :
N_tile_Check.j6 Q s1 s3 w := Nd_fold K_tile_Check (by kernel_rfl) h
theorem N_tile_Check.j7_eq (Q : Value → World → Prop) (w : World) (h :
  Q (.int .i64 101) w) :
N_tile_Check.j7 Q w := Nd_fold K_tile_Check (by kernel_rfl) h
theorem N_tile_Check.j8_eq (Q : Value → World → Prop) (w : World) (h :
  Q (.int .i64 0) w) :
N_tile_Check.j8 Q w := Nd_fold K_tile_Check (by kernel_rfl) h
theorem C_tile_Check_eq (Q : Value → World → Prop) (a0_0 : Int) (a0_1 : Int) (a0_2 : Int) (a0_3 : Int) (a0_4 : Bool) (w : World) (h :
  alC #[.int .i64 a0_0, .int .i64 a0_1, .int .i64 a0_2, .int .i64 a0_3, .bool a0_4] 41 w fun p1 w2 =>
  drw w2 fun w3 =>
  opnI .i64 (w3.cell? (p1.add 0)) fun x4 =>
  cond (decide (x4 < 1))
  (N_tile_Check.j2 Q w3)
  (opnI .i64 (w3.cell? (p1.add 0)) fun x5 =>
  cond (decide (x5 > 8))
  (N_tile_Check.j2 Q w3)
  (opnI .i64 (w3.cell? (p1.add 3)) fun x6 =>
  cond (decide (x6 < 1))
  (N_tile_Check.j2 Q w3)
  (opnI .i64 (w3.cell? (p1.add 3)) fun x7 =>
  opnI .i64 (w3.cell? (p1.add 0)) fun x8 =>
  C_tile_full #[.int .i64 x8] w3 fun v9 w10 =>
  opnI .i64 (some v9) fun x11 =>
  (opnI .i64 (w10.cell? (p1.add 3)) fun x12 =>
  ((.int .i64 x12) : Value) = .int .i64 x7) ∧
  cond (decide (x7 > x11))
  (N_tile_Check.j2 Q w10)
  (opnI .i64 (w10.cell? (p1.add 1)) fun x13 =>
  cond (decide (x13 < 0))
  (N_tile_Check.j2 Q w10)
  (opnI .i64 (w10.cell? (p1.add 2)) fun x14 =>
  cond (decide (x14 < 0))
  (N_tile_Check.j2 Q w10)
  (opnB (w10.cell? (p1.add 4)) fun x15 =>
  cond x15
  (opnI .i64 (w10.cell? (p1.add 1)) fun x16 =>
  cond (x16 != 0)
  (N_tile_Check.j2 Q w10)
  (N_tile_Check.j3 Q p1 w10))
  (N_tile_Check.j3 Q p1 w10)))))))) :
C_tile_Check #[.agg #[.int .i64 a0_0, .int .i64 a0_1, .int .i64 a0_2, .int .i64 a0_3, .bool a0_4]] w Q := C_fold K_tile_Check (by kernel_rfl) h
noncomputable def B_p_disk_Disk_Create_S1 : Code := match Tryz.f112.body with | some c => c | _ => .skip
noncomputable def X_p_disk_Disk_Create_S1 : Cx := { P := PP, fn := 112, N := 5, tab := tab, results := [.tmp 1], iter := fun _ => (.none, .none), dyn := fun _ => false, live := fun _ => none }
theorem K_p_disk_Disk_Create_S1 : OkF X_p_disk_Disk_Create_S1 B_p_disk_Disk_Create_S1 Tryz.f112 := ⟨⟨tab_ok, mix_ok⟩, Tryz.func112, by kernel_rfl, by kernel_rfl, by kernel_rfl, by kernel_rfl⟩
theorem C_p_disk_Disk_Create_S1_eq (Q : Value → World → Prop) (f0 : Addr) (w : World) (h :
  opnS (w.cell? f0) fun x1 =>
  C_disk_named #[.string x1] w fun v2 w3 =>
  opnB (some v2) fun x4 =>
  cond (!x4)
  (Q (.int .i64 120) w3)
  (Q (.int .i64 0) w3)) :
C_p_disk_Disk_Create_S1 #[.pointer (some f0)] w Q := C_fold K_p_disk_Disk_Create_S1 (by kernel_rfl) h
noncomputable def B_p_disk_Disk_Create_S2 : Code := match Tryz.f113.body with | some c => c | _ => .skip
noncomputable def X_p_disk_Disk_Create_S2 : Cx := { P := PP, fn := 113, N := 8, tab := tab, results := [], iter := fun _ => (.none, .none), dyn := fun _ => false, live := fun _ => none }
theorem K_p_disk_Disk_Create_S2 : OkF X_p_disk_Disk_Create_S2 B_p_disk_Disk_Create_S2 Tryz.f113 := ⟨⟨tab_ok, mix_ok⟩, Tryz.func113, by kernel_rfl, by kernel_rfl, by kernel_rfl, by kernel_rfl⟩
theorem C_p_disk_Disk_Create_S2_eq (Q : Value → World → Prop) (f0 : Addr) (f1 : Addr) (w : World) (h :
  alC #[.slice none 0 0, .slice none 0 0, .slice none 0 0] 114 w fun p1 w2 =>
  alC #[.pointer none] 115 w2 fun p3 w4 =>
  stC p3 (.pointer (some p1)) w4 fun w5 =>
  opnP (w5.cell? f0) fun x6 =>
  C_p_disk_Disk_rename #[.pointer x6, .func (.func 115) #[] #[.pointer (some p3), .pointer (some f1)]] w5 fun v7 w8 =>
  opnT (some v7) fun x9 =>
  x9.size = 0 ∧
  Q (.tuple #[]) w8) :
C_p_disk_Disk_Create_S2 #[.pointer (some f0), .pointer (some f1)] w Q := C_fold K_p_disk_Disk_Create_S2 (by kernel_rfl) h
noncomputable def B_p_disk_Disk_rename : Code := match Tryz.f114.body with | some c => c | _ => .skip
noncomputable def X_p_disk_Disk_rename : Cx := { P := PP, fn := 114, N := 21, tab := tab, results := [], iter := fun _ => (.none, .none), dyn := fun r => cond (Nat.beq r 15) true (false), live := fun _ => none }
theorem K_p_disk_Disk_rename : OkF X_p_disk_Disk_rename B_p_disk_Disk_rename Tryz.f114 := ⟨⟨tab_ok, mix_ok⟩, Tryz.func114, by kernel_rfl, by kernel_rfl, by kernel_rfl, by kernel_rfl⟩
theorem C_p_disk_Disk_rename_eq (Q : Value → World → Prop) (a0 : Option Addr) (a1 : Value) (w : World) (h :
  opnA a0 fun ad1 =>
  opnL (w.cell? (ad1.add 3)) fun x2 x2n x2c =>
  semP PP (Instr.build 133 #[(0, a1)]) fun v3 =>
  opnG (some v3) fun x5 =>
  x5.size = 1 ∧
  opnV (x5[0]?) fun x6 =>
  alC #[x6] 133 w fun p7 w8 =>
  sem PP (Builtin.append_ #[117, 117] 117 #[.slice x2 x2n x2c, .slice (some p7) 1 1]) w8 fun v9 w10 =>
  opnL (some v9) fun x11 x11n x11c =>
  opnA a0 fun ad12 =>
  stC (ad12.add 3) (.slice x11 x11n x11c) w10 fun w13 =>
  opnA a0 fun ad14 =>
  opnM (w13.cell? (ad14.add 1)) fun x15 =>
  invk PP a1 #[.map x15] w13 fun v16 w17 =>
  opnT (some v16) fun x18 =>
  x18.size = 0 ∧
  Q (.tuple #[]) w17) :
C_p_disk_Disk_rename #[.pointer a0, a1] w Q := C_fold K_p_disk_Disk_rename (by kernel_rfl) h
noncomputable def B_p_disk_Disk_Create_S2_S1 : Code := match Tryz.f115.body with | some c => c | _ => .skip
noncomputable def X_p_disk_Disk_Create_S2_S1 : Cx := { P := PP, fn := 115, N := 7, tab := tab, results := [], iter := fun _ => (.none, .none), dyn := fun _ => false, live := fun _ => none }
theorem K_p_disk_Disk_Create_S2_S1 : OkF X_p_disk_Disk_Create_S2_S1 B_p_disk_Disk_Create_S2_S1 Tryz.f115 := ⟨⟨tab_ok, mix_ok⟩, Tryz.func115, by kernel_rfl, by kernel_rfl, by kernel_rfl, by kernel_rfl⟩
theorem C_p_disk_Disk_Create_S2_S1_eq (Q : Value → World → Prop) (a0 : Option Nat) (f0 : Addr) (f1 : Addr) (w : World) (h :
  opnS (w.cell? f1) fun x1 =>
  opnP (w.cell? f0) fun x2 =>
  semU PP (Instr.mapUpdate 116 (.map a0) (.string x1) (.pointer x2)) w fun w3 =>
  Q (.tuple #[]) w3) :
C_p_disk_Disk_Create_S2_S1 #[.map a0, .pointer (some f0), .pointer (some f1)] w Q := C_fold K_p_disk_Disk_Create_S2_S1 (by kernel_rfl) h
noncomputable def B_p_disk_Disk_Write_S1 : Code := match Tryz.f116.body with | some c => c | _ => .skip
noncomputable def X_p_disk_Disk_Write_S1 : Cx := { P := PP, fn := 116, N := 52, tab := tab, results := [.tmp 4], iter := fun _ => (.none, .none), dyn := fun _ => false, live := fun r => cond (Nat.beq r 5) (some []) (cond (Nat.beq r 9) (some []) (none)) }
theorem K_p_disk_Disk_Write_S1 : OkF X_p_disk_Disk_Write_S1 B_p_disk_Disk_Write_S1 Tryz.f116 := ⟨⟨tab_ok, mix_ok⟩, Tryz.func116, by kernel_rfl, by kernel_rfl, by kernel_rfl, by kernel_rfl⟩
noncomputable def N_p_disk_Disk_Write_S1.j5 (Q : Value → World → Prop) (w : World) : Prop := Nd X_p_disk_Disk_Write_S1 Q [] [.code (B_p_disk_Disk_Write_S1.r.r.l.r.l.l), .code (B_p_disk_Disk_Write_S1.r.r.l.r.l.r), .code (B_p_disk_Disk_Write_S1.r.r.r)] w
noncomputable def N_p_disk_Disk_Write_S1.j9 (Q : Value → World → Prop) (w : World) : Prop := Nd X_p_disk_Disk_Write_S1 Q [] [.code (B_p_disk_Disk_Write_S1.r.r.r.r.r.l), .code (B_p_disk_Disk_Write_S1.r.r.r.r.r.r)] w
theorem N_p_disk_Disk_Write_S1.j5_eq (Q : Value → World → Prop) (w : World) (h :
  Q (.int .i64 1) w) :
N_p_disk_Disk_Write_S1.j5 Q w := Nd_fold K_p_disk_Disk_Write_S1 (by kernel_rfl) h
theorem N_p_disk_Disk_Write_S1.j9_eq (Q : Value → World → Prop) (w : World) (h :
  Q (.int .i64 0) w) :
N_p_disk_Disk_Write_S1.j9 Q w := Nd_fold K_p_disk_Disk_Write_S1 (by kernel_rfl) h
theorem C_p_disk_Disk_Write_S1_eq (Q : Value → World → Prop) (f0 : Addr) (f1 : Addr) (f2 : Addr) (f3 : Addr) (w : World) (h :
  opnP (w.cell? f0) fun x1 =>
  opnS (w.cell? f1) fun x2 =>
  C_p_disk_Disk_there #[.pointer x1, .string x2] w fun v3 w4 =>
  opnI .i64 (some v3) fun x5 =>
  cond (x5 != 0)
  (Q (.int .i64 x5) w4)
  (opnI .i64 (w4.cell? f2) fun x6 =>
  cond (decide (x6 < 0))
  (N_p_disk_Disk_Write_S1.j5 Q w4)
  (opnI .i64 (w4.cell? f2) fun x7 =>
  cond (decide (x7 > 1048576))
  (N_p_disk_Disk_Write_S1.j5 Q w4)
  (drw w4 fun w8 =>
  opnI .i64 (w8.cell? f2) fun x9 =>
  opnL (w8.cell? f3) fun x10 x10n x10c =>
  opnP (w8.cell? f0) fun x11 =>
  opnA x11 fun ad12 =>
  opnM (w8.cell? (ad12.add 1)) fun x13 =>
  opnS (w8.cell? f1) fun x14 =>
  semR PP (Instr.lookup 116 (.map x13) (.string x14) false) w8 fun x15 =>
  opnP (some x15) fun x16 =>
  opnA x16 fun ad17 =>
  opnL (w8.cell? (ad17.add 0)) fun x18 x18n x18c =>
  drw w8 fun w19 =>
  opnL (w19.cell? f3) fun x20 x20n x20c =>
  cond (decide (((x20n : Nat) : Int) > 0))
  (cond (decide ((IntKind.wrap .i64 ((IntKind.wrap .i64 (x9 + ((x10n : Nat) : Int))) - ((x18n : Nat) : Int))) > 0))
  (opnP (w19.cell? f0) fun x21 =>
  opnP (w19.cell? f0) fun x22 =>
  opnA x22 fun ad23 =>
  opnI .i64 (w19.cell? (ad23.add 0)) fun x24 =>
  C_p_disk_Disk_Used #[.pointer x21] w19 fun v25 w26 =>
  opnI .i64 (some v25) fun x27 =>
  (opnI .i64 (w26.cell? (ad23.add 0)) fun x28 =>
  ((.int .i64 x28) : Value) = .int .i64 x24) ∧
  (opnP (w26.cell? f0) fun x29 =>
  ((.pointer x29) : Value) = .pointer x22) ∧
  cond (decide ((IntKind.wrap .i64 (x27 + (IntKind.wrap .i64 ((IntKind.wrap .i64 (x9 + ((x10n : Nat) : Int))) - ((x18n : Nat) : Int))))) > x24))
  (Q (.int .i64 123) w26)
  (N_p_disk_Disk_Write_S1.j9 Q w26))
  (N_p_disk_Disk_Write_S1.j9 Q w19))
  (N_p_disk_Disk_Write_S1.j9 Q w19))))) :
C_p_disk_Disk_Write_S1 #[.pointer (some f0), .pointer (some f1), .pointer (some f2), .pointer (some f3)] w Q := C_fold K_p_disk_Disk_Write_S1 (by kernel_rfl) h
noncomputable def B_p_disk_Disk_Write_S2 : Code := match Tryz.f117.body with | some c => c | _ => .skip
noncomputable def X_p_disk_Disk_Write_S2 : Cx := { P := PP, fn := 117, N := 48, tab := tab, results := [], iter := fun _ => (.none, .none), dyn := fun _ => false, live := fun _ => none }
theorem K_p_disk_Disk_Write_S2 : OkF X_p_disk_Disk_Write_S2 B_p_disk_Disk_Write_S2 Tryz.f117 := ⟨⟨tab_ok, mix_ok⟩, Tryz.func117, by kernel_rfl, by kernel_rfl, by kernel_rfl, by kernel_rfl⟩
theorem C_p_disk_Disk_Write_S2_eq (Q : Value → World → Prop) (f0 : Addr) (f1 : Addr) (f2 : Addr) (f3 : Addr) (w : World) (h :
  opnL (w.cell? f0) fun x1 x1n x1c =>
  cond (((x1n : Nat) : Int) == 0)
  (Q (.tuple #[]) w)
  (drw w fun w2 =>
  opnP (w2.cell? f1) fun x3 =>
  opnA x3 fun ad4 =>
  opnM (w2.cell? (ad4.add 1)) fun x5 =>
  opnS (w2.cell? f2) fun x6 =>
  semR PP (Instr.lookup 116 (.map x5) (.string x6) false) w2 fun x7 =>
  opnP (some x7) fun x8 =>
  drw w2 fun w9 =>
  opnA x8 fun ad10 =>
  opnL (w9.cell? (ad10.add 0)) fun x11 x11n x11c =>
  opnI .i64 (w9.cell? f3) fun x12 =>
  opnL (w9.cell? f0) fun x13 x13n x13c =>
  C_disk_laid #[.slice x11 x11n x11c, .int .i64 x12, .slice x13 x13n x13c] w9 fun v14 w15 =>
  opnL (some v14) fun x16 x16n x16c =>
  opnA x8 fun ad17 =>
  stC (ad17.add 0) (.slice x16 x16n x16c) w15 fun w18 =>
  drw w18 fun w19 =>
  opnA x8 fun ad20 =>
  opnL (w19.cell? (ad20.add 2)) fun x21 x21n x21c =>
  opnP (w19.cell? f1) fun x22 =>
  opnA x22 fun ad23 =>
  opnI .i64 (w19.cell? (ad23.add 4)) fun x24 =>
  opnI .i64 (w19.cell? f3) fun x25 =>
  opnL (w19.cell? f0) fun x26 x26n x26c =>
  C_slices_Clone_byte_byte #[.slice x26 x26n x26c] w19 fun v27 w28 =>
  opnL (some v27) fun x29 x29n x29c =>
  (opnI .i64 (w28.cell? f3) fun x30 =>
  ((.int .i64 x30) : Value) = .int .i64 x25) ∧
  (opnI .i64 (w28.cell? (ad23.add 4)) fun x31 =>
  ((.int .i64 x31) : Value) = .int .i64 x24) ∧
  (opnP (w28.cell? f1) fun x32 =>
  ((.pointer x32) : Value) = .pointer x22) ∧
  (opnL (w28.cell? (ad20.add 2)) fun x33 x33n x33c =>
  ((.slice x33 x33n x33c) : Value) = .slice x21 x21n x21c) ∧
  alC #[.int .i64 x24, .int .i64 x25, .slice x29 x29n x29c] 187 w28 fun p34 w35 =>
  (opnL (w35.cell? (ad20.add 2)) fun x36 x36n x36c =>
  ((.slice x36 x36n x36c) : Value) = .slice x21 x21n x21c) ∧
  sem PP (Builtin.append_ #[112, 112] 112 #[.slice x21 x21n x21c, .slice (some p34) 1 1]) w35 fun v37 w38 =>
  opnL (some v37) fun x39 x39n x39c =>
  opnA x8 fun ad40 =>
  stC (ad40.add 2) (.slice x39 x39n x39c) w38 fun w41 =>
  opnP (w41.cell? f1) fun x42 =>
  opnA x42 fun ad43 =>
  opnI .i64 (w41.cell? (ad43.add 4)) fun x44 =>
  opnA x42 fun ad45 =>
  stC (ad45.add 4) (.int .i64 (IntKind.wrap .i64 (x44 + 1))) w41 fun w46 =>
  Q (.tuple #[]) w46)) :
C_p_disk_Disk_Write_S2 #[.pointer (some f0), .pointer (some f1), .pointer (some f2), .pointer (some f3)] w Q := C_fold K_p_disk_Disk_Write_S2 (by kernel_rfl) h
noncomputable def B_disk_laid : Code := match Tryz.f118.body with | some c => c | _ => .skip
noncomputable def X_disk_laid : Cx := { P := PP, fn := 118, N := 30, tab := tab, results := [.tmp 6], iter := fun _ => (.none, .none), dyn := fun _ => false, live := fun r => cond (Nat.beq r 6) (some [0, 1, 2]) (cond (Nat.beq r 7) (some [0]) (none)) }
theorem K_disk_laid : OkF X_disk_laid B_disk_laid Tryz.f118 := ⟨⟨tab_ok, mix_ok⟩, Tryz.func118, by kernel_rfl, by kernel_rfl, by kernel_rfl, by kernel_rfl⟩
noncomputable def N_disk_laid.j6 (Q : Value → World → Prop) (s0 : Option Addr) (s0n : Nat) (s0c : Nat) (s1 : Int) (s2 : Option Addr) (s2n : Nat) (s2c : Nat) (w : World) : Prop := Nd X_disk_laid Q [(0, 0, .slice s0 s0n s0c), (1, 1, .int .i64 s1), (2, 2, .slice s2 s2n s2c)] [.code (B_disk_laid.r.r.r.l), .code (B_disk_laid.r.r.r.r)] w
noncomputable def N_disk_laid.j7 (Q : Value → World → Prop) (s0 : Option Addr) (s0n : Nat) (s0c : Nat) (w : World) : Prop := Nd X_disk_laid Q [(0, 0, .slice s0 s0n s0c)] [.code (B_disk_laid.r.r.r.r.l), .code (B_disk_laid.r.r.r.r.r)] w
theorem N_disk_laid.j6_eq (Q : Value → World → Prop) (s0 : Option Addr) (s0n : Nat) (s0c : Nat) (s1 : Int) (s2 : Option Addr) (s2n : Nat) (s2c : Nat) (w : World) (h :
  (0 : Int) ≤ s1 ∧
  s1 ≤ ((s0n : Nat) : Int) ∧
  sem PP (Builtin.copy_ #[24, 24] 3 #[.slice (slA s0 (Int.toNat s1) s0c 1) (s0n - (Int.toNat s1)) (s0c - (Int.toNat s1)), .slice s2 s2n s2c]) w fun v1 w2 =>
  opnI .i64 (some v1) fun x3 =>
  N_disk_laid.j7 Q s0 s0n s0c w2) :
N_disk_laid.j6 Q s0 s0n s0c s1 s2 s2n s2c w := Nd_fold K_disk_laid (by kernel_rfl) h
theorem N_disk_laid.j7_eq (Q : Value → World → Prop) (s0 : Option Addr) (s0n : Nat) (s0c : Nat) (w : World) (h :
  Q (.slice s0 s0n s0c) w) :
N_disk_laid.j7 Q s0 s0n s0c w := Nd_fold K_disk_laid (by kernel_rfl) h
theorem C_disk_laid_eq (Q : Value → World → Prop) (a0 : Option Addr) (a0n : Nat) (a0c : Nat) (a1 : Int) (a2 : Option Addr) (a2n : Nat) (a2c : Nat) (w : World) (h :
  cond (((a2n : Nat) : Int) == 0)
  (Q (.slice a0 a0n a0c) w)
  (cond (decide ((IntKind.wrap .i64 ((IntKind.wrap .i64 (a1 + ((a2n : Nat) : Int))) - ((a0n : Nat) : Int))) > 0))
  (sem PP (Builtin.append_ #[24, 3] 24 #[.slice a0 a0n a0c, .int .i64 (IntKind.wrap .i64 ((IntKind.wrap .i64 (a1 + ((a2n : Nat) : Int))) - ((a0n : Nat) : Int)))]) w fun v1 w2 =>
  opnL (some v1) fun x3 x3n x3c =>
  N_disk_laid.j6 Q x3 x3n x3c a1 a2 a2n a2c w2)
  (N_disk_laid.j6 Q a0 a0n a0c a1 a2 a2n a2c w))) :
C_disk_laid #[.slice a0 a0n a0c, .int .i64 a1, .slice a2 a2n a2c] w Q := C_fold K_disk_laid (by kernel_rfl) h
noncomputable def B_p_disk_Disk_Sync_S1 : Code := match Tryz.f119.body with | some c => c | _ => .skip
noncomputable def X_p_disk_Disk_Sync_S1 : Cx := { P := PP, fn := 119, N := 6, tab := tab, results := [.tmp 2], iter := fun _ => (.none, .none), dyn := fun _ => false, live := fun _ => none }
theorem K_p_disk_Disk_Sync_S1 : OkF X_p_disk_Disk_Sync_S1 B_p_disk_Disk_Sync_S1 Tryz.f119 := ⟨⟨tab_ok, mix_ok⟩, Tryz.func119, by kernel_rfl, by kernel_rfl, by kernel_rfl, by kernel_rfl⟩
theorem C_p_disk_Disk_Sync_S1_eq (Q : Value → World → Prop) (f0 : Addr) (f1 : Addr) (w : World) (h :
  opnP (w.cell? f0) fun x1 =>
  opnS (w.cell? f1) fun x2 =>
  C_p_disk_Disk_there #[.pointer x1, .string x2] w fun v3 w4 =>
  opnI .i64 (some v3) fun x5 =>
  Q (.int .i64 x5) w4) :
C_p_disk_Disk_Sync_S1 #[.pointer (some f0), .pointer (some f1)] w Q := C_fold K_p_disk_Disk_Sync_S1 (by kernel_rfl) h
noncomputable def B_p_disk_Disk_Sync_S2 : Code := match Tryz.f120.body with | some c => c | _ => .skip
noncomputable def X_p_disk_Disk_Sync_S2 : Cx := { P := PP, fn := 120, N := 20, tab := tab, results := [], iter := fun _ => (.none, .none), dyn := fun _ => false, live := fun _ => none }
theorem K_p_disk_Disk_Sync_S2 : OkF X_p_disk_Disk_Sync_S2 B_p_disk_Disk_Sync_S2 Tryz.f120 := ⟨⟨tab_ok, mix_ok⟩, Tryz.func120, by kernel_rfl, by kernel_rfl, by kernel_rfl, by kernel_rfl⟩
theorem C_p_disk_Disk_Sync_S2_eq (Q : Value → World → Prop) (f0 : Addr) (f1 : Addr) (w : World) (h :
  drw w fun w1 =>
  opnP (w1.cell? f0) fun x2 =>
  opnA x2 fun ad3 =>
  opnM (w1.cell? (ad3.add 1)) fun x4 =>
  opnS (w1.cell? f1) fun x5 =>
  semR PP (Instr.lookup 116 (.map x4) (.string x5) false) w1 fun x6 =>
  opnP (some x6) fun x7 =>
  opnA x7 fun ad8 =>
  opnL (w1.cell? (ad8.add 0)) fun x9 x9n x9c =>
  C_slices_Clone_byte_byte #[.slice x9 x9n x9c] w1 fun v10 w11 =>
  opnL (some v10) fun x12 x12n x12c =>
  opnA x7 fun ad13 =>
  stC (ad13.add 1) (.slice x12 x12n x12c) w11 fun w14 =>
  opnA x7 fun ad15 =>
  stC (ad15.add 2) (.slice none 0 0) w14 fun w16 =>
  Q (.tuple #[]) w16) :
C_p_disk_Disk_Sync_S2 #[.pointer (some f0), .pointer (some f1)] w Q := C_fold K_p_disk_Disk_Sync_S2 (by kernel_rfl) h
noncomputable def B_p_disk_Disk_Rename_S1 : Code := match Tryz.f121.body with | some c => c | _ => .skip
noncomputable def X_p_disk_Disk_Rename_S1 : Cx := { P := PP, fn := 121, N := 10, tab := tab, results := [.tmp 3], iter := fun _ => (.none, .none), dyn := fun _ => false, live := fun _ => none }
theorem K_p_disk_Disk_Rename_S1 : OkF X_p_disk_Disk_Rename_S1 B_p_disk_Disk_Rename_S1 Tryz.f121 := ⟨⟨tab_ok, mix_ok⟩, Tryz.func121, by kernel_rfl, by kernel_rfl, by kernel_rfl, by kernel_rfl⟩
theorem C_p_disk_Disk_Rename_S1_eq (Q : Value → World → Prop) (f0 : Addr) (f1 : Addr) (f2 : Addr) (w : World) (h :
  opnS (w.cell? f0) fun x1 =>
  C_disk_named #[.string x1] w fun v2 w3 =>
  opnB (some v2) fun x4 =>
  cond (!x4)
  (Q (.int .i64 120) w3)
  (opnP (w3.cell? f1) fun x5 =>
  opnS (w3.cell? f2) fun x6 =>
  C_p_disk_Disk_there #[.pointer x5, .string x6] w3 fun v7 w8 =>
  opnI .i64 (some v7) fun x9 =>
  Q (.int .i64 x9) w8)) :
C_p_disk_Disk_Rename_S1 #[.pointer (some f0), .pointer (some f1), .pointer (some f2)] w Q := C_fold K_p_disk_Disk_Rename_S1 (by kernel_rfl) h
noncomputable def B_p_disk_Disk_Rename_S2 : Code := match Tryz.f122.body with | some c => c | _ => .skip
noncomputable def X_p_disk_Disk_Rename_S2 : Cx := { P := PP, fn := 122, N := 6, tab := tab, results := [], iter := fun _ => (.none, .none), dyn := fun _ => false, live := fun _ => none }
theorem K_p_disk_Disk_Rename_S2 : OkF X_p_disk_Disk_Rename_S2 B_p_disk_Disk_Rename_S2 Tryz.f122 := ⟨⟨tab_ok, mix_ok⟩, Tryz.func122, by kernel_rfl, by kernel_rfl, by kernel_rfl, by kernel_rfl⟩
theorem C_p_disk_Disk_Rename_S2_eq (Q : Value → World → Prop) (f0 : Addr) (f1 : Addr) (f2 : Addr) (w : World) (h :
  opnP (w.cell? f0) fun x1 =>
  C_p_disk_Disk_rename #[.pointer x1, .func (.func 123) #[] #[.pointer (some f1), .pointer (some f2)]] w fun v2 w3 =>
  opnT (some v2) fun x4 =>
  x4.size = 0 ∧
  Q (.tuple #[]) w3) :
C_p_disk_Disk_Rename_S2 #[.pointer (some f0), .pointer (some f1), .pointer (some f2)] w Q := C_fold K_p_disk_Disk_Rename_S2 (by kernel_rfl) h
noncomputable def B_p_disk_Disk_Rename_S2_S1 : Code := match Tryz.f123.body with | some c => c | _ => .skip
noncomputable def X_p_disk_Disk_Rename_S2_S1 : Cx := { P := PP, fn := 123, N := 13, tab := tab, results := [], iter := fun _ => (.none, .none), dyn := fun _ => false, live := fun _ => none }
theorem K_p_disk_Disk_Rename_S2_S1 : OkF X_p_disk_Disk_Rename_S2_S1 B_p_disk_Disk_Rename_S2_S1 Tryz.f123 := ⟨⟨tab_ok, mix_ok⟩, Tryz.func123, by kernel_rfl, by kernel_rfl, by kernel_rfl, by kernel_rfl⟩
theorem C_p_disk_Disk_Rename_S2_S1_eq (Q : Value → World → Prop) (a0 : Option Nat) (f0 : Addr) (f1 : Addr) (w : World) (h :
  opnS (w.cell? f0) fun x1 =>
  semR PP (Instr.lookup 116 (.map a0) (.string x1) false) w fun x2 =>
  opnP (some x2) fun x3 =>
  opnS (w.cell? f0) fun x4 =>
  sem PP (Builtin.delete_ #[116, 9] 0 #[.map a0, .string x4]) w fun v5 w6 =>
  opnS (w6.cell? f1) fun x7 =>
  semU PP (Instr.mapUpdate 116 (.map a0) (.string x7) (.pointer x3)) w6 fun w8 =>
  Q (.tuple #[]) w8) :
C_p_disk_Disk_Rename_S2_S1 #[.map a0, .pointer (some f0), .pointer (some f1)] w Q := C_fold K_p_disk_Disk_Rename_S2_S1 (by kernel_rfl) h
noncomputable def B_p_disk_Disk_Crash_S1 : Code := match Tryz.f124.body with | some c => c | _ => .skip
noncomputable def X_p_disk_Disk_Crash_S1 : Cx := { P := PP, fn := 124, N := 23, tab := tab, results := [.tmp 3], iter := fun _ => (.none, .none), dyn := fun _ => false, live := fun _ => none }
theorem K_p_disk_Disk_Crash_S1 : OkF X_p_disk_Disk_Crash_S1 B_p_disk_Disk_Crash_S1 Tryz.f124 := ⟨⟨tab_ok, mix_ok⟩, Tryz.func124, by kernel_rfl, by kernel_rfl, by kernel_rfl, by kernel_rfl⟩
theorem C_p_disk_Disk_Crash_S1_eq (Q : Value → World → Prop) (a0 : Int) (f0 : Addr) (w : World) (h :
  opnL (w.cell? f0) fun x1 x1n x1c =>
  cond (((x1n : Nat) : Int) == 0)
  (Q (.int .i64 0) w)
  (opnL (w.cell? f0) fun x2 x2n x2c =>
  (0 : Int) ≤ 0 ∧
  0 < ((x2n : Nat) : Int) ∧
  opnA x2 fun ad3 =>
  opnI .i64 (w.cell? (ad3.add (Int.toNat 0 * 1))) fun x4 =>
  IntKind.wrap .i64 (a0 + 1) ≠ (0 : Int) ∧
  IntKind.wrap .i64 (a0 + 1) ≠ (0 : Int) ∧
  opnL (w.cell? f0) fun x5 x5n x5c =>
  (0 : Int) ≤ 1 ∧
  1 ≤ ((x5n : Nat) : Int) ∧
  stC f0 (.slice (slA x5 (Int.toNat 1) x5c 1) (x5n - (Int.toNat 1)) (x5c - (Int.toNat 1))) w fun w6 =>
  Q (.int .i64 (Int.tmod (IntKind.wrap .i64 ((Int.tmod x4 (IntKind.wrap .i64 (a0 + 1))) + (IntKind.wrap .i64 (a0 + 1)))) (IntKind.wrap .i64 (a0 + 1)))) w6)) :
C_p_disk_Disk_Crash_S1 #[.int .i64 a0, .pointer (some f0)] w Q := C_fold K_p_disk_Disk_Crash_S1 (by kernel_rfl) h
noncomputable def B_p_disk_Disk_Crash_S2 : Code := match Tryz.f126.body with | some c => c | _ => .skip
noncomputable def X_p_disk_Disk_Crash_S2 : Cx := { P := PP, fn := 126, N := 12, tab := tab, results := [.tmp 4], iter := fun _ => (.none, .none), dyn := fun _ => false, live := fun _ => none }
theorem K_p_disk_Disk_Crash_S2 : OkF X_p_disk_Disk_Crash_S2 B_p_disk_Disk_Crash_S2 Tryz.f126 := ⟨⟨tab_ok, mix_ok⟩, Tryz.func126, by kernel_rfl, by kernel_rfl, by kernel_rfl, by kernel_rfl⟩
theorem C_p_disk_Disk_Crash_S2_eq (Q : Value → World → Prop) (a0_0 : Option Addr) (a0_1 : Int) (a0_2 : Int) (a0_3 : Option Addr) (a0_3n : Nat) (a0_3c : Nat) (a1_0 : Option Addr) (a1_1 : Int) (a1_2 : Int) (a1_3 : Option Addr) (a1_3n : Nat) (a1_3c : Nat) (w : World) (h :
  alC #[.pointer a0_0, .int .i64 a0_1, .int .i64 a0_2, .slice a0_3 a0_3n a0_3c] 192 w fun p1 w2 =>
  alC #[.pointer a1_0, .int .i64 a1_1, .int .i64 a1_2, .slice a1_3 a1_3n a1_3c] 192 w2 fun p3 w4 =>
  opnI .i64 (w4.cell? ((p1.add 1).add 0)) fun x5 =>
  opnI .i64 (w4.cell? ((p3.add 1).add 0)) fun x6 =>
  Q (.int .i64 (IntKind.wrap .i64 (x5 - x6))) w4) :
C_p_disk_Disk_Crash_S2 #[.agg #[.pointer a0_0, .int .i64 a0_1, .int .i64 a0_2, .slice a0_3 a0_3n a0_3c], .agg #[.pointer a1_0, .int .i64 a1_1, .int .i64 a1_2, .slice a1_3 a1_3n a1_3c]] w Q := C_fold K_p_disk_Disk_Crash_S2 (by kernel_rfl) h
end Go.Proofs.YtcigjlbpdkkflaaGreatDoor
set_option maxRecDepth 100000
namespace Go.Proofs.YtcigjlbpdkkflaaGreatDoor
open Go.Sh
noncomputable def B_p_disk_Disk_Remove_S1 : Code := match Tryz.f145.body with | some c => c | _ => .skip
noncomputable def X_p_disk_Disk_Remove_S1 : Cx := { P := PP, fn := 145, N := 6, tab := tab, results := [.tmp 2], iter := fun _ => (.none, .none), dyn := fun _ => false, live := fun _ => none }
theorem K_p_disk_Disk_Remove_S1 : OkF X_p_disk_Disk_Remove_S1 B_p_disk_Disk_Remove_S1 Tryz.f145 := ⟨⟨tab_ok, mix_ok⟩, Tryz.func145, by kernel_rfl, by kernel_rfl, by kernel_rfl, by kernel_rfl⟩
theorem C_p_disk_Disk_Remove_S1_eq (Q : Value → World → Prop) (f0 : Addr) (f1 : Addr) (w : World) (h :
  opnP (w.cell? f0) fun x1 =>
  opnS (w.cell? f1) fun x2 =>
  C_p_disk_Disk_there #[.pointer x1, .string x2] w fun v3 w4 =>
  opnI .i64 (some v3) fun x5 =>
  Q (.int .i64 x5) w4) :
C_p_disk_Disk_Remove_S1 #[.pointer (some f0), .pointer (some f1)] w Q := C_fold K_p_disk_Disk_Remove_S1 (by kernel_rfl) h
noncomputable def B_p_disk_Disk_Remove_S2 : Code := match Tryz.f146.body with | some c => c | _ => .skip
noncomputable def X_p_disk_Disk_Remove_S2 : Cx := { P := PP, fn := 146, N := 5, tab := tab, results := [], iter := fun _ => (.none, .none), dyn := fun _ => false, live := fun _ => none }
theorem K_p_disk_Disk_Remove_S2 : OkF X_p_disk_Disk_Remove_S2 B_p_disk_Disk_Remove_S2 Tryz.f146 := ⟨⟨tab_ok, mix_ok⟩, Tryz.func146, by kernel_rfl, by kernel_rfl, by kernel_rfl, by kernel_rfl⟩
theorem C_p_disk_Disk_Remove_S2_eq (Q : Value → World → Prop) (f0 : Addr) (f1 : Addr) (w : World) (h :
  opnP (w.cell? f0) fun x1 =>
  C_p_disk_Disk_rename #[.pointer x1, .func (.func 147) #[] #[.pointer (some f1)]] w fun v2 w3 =>
  opnT (some v2) fun x4 =>
  x4.size = 0 ∧
  Q (.tuple #[]) w3) :
C_p_disk_Disk_Remove_S2 #[.pointer (some f0), .pointer (some f1)] w Q := C_fold K_p_disk_Disk_Remove_S2 (by kernel_rfl) h
noncomputable def B_p_disk_Disk_Remove_S2_S1 : Code := match Tryz.f147.body with | some c => c | _ => .skip
noncomputable def X_p_disk_Disk_Remove_S2_S1 : Cx := { P := PP, fn := 147, N := 5, tab := tab, results := [], iter := fun _ => (.none, .none), dyn := fun _ => false, live := fun _ => none }
theorem K_p_disk_Disk_Remove_S2_S1 : OkF X_p_disk_Disk_Remove_S2_S1 B_p_disk_Disk_Remove_S2_S1 Tryz.f147 := ⟨⟨tab_ok, mix_ok⟩, Tryz.func147, by kernel_rfl, by kernel_rfl, by kernel_rfl, by kernel_rfl⟩
theorem C_p_disk_Disk_Remove_S2_S1_eq (Q : Value → World → Prop) (a0 : Option Nat) (f0 : Addr) (w : World) (h :
  opnS (w.cell? f0) fun x1 =>
  sem PP (Builtin.delete_ #[116, 9] 0 #[.map a0, .string x1]) w fun v2 w3 =>
  Q (.tuple #[]) w3) :
C_p_disk_Disk_Remove_S2_S1 #[.map a0, .pointer (some f0)] w Q := C_fold K_p_disk_Disk_Remove_S2_S1 (by kernel_rfl) h
end Go.Proofs.YtcigjlbpdkkflaaGreatDoor
set_option maxRecDepth 100000
namespace Go.Proofs.YtcigjlbpdkkflaaGreatDoor
open Go.Sh
end Go.Proofs.YtcigjlbpdkkflaaGreatDoor
set_option maxRecDepth 100000
namespace Go.Proofs.YtcigjlbpdkkflaaGreatDoor
open Go.Sh
end Go.Proofs.YtcigjlbpdkkflaaGreatDoor
set_option maxRecDepth 10000
namespace Go.Proofs.YtcigjlbpdkkflaaGreatDoor
open Go.Sh Go.ChangeShapes
open Go.RowKit
open Go.Lib in
theorem splitK_pieces : ∀ l : List UInt8, splitK [47] 0 (count l [47]) l = pieces l
  | [] => by rw [count_one]; rfl
  | b :: l => by
    have ih := splitK_pieces l
    by_cases hb : b = 47
    · subst hb
      have hix : index (47 :: l) [47] = ((0 : Nat) : Int) := by rw [index]; simp [List.isPrefixOf]
      rw [count_cons_eq, Nat.add_comm, splitK, if_neg (by rw [hix]; decide), hix, pieces, if_pos rfl]
      simpa using ih
    · have hp : ([47] : List UInt8).isPrefixOf (b :: l) = false := by simp [List.isPrefixOf, Ne.symm hb]
      have hix : index (b :: l) [47] = if index l [47] == -1 then -1 else index l [47] + 1 := by rw [index, hp]; simp
      rw [count_cons_ne b 47 l hb, pieces, if_neg hb, ← ih]
      by_cases hm : index l [47] = -1
      · rw [count_miss hm]; rfl
      · have hge := index_ge l [47]
        obtain ⟨j, hj⟩ : ∃ j : Nat, index l [47] = j := ⟨(index l [47]).toNat, by omega⟩
        have hix' : index (b :: l) [47] = ((j + 1 : Nat) : Int) := by rw [hix, if_neg (fun e => hm (beq_iff_eq.1 e)), hj]; omega
        rw [count_hit (by simp) hj, Nat.add_comm, splitK, splitK, if_neg (by rw [hix']; simp; omega), if_neg (by rw [hj]; simp), hix', hj]
        simp
theorem split_word {Q : Value → World → Prop} {w : World} (s : Str) (hs : s.length < 4294967281) (hd : Dst w) (h : ∀ b w', Own w' 9 1 (some ⟨b, 0, none⟩) (pieces s).length (pieces s).length ((pieces s).map strv) → Chg None w w' → w.heap.size ≤ b → Q (.slice (some ⟨b, 0, none⟩) (pieces s).length (pieces s).length) w') : C_strings_Split #[.string ⟨s.toArray⟩, .string (⟨#[47]⟩ : ByteArray)] w Q := by
  obtain ⟨m, hm⟩ := hd
  refine C_calls Tryz.func98 (by rfl) (by decide) ((strings_Split ⟨s.toArray⟩ ⟨#[47]⟩ m w (by show s.toArray.size < _; simpa using hs) hm (by decide)).mono ?_)
  rintro e w' ⟨rfl, rfl⟩
  have hsz : (⟨s.toArray⟩ : ByteArray).data.toList = s := by simp
  have hc : Go.Lib.countB ⟨s.toArray⟩ ⟨#[47]⟩ = Go.Lib.count s [47] := by
    show Go.Lib.count (⟨s.toArray⟩ : ByteArray).data.toList _ = _
    rw [hsz]
  have hl : (Go.Lib.splitB ⟨#[47]⟩ 0 (Go.Lib.countB ⟨s.toArray⟩ ⟨#[47]⟩) ⟨s.toArray⟩).map (·.data.toList) = pieces s := by
    rw [Go.Lib.splitB_data, hc, hsz]; exact splitK_pieces s
  have hn : Go.Lib.countB ⟨s.toArray⟩ ⟨#[47]⟩ + 1 = (pieces s).length := by
    rw [← hl, List.length_map, Go.Lib.splitB_all ⟨#[47]⟩ (by decide) 0 _ _ rfl]
  have hv : (Go.Lib.splitB ⟨#[47]⟩ 0 (Go.Lib.countB ⟨s.toArray⟩ ⟨#[47]⟩) ⟨s.toArray⟩).map Value.string = (pieces s).map strv := by
    rw [← hl, List.map_map]
    refine List.map_congr_left fun x _ => ?_
    simp
  have hb : Blk (w.alloc (.cells ((pieces s).map strv).toArray 9)) w.heap.size 9 ((pieces s).map strv) := by simpa using blk_alloc (w := w) (t := 9) (cs := ((pieces s).map strv).toArray)
  rw [hn, hv]
  exact h w.heap.size _ ⟨by simp, .inr ⟨_, [], rfl, by simpa using hb, by simp, Nat.le_refl _⟩⟩ (chg_alloc _ _) (Nat.le_refl _)
theorem str_eq (a b : List UInt8) : ((⟨a.toArray⟩ : ByteArray).toList == (⟨b.toArray⟩ : ByteArray).toList) = decide (a = b) := by
  rw [ByteArray.toList_eq, ByteArray.toList_eq]
  by_cases h : a = b
  · subst h; rw [beq_self_eq_true, decide_eq_true rfl]
  · rw [decide_eq_false h]; exact beq_eq_false_iff_ne.2 (by simpa using h)
theorem bt_at (pre : List UInt8) (c : UInt8) (r : List UInt8) : bt ⟨(pre ++ c :: r).toArray⟩ (Int.toNat (pre.length : Int)) = (c.toNat : Int) := by
  unfold bt
  simp
def goodC (c : UInt8) : Bool := decide (33 ≤ c.toNat ∧ c.toNat ≤ 126)
section
variable {Q : Value → World → Prop} {w w0 : World}
theorem named_pieces (ps : List (List UInt8)) {b : Nat} (ho : Own w 9 1 (some ⟨b, 0, none⟩) ps.length ps.length (ps.map strv)) (hps : ps.length < 4611686018427387904) : ∀ (r pre : List (List UInt8)), ps = pre ++ r → Q (.bool (r.all pieceOk)) w → N_disk_named.j10 Q (some ⟨b, 0, none⟩) ps.length ps.length (ps.length : Int) (pre.length : Int) w
  | [], pre, he, h => by
    have hl : ps.length = pre.length := by rw [he]; simp
    refine N_disk_named.j10_eq _ _ _ _ _ _ _ ?_
    rw [decide_eq_false (by omega)]
    exact h
  | x :: r, pre, he, h => by
    have hl : ps.length = pre.length + (r.length + 1) := by rw [he]; simp
    refine N_disk_named.j10_eq _ _ _ _ _ _ _ ?_
    rw [decide_eq_true (by omega)]
    refine ⟨by omega, by omega, rd_str ho (l := x) (by rw [he]; simp) ?_⟩
    rw [str_eq x [46], str_eq x [46, 46], show (⟨#[]⟩ : ByteArray) = ⟨([] : List UInt8).toArray⟩ from rfl, str_eq x []]
    have hall : (x :: r).all pieceOk = (pieceOk x && r.all pieceOk) := rfl
    have hp : pieceOk x = (!decide (x = []) && !decide (x = [46]) && !decide (x = [46, 46])) := by
      unfold pieceOk
      have e : ∀ y : List UInt8, (x == y) = decide (x = y) := fun y => by
        by_cases h : x = y
        · subst h; rw [beq_self_eq_true, decide_eq_true rfl]
        · rw [decide_eq_false h]; exact beq_eq_false_iff_ne.2 h
      rw [e, e, e]
    rw [hall, hp] at h
    cases h1 : decide (x = []) with
    | true => rw [h1] at h; exact N_disk_named.j13_eq _ _ h
    | false =>
      cases h2 : decide (x = [46]) with
      | true => rw [h1, h2] at h; exact N_disk_named.j13_eq _ _ h
      | false =>
        cases h3 : decide (x = [46, 46]) with
        | true => rw [h1, h2, h3] at h; exact N_disk_named.j13_eq _ _ h
        | false =>
          rw [h1, h2, h3] at h
          show N_disk_named.j10 _ _ _ _ _ (IntKind.wrap .i64 _) _
          rw [wrap_nat (by omega)]
          have := named_pieces ps ho hps r (pre ++ [x]) (by rw [he]; simp) h
          simpa using this
theorem named_chars (s : Str) (hs : s.length ≤ 255) (hd : Dst w) (h : ∀ w', Chg None w w' → Q (.bool (s.all goodC && (pieces s).all pieceOk)) w') : ∀ (r pre : List UInt8), s = pre ++ r → pre.all goodC = true → N_disk_named.j4 Q ⟨s.toArray⟩ (s.length : Int) (pre.length : Int) w
  | [], pre, he, hp => by
    have hl : s.length = pre.length := by rw [he]; simp
    refine N_disk_named.j4_eq _ _ _ _ _ ?_
    rw [decide_eq_false (by omega)]
    refine split_word s (by omega) hd fun b w' ho k hb => ?_
    have hpc : ∀ l : List UInt8, (pieces l).length ≤ l.length + 1 := by
      intro l
      induction l with
      | nil => simp [pieces]
      | cons c l ih =>
        rw [pieces]
        split
        · simp; exact ih
        · split
          · rename_i hx; rw [hx] at ih; simp at ih ⊢; omega
          · simp
    have := hpc s
    refine named_pieces (pieces s) ho (by omega) (pieces s) [] rfl ?_
    have hsp : s = pre := by rw [he]; simp
    have := h w' k
    rw [hsp, hp] at this
    rw [hsp]; exact this
  | c :: r, pre, he, hp => by
    have hl : s.length = pre.length + (r.length + 1) := by rw [he]; simp
    refine N_disk_named.j4_eq _ _ _ _ _ ?_
    rw [decide_eq_true (by omega)]
    have hsz : (⟨s.toArray⟩ : ByteArray).size = s.length := by show s.toArray.size = _; simp
    have hbt : bt ⟨s.toArray⟩ (Int.toNat (pre.length : Int)) = (c.toNat : Int) := by rw [he]; exact bt_at pre c r
    have hno : goodC c = false → Q (.bool false) w := fun hc => by
      have := h w (Chg.refl _ _)
      rw [he, List.all_append, List.all_cons, hc] at this
      simpa using this
    rw [hsz, hbt]
    refine ⟨by omega, by omega, ?_⟩
    by_cases h1 : c.toNat < 33
    · rw [decide_eq_true (by omega)]
      exact N_disk_named.j7_eq _ _ (hno (decide_eq_false (by omega)))
    · rw [decide_eq_false (by omega)]
      refine ⟨by omega, by omega, ?_⟩
      by_cases h2 : c.toNat > 126
      · rw [decide_eq_true (by omega)]
        exact N_disk_named.j7_eq _ _ (hno (decide_eq_false (by omega)))
      · rw [decide_eq_false (by omega)]
        show N_disk_named.j4 _ _ _ (IntKind.wrap .i64 _) _
        rw [wrap_nat (by omega)]
        have := named_chars s hs hd h r (pre ++ [c]) (by rw [he]; simp) (by rw [List.all_append, hp]; simp [goodC]; omega)
        simpa using this
theorem named_word (s : Str) (hs : s.length < 4611686018427387904) (hd : Dst w) (h : ∀ w', Chg None w w' → Q (.bool (nameOk s)) w') : C_disk_named #[strv s] w Q := by
  refine C_disk_named_eq _ _ _ ?_
  have hsz : (⟨s.toArray⟩ : ByteArray).size = s.length := by show s.toArray.size = _; simp
  have hg : (fun c : UInt8 => decide (33 ≤ c.toNat ∧ c.toNat ≤ 126)) = goodC := rfl
  rw [hsz]
  unfold nameOk at h
  rw [hg] at h
  by_cases h1 : s.length < 1
  · rw [decide_eq_true (by omega)]
    rw [decide_eq_false (by omega)] at h
    exact N_disk_named.j2_eq _ _ (h w (Chg.refl _ _))
  · rw [decide_eq_false (by omega)]
    by_cases h2 : s.length > 255
    · rw [decide_eq_true (by omega)]
      rw [decide_eq_false (by omega)] at h
      exact N_disk_named.j2_eq _ _ (h w (Chg.refl _ _))
    · rw [decide_eq_false (by omega)]
      rw [decide_eq_true (by omega)] at h
      exact named_chars s (by omega) hd h s [] rfl rfl
end
end Go.Proofs.YtcigjlbpdkkflaaGreatDoor
set_option maxRecDepth 10000
namespace Go.Proofs.YtcigjlbpdkkflaaGreatDoor
open Go.Sh Go.ChangeShapes
open Go.RowKit
theorem T29 : SlT PP 24 5 1 1 := ⟨Tryz.underlying24, by kernel_rfl⟩
theorem T66 : SlT PP 117 133 1 8 := ⟨Tryz.underlying117, by kernel_rfl⟩
theorem T73 : SlT PP 112 187 3 40 := ⟨Tryz.underlying112, by kernel_rfl⟩
theorem K9 : KeyT PP 9 strv := key_string Tryz.underlying9
theorem M65 : PP.underlying 116 = some (.map 9 115) := Tryz.underlying116
theorem z72 : (PP.info? 115).bind (·.zero) = some (.pointer none) := by kernel_rfl
section
variable {Q : Value → World → Prop} {w w0 : World}
theorem lies_nil {S : Nat → Prop} {l : List Value} (h : Lies w S none l) : l = [] := by
  cases l with
  | nil => rfl
  | cons v r => obtain ⟨_, hq, _⟩ := h 0 v rfl; cases hq
theorem clone_word {S : Nat → Prop} {a : Option Addr} {c : Nat} {l : List UInt8} (h : Lies w S a (bvs l)) (hl : l.length ≤ 140737488355328) (hQ : ∀ a' c' w', Own w' 5 1 a' l.length c' (bvs l) → (∀ k, At a' k → w.heap.size ≤ k) → Chg None w w' → Q (.slice a' l.length c') w') : C_slices_Clone_byte_byte #[.slice a l.length c] w Q := by
  refine C_slices_Clone_byte_byte_eq _ _ _ _ _ ?_
  cases a with
  | none =>
    have : l = [] := List.map_eq_nil_iff.1 (lies_nil h)
    subst this
    exact hQ none 0 w Own.nil (fun k hk => by obtain ⟨p, hp, _⟩ := hk; cases hp) (Chg.refl _ _)
  | some p =>
    rw [show (some p).isNone = false from rfl, cond_false]
    refine alC_box fun b w2 hb k hlt => ?_
    have ho : Own w2 5 1 (some ⟨b, 0, none⟩) 0 0 [] := ⟨rfl, .inr ⟨b, [], rfl, hb, Nat.le_refl _, Nat.le_refl _⟩⟩
    refine append_own T29 ho (src_bytes Tryz.underlying24 (h.chg0 k)) (by simp [maxLen]; omega) (by omega) fun a' c' w' o k' f => ?_
    show Q _ _
    rw [List.nil_append, Nat.zero_add] at *
    refine hQ a' c' w' o (fun x hx => ?_) (Chg.fresh k k' fun x hx => ?_)
    · obtain ⟨q, rfl, rfl⟩ := hx
      rcases f with e | ⟨b', e, hb'⟩
      · cases e; exact hlt
      · cases e; exact Nat.le_trans k.size hb'
    · obtain ⟨q, e, rfl⟩ := hx; cases e; exact hlt
theorem copy_own {S : Nat → Prop} {b n c : Nat} {l d : List UInt8} (h : Own w 5 1 (some ⟨b, 0, none⟩) n c (bvs l)) {q : Option Addr} {cq : Nat} (hq : Lies w S q (bvs d)) {i : Nat} (hi : i + d.length ≤ n) (hd : d ≠ []) {K : Value → World → Prop}
    (hK : ∀ w', Own w' 5 1 (some ⟨b, 0, none⟩) n c (bvs (l.take i ++ d ++ l.drop (i + d.length))) → Chg (fun k => k = b) w w' → K (.int .i64 (d.length : Int)) w') :
    sem PP (Builtin.copy_ #[24, 24] 3 #[.slice (slA (some ⟨b, 0, none⟩) i c 1) (n - i) (c - i), .slice q d.length cq]) w K := by
  have hd0 : 0 < d.length := List.length_pos_iff.2 hd
  have hln : l.length = n := by have := h.len; simpa using this
  rcases h.row with ⟨e, _⟩ | ⟨b', rest, e, hb, hc, hnc⟩
  · cases e
  obtain rfl : b = b' := by cases e; rfl
  cases q with
  | none => have := lies_nil hq; rw [bvs, List.map_eq_nil_iff] at this; exact absurd this hd
  | some p =>
    have hsl : slA (some (⟨b, 0, none⟩ : Addr)) i c 1 = some ⟨b, i, none⟩ := by
      unfold slA
      rw [if_neg (by omega)]
      simp [Addr.add_lit]
    have hl2 : (bvs l ++ rest).length = l.length + rest.length := by simp
    have hrun := run_copy_cells (P := PP) w 24 24 3 5 b i (n - i) (c - i) p d.length cq (bvs d) T29.ht (by kernel_rfl) (by rw [bvs_len]; exact (Nat.min_eq_left (by omega)).symm)
      (fun j v hj => by obtain ⟨q, hq1, _, hc⟩ := hq j v hj; cases hq1; exact hc)
      (fun j hj => by rw [bvs_len] at hj; rw [hb.cell, List.getElem?_eq_getElem (by omega)]; rfl)
      (fun j hj => by rw [bvs_len] at hj; exact hb.thaw (by omega)) bvs_one
    unfold sem
    rw [hsl, hrun]
    obtain ⟨g1, g2⟩ := hb.setCells (bvs d) i (by rw [bvs_len]; omega)
    rw [show goInt (bvs d).length = .int .i64 (d.length : Int) by rw [bvs_len]; rfl]
    refine hK _ ⟨?_, .inr ⟨b, rest, rfl, ?_, ?_, hnc⟩⟩ g2
    · simp; omega
    · have e : (bvs l ++ rest).take i ++ bvs d ++ (bvs l ++ rest).drop (i + (bvs d).length) = bvs (l.take i ++ d ++ l.drop (i + d.length)) ++ rest := by
        rw [List.take_append_of_le_length (by rw [bvs_len]; omega), List.drop_append_of_le_length (by rw [bvs_len, bvs_len]; omega), bvs_len]
        simp only [bvs, List.map_append, List.map_take, List.map_drop, List.append_assoc]
      rw [← e]; exact g1
    · have e : (bvs (l.take i ++ d ++ l.drop (i + d.length)) ++ rest).length = (bvs l ++ rest).length := by simp; omega
      rw [e]; exact hc
theorem own_some {e sz n c : Nat} {a : Option Addr} {l : List Value} (h : Own w e sz a n c l) (hn : 0 < n) : ∃ b, a = some ⟨b, 0, none⟩ := by
  rcases h.row with ⟨_, e, _⟩ | ⟨b, _, e, _⟩
  · omega
  · exact ⟨b, e⟩
theorem laid_copy {S : Nat → Prop} {b c : Nat} {x d : List UInt8} (h : Own w 5 1 (some ⟨b, 0, none⟩) x.length c (bvs x)) {q : Option Addr} {cq : Nat} (hq : Lies w S q (bvs d)) {i : Nat} (hi : i + d.length ≤ x.length) (hd : d ≠ [])
    (hQ : ∀ w', Own w' 5 1 (some ⟨b, 0, none⟩) x.length c (bvs (x.take i ++ d ++ x.drop (i + d.length))) → Chg (fun k => k = b) w w' → Q (.slice (some ⟨b, 0, none⟩) x.length c) w') :
    N_disk_laid.j6 Q (some ⟨b, 0, none⟩) x.length c (i : Int) q d.length cq w := by
  refine N_disk_laid.j6_eq _ _ _ _ _ _ _ _ _ ⟨by omega, by omega, ?_⟩
  rw [Int.toNat_natCast]
  refine copy_own h hq hi hd fun w' o k => ?_
  exact opnI_c rfl (N_disk_laid.j7_eq _ _ _ _ _ (hQ w' o k))
theorem laid_word {S : Nat → Prop} {a : Option Addr} {c : Nat} {b d : List UInt8} (h : Own w 5 1 a b.length c (bvs b)) {q : Option Addr} {cq : Nat} (hq : Lies w S q (bvs d)) (hS : ∀ k, S k → ¬ At a k) {i : Nat} (hb : b.length ≤ 35184372088832) (hi : i ≤ 35184372088832) (hdl : d.length ≤ 35184372088832)
    (hQ : ∀ a' c' w', Own w' 5 1 a' (laidB b i d).length c' (bvs (laidB b i d)) → Chg (At a) w w' → (∀ k, At a' k → At a k ∨ w.heap.size ≤ k) → Q (.slice a' (laidB b i d).length c') w') :
    C_disk_laid #[.slice a b.length c, .int .i64 (i : Int), .slice q d.length cq] w Q := by
  refine C_disk_laid_eq _ _ _ _ _ _ _ _ _ ?_
  by_cases hd : d = []
  · subst hd
    have e : laidB b i [] = b := by unfold laidB; rw [if_pos rfl]
    rw [e] at hQ
    exact hQ a c w h (Chg.refl _ _) fun k hk => .inl hk
  · have hd0 : 0 < d.length := List.length_pos_iff.2 hd
    have hz : (((d.length : Nat) : Int) == 0) = false := beq_eq_false_iff_ne.2 (by omega)
    rw [hz, cond_false, wrap_id (n := (i : Int) + (d.length : Int)) (by omega) (by omega), wrap_id (by omega) (by omega)]
    have hll := laidB_len b i hd
    by_cases hm : i + d.length ≤ b.length
    · rw [decide_eq_false (by omega), cond_false]
      have e : laidB b i d = b.take i ++ d ++ b.drop (i + d.length) := by
        unfold laidB
        rw [if_neg hd, Nat.sub_eq_zero_of_le hm, List.replicate_zero, List.append_nil]
      obtain ⟨p, rfl⟩ := own_some h (by omega)
      refine laid_copy h hq hm hd fun w' o k => ?_
      have hlen : b.length = (laidB b i d).length := by rw [hll]; omega
      rw [← e, hlen] at o
      rw [hlen]
      exact hQ _ _ w' o (k.mono fun x _ hx => ⟨_, rfl, hx.symm⟩) fun k hk => .inl hk
    · obtain ⟨m, hm'⟩ : ∃ m, m = i + d.length - b.length := ⟨_, rfl⟩
      rw [decide_eq_true (by omega), cond_true, show (i : Int) + (d.length : Int) - (b.length : Int) = (m : Int) by omega]
      refine append_zeros T29 (z := .int .u8 0) (by kernel_rfl) rfl rfl Tryz.underlying3 h (m := m) (by omega) (by omega) (by omega) fun a' c' w2 o k f => ?_
      refine opnL_c rfl ?_
      have eo : bvs b ++ List.replicate m (.int .u8 0) = bvs (b ++ List.replicate m 0) := by
        simp only [bvs, List.map_append, List.map_replicate]
        rfl
      have hxl : (b ++ List.replicate m (0 : UInt8)).length = b.length + m := by simp
      rw [eo, ← hxl] at o
      rw [← hxl]
      obtain ⟨p, rfl⟩ := own_some o (by rw [hxl]; omega)
      refine laid_copy o (hq.chg k fun x _ hx => hS x hx) (by rw [hxl]; omega) hd fun w' o' k' => ?_
      have e : laidB b i d = (b ++ List.replicate m 0).take i ++ d ++ (b ++ List.replicate m 0).drop (i + d.length) := by
        unfold laidB
        rw [if_neg hd, ← hm']
      have hlen : (b ++ List.replicate m (0 : UInt8)).length = (laidB b i d).length := by rw [hll, hxl]; omega
      rw [← e, hlen] at o'
      rw [hlen]
      have hp : At a p ∨ w.heap.size ≤ p := by
        rcases f with e | ⟨b', e, hb'⟩
        · exact .inl ⟨_, e.symm, rfl⟩
        · cases e; exact .inr hb'
      refine hQ _ _ w' o' (Chg.trans k k' (fun _ _ h => h) fun x hx h => ?_) fun k hk => ?_
      · rcases hp with hp | hp
        · rw [h]; exact hp
        · omega
      · obtain ⟨_, e, rfl⟩ := hk; cases e; exact hp
end
section
variable {Q : Value → World → Prop} {w w0 : World} {T : Tags} {d : Nat} {M : DiskM}
def lenV (M : DiskM) (x : Str × Value) : Nat := match x.2 with | .pointer (some a) => (M.file a.block).now.length | _ => 0
theorem lenV_sum (M : DiskM) : ∀ m : Names, ((ptrs m).map (lenV M)).sum = (m.map fun x => (M.file x.2).now.length).sum
  | [] => rfl
  | x :: m => by
    have := lenV_sum M m
    simp only [ptrs, List.map_cons, List.sum_cons] at this ⊢
    rw [this]; rfl
theorem used_loop {it r : Nat} (hit : 3 < it ∧ T it = .free) (hu : usedM M ≤ 1152921504606846976) : ∀ (n : Nat) (rest : List (Str × Value)) (cur : Option (Str × Value)) (acc : Nat) (w : World), rest.length < n → Itr w strv it r (ptrs M.names) rest cur → (∀ x ∈ rest, ∃ s f, x = (s, ptr f) ∧ T f = .fl) → DiskAt w T d M → T r = .nm → acc + (rest.map (lenV M)).sum = usedM M → (∀ w', Chg (fun k => k = it) w w' → Q (.int .i64 (usedM M : Int)) w') → N_p_disk_Disk_Used.j5 Q (acc : Int) ⟨it, 0, none⟩ w
  | 0, _, _, _, _, hn, _, _, _, _, _, _ => by omega
  | n + 1, rest, cur, acc, w, hn, hi, hx, hd, hr, hs, hQ => by
    refine N_p_disk_Disk_Used.j5_eq _ _ _ _ ?_
    refine map_next hi (fun he w' k => ?_) fun x rest' hp w' hi' k => ?_
    · subst he
      show Q _ _
      rw [show acc = usedM M by simpa using hs]
      exact hQ w' (k.mono fun _ _ h => h.elim)
    · obtain ⟨s, f, rfl, hf⟩ := hx x (hp.mem_iff.2 (by simp))
      refine map_entry hi' ?_
      refine ⟨rfl, ?_⟩
      have hd' := hd.chg k (by omega) fun x hx h => hx (by rw [h]; exact hit.2)
      have hd2 := hd'
      obtain ⟨nb, lb, ad, ac, xs, hv⟩ := hd2
      obtain ⟨na, nc, la, lc, wa, wc, ys, hF⟩ := hv.file f hf
      refine opnL_c (hF.blk.rd 0 rfl) ?_
      have hsum : (rest.map (lenV M)).sum = (M.file f).now.length + (rest'.map (lenV M)).sum := by
        have := (hp.map (lenV M)).sum_nat
        rw [this, List.map_cons, List.sum_cons]; rfl
      rw [show (acc : Int) + ((M.file f).now.length : Int) = ((acc + (M.file f).now.length : Nat) : Int) by omega, wrap_id (by omega) (by omega)]
      have hl := hp.length_eq
      rw [List.length_cons] at hl
      refine used_loop hit hu n rest' _ _ w' (by omega) hi' (fun y hy => hx y (hp.mem_iff.2 (List.mem_cons_of_mem _ hy))) hd' hr (by omega) fun w2 k2 => hQ w2 (Chg.trans k k2 (fun _ _ h => h) fun _ _ h => h)
theorem used_word (hd : DiskAt w T d M) (hQ : ∀ w', Chg None w w' → Q (.int .i64 (if M.dead = true then 0 else (usedM M : Int))) w') : C_p_disk_Disk_Used #[ptr d] w Q := by
  have hd2 := hd
  obtain ⟨nb, lb, ad, ac, xs, hv⟩ := hd2
  refine C_p_disk_Disk_Used_eq _ _ _ ?_
  rw [opnA_e]
  refine opnB_c (hv.blk.rd 8 rfl) ?_
  cases hM : M.dead with
  | true => rw [hM] at hQ; exact hQ w (Chg.refl _ _)
  | false =>
    rw [hM] at hQ
    rw [cond_false, opnA_e]
    refine opnM_c (hv.blk.rd 1 rfl) ?_
    refine map_range M65 hv.nm fun it w1 hi k hit => ?_
    show N_p_disk_Disk_Used.j5 _ _ _ _
    have h0 := hv.std.lt
    have hfree : T it = .free := by
      by_cases h : T it = .free
      · exact h
      · have := hv.size it h; omega
    refine used_loop (d := d) (M := M) (T := T) ⟨by omega, hfree⟩ hv.ok.used _ _ _ 0 w1 (Nat.lt_succ_self _) hi (fun x hx => ?_) (hd.chg0 k) hv.nmT ?_ fun w2 k2 => hQ w2 (Chg.fresh k k2 fun x hx => by rw [hx]; exact hit)
    · obtain ⟨y, hy, rfl⟩ := List.mem_map.1 hx
      exact ⟨y.1, y.2, rfl, hv.nmF y hy⟩
    · rw [Nat.zero_add, lenV_sum]; rfl
theorem there_word (hd : DiskAt w T d M) (s : Str) (hs : s.length < 4611686018427387904) (hQ : ∀ w', Chg None w w' → Q (.int .i64 (thereE M s)) w') : C_p_disk_Disk_there #[ptr d, strv s] w Q := by
  refine C_p_disk_Disk_there_eq _ _ _ _ ?_
  refine named_word s hs hd.dst fun w1 k => ?_
  refine opnB_c rfl ?_
  have hd2 := hd.chg0 k
  obtain ⟨nb, lb, ad, ac, xs, hv⟩ := hd2
  unfold thereE at hQ
  cases hM : nameOk s with
  | false => rw [hM, if_neg (by simp)] at hQ; exact hQ w1 k
  | true =>
    rw [hM, if_pos rfl] at hQ
    rw [Bool.not_true, cond_false, opnA_e]
    refine opnM_c (hv.blk.rd 1 rfl) ?_
    refine map_lookup M65 K9 z72 hv.nm s ?_
    rw [look_ptrs]
    cases hL : Go.Sh.look s M.names with
    | none =>
      rw [hL] at hQ
      refine opnP_c rfl ?_
      rw [ptr_nil_eql Tryz.underlying115]
      exact hQ w1 k
    | some f =>
      rw [hL] at hQ
      refine opnP_c rfl ?_
      rw [ptr_nil_eql Tryz.underlying115]
      exact hQ w1 k
end
end Go.Proofs.YtcigjlbpdkkflaaGreatDoor
set_option maxRecDepth 10000
namespace Go.Proofs.YtcigjlbpdkkflaaGreatDoor
open Go.Sh Go.ChangeShapes
open Go.RowKit
abbrev OwnB (T : Tags) (B : Nat) : Nat → Prop := fun k => T k ≠ .free ∨ B ≤ k
section
variable {Q : Value → World → Prop} {w w0 : World} {T : Tags} {d : Nat} {M : DiskM}
theorem DiskOk.bump (h : DiskOk T M) : DiskOk T (bump M) := ⟨h.room0, h.room1, h.now, h.wl, Nat.le_succ_of_le h.ac, Nat.le_succ_of_le h.wr, h.used, Nat.lt_of_le_of_lt (Nat.sub_le _ _) h.strike, h.inj⟩
theorem act_do {a2 : Value} {e : Int} {P : DiskM → Prop} {B : Nat} {w2 : World} (he : e = 0) (hM : M.dead = false) (kw : Chg (OwnB T B) w w2) (hd2 : DiskAt w2 T d (bump M))
    (h2 : ∀ (Q' : Value → World → Prop), (∀ T' w3 M2, DiskAt w3 T' d M2 → (∀ k, k < B → T' k = T k) → Chg (OwnB T B) w2 w3 → P M2 → Q' (.tuple #[]) w3) → invk PP a2 #[] w2 Q')
    (hns : ¬ (M.strike = 1 ∧ M.fault ≠ 125))
    (hQ : ∀ T' w' M' r, DiskAt w' T' d M' → (∀ k, k < B → T' k = T k) → Chg (OwnB T B) w w' → actR M e P M' r → Q (.int .i64 r) w') :
    N_p_disk_Disk_act.j12 Q (some ⟨d, 0, none⟩) a2 (decide (M.strike = 1)) w2 := by
  refine N_p_disk_Disk_act.j12_eq _ _ _ _ _ ?_
  refine h2 _ fun T' w3 M2 hd3 hT k3 hP => ?_
  refine ⟨rfl, ?_⟩
  refine N_p_disk_Disk_act.j13_eq _ _ _ _ ?_
  have k13 : Chg (OwnB T B) w w3 := Chg.trans kw k3 (fun _ _ h => h) fun _ _ h => h
  by_cases hs : M.strike = 1
  · rw [decide_eq_true hs, cond_true]
    refine N_p_disk_Disk_act.j14_eq _ _ _ ?_
    rw [opnA_e]
    have hd4 := hd3
    obtain ⟨nb, lb, ad, ac, xs, hv⟩ := hd4
    refine box_set hv.blk (by show (8 : Nat) < 9; decide) rfl fun w4 hb4 k4 => ?_
    refine N_p_disk_Disk_act.j15_eq _ _ ?_
    have hv4 : DiskV w4 T' d { M2 with dead := true } nb lb ad ac xs := hv.cells k4 hb4 rfl rfl rfl rfl ⟨hv.ok.room0, hv.ok.room1, hv.ok.now, hv.ok.wl, hv.ok.ac, hv.ok.wr, hv.ok.used, hv.ok.strike, hv.ok.inj⟩
    have kd : Chg (OwnB T B) w w4 := Chg.trans k13 k4 (fun _ _ h => h) fun x hx h => by
      subst h
      obtain ⟨_, _, _, _, _, hv2⟩ := hd2
      exact .inl (by rw [hv2.tag]; simp)
    exact hQ T' w4 _ 125 ⟨nb, lb, ad, ac, xs, hv4⟩ hT kd (.inr (.inr (.inr ⟨hM, he, hns, M2, hP, by rw [if_pos hs], by rw [if_pos hs]⟩)))
  · rw [decide_eq_false hs, cond_false]
    exact N_p_disk_Disk_act.j16_eq _ _ (hQ T' w3 M2 0 hd3 hT k13 (.inr (.inr (.inr ⟨hM, he, hns, M2, hP, by rw [if_neg hs], by rw [if_neg hs]⟩))))
theorem act_word {a1 a2 : Value} {e : Int} {P : DiskM → Prop} {B : Nat} (hd : DiskAt w T d M) (ha : M.acts < 4611686018427387904)
    (h1 : M.dead = false → ∀ (Q' : Value → World → Prop) w1, DiskAt w1 T d (bump M) → Chg (fun k => k = d) w w1 → (∀ w2, Chg None w1 w2 → Q' (.int .i64 e) w2) → invk PP a1 #[] w1 Q')
    (h2 : M.dead = false → e = 0 → ∀ (Q' : Value → World → Prop) w2, DiskAt w2 T d (bump M) → Chg (fun k => k = d) w w2 → (∀ T' w3 M2, DiskAt w3 T' d M2 → (∀ k, k < B → T' k = T k) → Chg (OwnB T B) w2 w3 → P M2 → Q' (.tuple #[]) w3) → invk PP a2 #[] w2 Q')
    (hQ : ∀ T' w' M' r, DiskAt w' T' d M' → (∀ k, k < B → T' k = T k) → Chg (OwnB T B) w w' → actR M e P M' r → Q (.int .i64 r) w') :
    C_p_disk_Disk_act #[ptr d, a1, a2] w Q := by
  have hd2 := hd
  obtain ⟨nb, lb, ad, ac, xs, hv⟩ := hd2
  refine C_p_disk_Disk_act_eq _ _ _ _ _ ?_
  rw [opnA_e]
  refine opnB_c (hv.blk.rd 8 rfl) ?_
  cases hM : M.dead with
  | true => exact hQ T w M 125 hd (fun _ _ => rfl) (Chg.refl _ _) (.inl ⟨hM, rfl, rfl⟩)
  | false =>
    rw [cond_false, opnA_e]
    refine opnI_c (hv.blk.rd 5 rfl) ?_
    rw [opnA_e]
    refine box_set hv.blk (by show (5 : Nat) < 9; decide) rfl fun w6 hb6 k6 => ?_
    rw [opnA_e]
    refine opnI_c (hb6.rd 6 rfl) ?_
    rw [opnA_e]
    refine opnI_c (hb6.rd 6 rfl) ?_
    have hs := hv.ok.strike
    have hst : ((M.strike : Int) == 1) = decide (M.strike = 1) := by
      by_cases h : M.strike = 1
      · rw [h]; rfl
      · rw [decide_eq_false h]; exact beq_eq_false_iff_ne.2 (by omega)
    have hkd : ∀ {a b : World}, Chg (fun k => k = d) a b → Chg (OwnB T B) a b := fun k => k.mono fun x _ hx => by subst hx; exact .inl (by rw [hv.tag]; simp)
    have key : ∀ w1, Blk w1 d 119 (dcells (bump M) nb lb ad ac) → Chg (fun k => k = d) w w1 → N_p_disk_Disk_act.j7 Q (some ⟨d, 0, none⟩) a1 a2 (decide (M.strike = 1)) w1 := fun w1 hb1 k1 => by
      have hv1 : DiskV w1 T d (bump M) nb lb ad ac xs := hv.cells k1 hb1 rfl rfl rfl rfl hv.ok.bump
      have hd1 : DiskAt w1 T d (bump M) := ⟨nb, lb, ad, ac, xs, hv1⟩
      refine N_p_disk_Disk_act.j7_eq _ _ _ _ _ _ ?_
      refine h1 hM _ w1 hd1 k1 fun w2 k2 => ?_
      refine opnI_c rfl ?_
      refine N_p_disk_Disk_act.j8_eq _ _ _ _ _ _ ?_
      have hd2 := hd1.chg0 k2
      have hv2 := hv1.chg0 k2
      have kd2 : Chg (fun k => k = d) w w2 := Chg.trans k1 k2 (fun _ _ h => h) fun _ _ h => h.elim
      by_cases he : e = 0
      · subst he
        rw [show ((0 : Int) != 0) = false from rfl, cond_false]
        refine N_p_disk_Disk_act.j10_eq _ _ _ _ _ ?_
        by_cases h1 : M.strike = 1
        · rw [decide_eq_true h1, cond_true, opnA_e]
          refine opnI_c (hv2.blk.rd 7 rfl) ?_
          by_cases hf : M.fault = 125
          · rw [show ((bump M).fault != 125) = false by show (M.fault != 125) = false; rw [hf]; rfl, cond_false]
            have := act_do (Q := Q) (w := w) (P := P) (B := B) (a2 := a2) rfl hM (hkd kd2) hd2 (fun Q' h => h2 hM rfl Q' w2 hd2 kd2 h) (fun h => h.2 hf) hQ
            rw [decide_eq_true h1] at this
            exact this
          · rw [show ((bump M).fault != 125) = true by show (M.fault != 125) = true; exact bne_iff_ne.2 hf, cond_true]
            refine N_p_disk_Disk_act.j11_eq _ _ _ ?_
            rw [opnA_e]
            refine opnI_c (hv2.blk.rd 7 rfl) ?_
            exact hQ T w2 (bump M) M.fault hd2 (fun _ _ => rfl) (hkd kd2) (.inr (.inr (.inl ⟨hM, rfl, h1, hf, rfl, rfl⟩)))
        · rw [decide_eq_false h1, cond_false]
          have := act_do (Q := Q) (w := w) (P := P) (B := B) (a2 := a2) rfl hM (hkd kd2) hd2 (fun Q' h => h2 hM rfl Q' w2 hd2 kd2 h) (fun h => h1 h.1) hQ
          rw [decide_eq_false h1] at this
          exact this
      · rw [show (e != 0) = true from bne_iff_ne.2 he, cond_true]
        exact N_p_disk_Disk_act.j9_eq _ _ _ (hQ T w2 (bump M) e hd2 (fun _ _ => rfl) (hkd kd2) (.inr (.inl ⟨hM, he, rfl, rfl⟩)))
    rw [hst]
    by_cases h0 : M.strike = 0
    · rw [decide_eq_false (by omega), cond_false]
      refine key w6 ?_ k6
      have e : (dcells M nb lb ad ac).set 5 (.int .i64 (IntKind.wrap .i64 ((M.acts : Int) + 1))) = dcells (bump M) nb lb ad ac := by
        rw [wrap_nat (by omega)]
        unfold dcells bump
        simp [h0]
      rw [← e]; exact hb6
    · rw [decide_eq_true (by omega), cond_true, opnA_e]
      refine opnI_c (hb6.rd 6 rfl) ?_
      rw [opnA_e]
      refine box_set hb6 (by show (6 : Nat) < 9; decide) rfl fun w7 hb7 k7 => ?_
      refine key w7 ?_ (Chg.trans k6 k7 (fun _ _ h => h) fun _ _ h => h)
      have e : ((dcells M nb lb ad ac).set 5 (.int .i64 (IntKind.wrap .i64 ((M.acts : Int) + 1)))).set 6 (.int .i64 (IntKind.wrap .i64 ((M.strike : Int) - 1))) = dcells (bump M) nb lb ad ac := by
        rw [wrap_nat (by omega), wrap_id (by omega) (by omega), show (M.strike : Int) - 1 = ((M.strike - 1 : Nat) : Int) by omega]
        unfold dcells bump
        simp
      rw [← e]; exact hb7
end
end Go.Proofs.YtcigjlbpdkkflaaGreatDoor
set_option maxRecDepth 10000
namespace Go.Proofs.YtcigjlbpdkkflaaGreatDoor
open Go.Sh Go.ChangeShapes
open Go.RowKit
theorem mem_putp {n : Str} {f : Nat} : ∀ {m : Names} {x : Str × Nat}, x ∈ Go.Sh.put n f m → x = (n, f) ∨ x ∈ m
  | [], x, h => by simpa [Go.Sh.put] using h
  | y :: m, x, h => by
    simp only [Go.Sh.put] at h
    split at h
    · rcases List.mem_cons.1 h with h | h
      · exact .inl h
      · exact .inr (List.mem_cons_of_mem _ h)
    · rcases List.mem_cons.1 h with h | h
      · exact .inr (by rw [h]; simp)
      · rcases mem_putp h with h | h
        · exact .inl h
        · exact .inr (List.mem_cons_of_mem _ h)
theorem mem_delp {n : Str} {m : Names} {x : Str × Nat} (h : x ∈ Go.Sh.del n m) : x ∈ m := del_sub.subset h
def ActM.fits : ActM → Names → Prop
  | .rename a _, m => ∃ f, Go.Sh.look a m = some f
  | _, _ => True
section
variable {Q : Value → World → Prop} {w w0 : World} {T : Tags} {d : Nat} {M : DiskM}
theorem on_tags {a : ActM} {v : Value} {m : Names} (ha : ActAt w T a v) (hm : ∀ x ∈ m, T x.2 = .fl) : ∀ x ∈ a.on m, T x.2 = .fl := by
  cases a with
  | create n f =>
    obtain ⟨_, _, _, _, _, _, _, hf⟩ := ha
    intro x hx
    rcases mem_putp hx with h | h
    · rw [h]; exact hf
    · exact hm x h
  | rename a b =>
    intro x hx
    simp only [ActM.on] at hx
    cases hL : Go.Sh.look a m with
    | none => rw [hL] at hx; exact hm x hx
    | some f =>
      rw [hL] at hx
      rcases mem_putp hx with h | h
      · rw [h]; exact hm (a, f) (look_mem hL)
      · exact hm x (mem_delp h)
  | remove n => intro x hx; exact hm x (mem_delp hx)
theorem act_invk {a : ActM} {v : Value} {r : Nat} {m : Names} (h : HMap w strv r (ptrs m)) (ha : ActAt w T a v) (hr : T r ≠ .bx) (hf : a.fits m) (hQ : ∀ w', HMap w' strv r (ptrs (a.on m)) → Chg (fun k => k = r) w w' → Q (.tuple #[]) w') : invk PP v #[.map (some r)] w Q := by
  have ne : ∀ x, T x = .bx → x ≠ r := fun x hx e => hr (by rw [← e]; exact hx)
  cases a with
  | create n f =>
    obtain ⟨p, q, rfl, b1, t1, b2, t2, hf⟩ := ha
    show C_p_disk_Disk_Create_S2_S1 #[.map (some r), ptr p, ptr q] w Q
    refine C_p_disk_Disk_Create_S2_S1_eq _ _ _ _ _ ?_
    refine opnS_c (b2.cell 0) (opnP_c (b1.cell 0) ?_)
    refine map_update M65 K9 h n (ptr f) fun w' h' k => ?_
    rw [put_ptrs] at h'
    exact hQ w' h' k
  | remove n =>
    obtain ⟨q, rfl, b2, t2⟩ := ha
    show C_p_disk_Disk_Remove_S2_S1 #[.map (some r), ptr q] w Q
    refine C_p_disk_Disk_Remove_S2_S1_eq _ _ _ _ ?_
    refine opnS_c (b2.cell 0) ?_
    refine map_delete M65 K9 h n fun w' h' k => ?_
    rw [del_ptrs] at h'
    exact hQ w' h' k
  | rename a b =>
    obtain ⟨p, q, rfl, b1, t1, b2, t2⟩ := ha
    obtain ⟨f, hL⟩ := hf
    show C_p_disk_Disk_Rename_S2_S1 #[.map (some r), ptr p, ptr q] w Q
    refine C_p_disk_Disk_Rename_S2_S1_eq _ _ _ _ _ ?_
    refine opnS_c (b1.cell 0) ?_
    refine map_lookup M65 K9 z72 h a ?_
    rw [look_ptrs, hL]
    refine opnP_c rfl (opnS_c (b1.cell 0) ?_)
    refine map_delete M65 K9 h a fun w' h' k => ?_
    rw [del_ptrs] at h'
    refine opnS_c ((b2.chg k (ne q t2)).cell 0) ?_
    refine map_update M65 K9 h' b (ptr f) fun w2 h2 k2 => ?_
    rw [put_ptrs] at h2
    have e : (ActM.rename a b).on m = Go.Sh.put b f (Go.Sh.del a m) := by simp only [ActM.on, hL]
    rw [← e] at h2
    exact hQ w2 h2 (Chg.trans k k2 (fun _ _ h => h) fun _ _ h => h)
def onM (M : DiskM) (a : ActM) : DiskM := { M with names := a.on M.names, loose := M.loose ++ [a] }
theorem rename_word {a : ActM} {v : Value} (hd : DiskAt w T d M) (ha : ActAt w T a v) (hf : a.fits M.names) (hl : M.loose.length < M.acts) (hac : M.acts < 4611686018427387904) (hu : usedM (onM M a) ≤ 1152921504606846976) (hinj : ((a.on M.names).map (·.2)).Nodup)
    (hlen : M.loose.length < 1099511627776)
    (hQ : ∀ T' w', DiskAt w' T' d (onM M a) → (∀ k, k < w.heap.size → T' k = T k) → Chg (Ownd T) w w' → Q (.tuple #[]) w') : C_p_disk_Disk_rename #[ptr d, v] w Q := by
  obtain ⟨nb, lb, ad, ac, xs, hv⟩ := hd
  refine C_p_disk_Disk_rename_eq _ _ _ _ ?_
  rw [opnA_e]
  refine opnL_c (hv.blk.rd 3 rfl) ?_
  have hb85 : PP.built 133 (#[(0, v)] : Array (Nat × Value)).toList = some #[v] := by
    cases a with
    | create n f => obtain ⟨p, q, rfl, _⟩ := ha; rfl
    | rename a b => obtain ⟨p, q, rfl, _⟩ := ha; rfl
    | remove n => obtain ⟨q, rfl, _⟩ := ha; rfl
  have hv1 : v.oneCell' = true := by
    cases a with
    | create n f => obtain ⟨p, q, rfl, _⟩ := ha; rfl
    | rename a b => obtain ⟨p, q, rfl, _⟩ := ha; rfl
    | remove n => obtain ⟨q, rfl, _⟩ := ha; rfl
  refine built_c hb85 ?_
  refine ⟨rfl, opnV_c rfl ?_⟩
  show sem PP _ (w.alloc (.cells #[v] 133)) _
  have k8 : Chg None w (w.alloc (.cells #[v] 133)) := chg_alloc _ _
  refine append_own T66 (hv.acO.chg0 k8) (src_two (vs := [v]) (n := 1) (c := 1) (sz := 1) Tryz.underlying117 rfl (by simpa using hv1)) (by simp [maxLen]; omega) (by omega) fun a' c' w10 o10 k10 f10 => ?_
  refine opnL_c rfl ?_
  have nd : ∀ x t, T x = t → t ≠ .ac → ¬ At ad x := fun x t hx ht h => ht (hx.symm.trans (hv.acT x h))
  have hb10 := (hv.blk.chg k8 fun h => h).chg k10 (nd d _ hv.tag (by simp))
  rw [opnA_e]
  refine box_set hb10 (by show (3 : Nat) < 9; decide) rfl fun w13 hb13 k13 => ?_
  rw [opnA_e]
  refine opnM_c (hb13.rd 1 rfl) ?_
  have ka : Chg (fun k => At ad k ∨ k = d) w w13 := Chg.trans (Chg.trans k8 k10 (fun _ _ h => h.elim) fun _ _ h => Or.inl h) k13 (fun _ _ h => h) fun _ _ h => Or.inr h
  have nda : ∀ x t, T x = t → t ≠ .ac → t ≠ .dk → ¬ (At ad x ∨ x = d) := fun x t hx ht hk h => by
    rcases h with h | h
    · exact nd x t hx ht h
    · subst h; exact hk (hx.symm.trans hv.tag)
  refine act_invk (T := T) (m := M.names) (hv.nm.chg ka (nda nb _ hv.nmT (by simp) (by simp))) (ha.chg ka (Ext.refl T) fun x hx => nda x _ hx (by simp) (by simp)) (by rw [hv.nmT]; simp) hf fun w17 h17 k17 => ?_
  refine ⟨rfl, ?_⟩
  have kall : Chg (fun k => (At ad k ∨ k = d) ∨ k = nb) w w17 := Chg.trans ka k17 (fun _ _ h => Or.inl h) fun _ _ h => Or.inr h
  have ndall : ∀ x t, T x = t → t ≠ .ac → t ≠ .dk → t ≠ .nm → ¬ ((At ad x ∨ x = d) ∨ x = nb) := fun x t hx h1 h2 h3 h => by
    rcases h with h | h
    · exact nda x t hx h1 h2 h
    · subst h; exact h3 (hx.symm.trans hv.nmT)
  have hsz : w.heap.size ≤ w17.heap.size := kall.size
  have hat : ∀ k, At a' k → T k = .ac ∨ w.heap.size ≤ k := fun k hk => by
    rcases f10 with e | ⟨b, e, hb⟩
    · subst e; exact .inl (hv.acT k hk)
    · subst e; obtain ⟨p, e, rfl⟩ := hk; cases e; exact .inr (Nat.le_trans k8.size hb)
  have hatlt : ∀ k, At a' k → k < w17.heap.size := fun k hk => Nat.lt_of_lt_of_le (o10.lt hk) (Nat.le_trans k13.size k17.size)
  have hcl : ∀ k, T k ≠ .free → k < w.heap.size := hv.size
  classical
  let T' : Tags := fun k => if At a' k then .ac else T k
  have hT' : ∀ k, k < w.heap.size → T' k = T k := fun k hk => by
    show (if At a' k then Tag.ac else T k) = T k
    by_cases h : At a' k
    · rw [if_pos h]
      rcases hat k h with e | e
      · exact e.symm
      · omega
    · rw [if_neg h]
  have hext : Ext T T' := fun k hk => hT' k (hcl k hk)
  have hfl : ∀ k, T' k = .fl → T k = .fl := fun k hk => by
    by_cases h : At a' k
    · rw [show T' k = Tag.ac from if_pos h] at hk; cases hk
    · rwa [show T' k = T k from if_neg h] at hk
  have hb17 := hb13.chg k17 (by intro e; have := hv.tag; rw [e, hv.nmT] at this; cases this)
  have hon : (onM M a).loose.length = M.loose.length + 1 := by simp [onM]
  have hxm : (xs ++ [(a, v)]).map (·.2) = xs.map (·.2) ++ [v] := by simp
  refine hQ T' w17 ⟨nb, lb, a', c', xs ++ [(a, v)], ?_⟩ hT' (kall.mono fun x _ hx => ?_)
  · exact {
      size := fun k hk => by
        by_cases h : At a' k
        · exact hatlt k h
        · rw [show T' k = T k from if_neg h] at hk; exact Nat.lt_of_lt_of_le (hcl k hk) hsz
      zero := by rw [hT' 3 hv.std.lt]; exact hv.zero
      std := hv.std.chg kall (ndall 3 _ hv.zero (by simp) (by simp) (by simp))
      tag := by rw [hT' d (hcl d (by rw [hv.tag]; simp))]; exact hv.tag
      blk := by
        have e : (dcells M nb lb ad ac).set 3 (.slice a' (M.loose.length + 1) c') = dcells (onM M a) nb lb a' c' := by
          unfold dcells
          rw [hon]; rfl
        rw [← e]; exact hb17
      nmT := hext.at hv.nmT (by simp)
      nm := h17
      laT := hext.at hv.laT (by simp)
      la := hv.la.chg kall (ndall lb _ hv.laT (by simp) (by simp) (by simp))
      acO := by
        rw [hon, hxm]
        refine (o10.chg k13 fun x hx e => ?_).chg k17 fun x hx e => ?_
        · rcases hat x hx with h | h
          · rw [e, hv.tag] at h; cases h
          · have := hcl x (by rw [e, hv.tag]; simp); omega
        · rcases hat x hx with h | h
          · rw [e, hv.nmT] at h; cases h
          · have := hcl x (by rw [e, hv.nmT]; simp); omega
      acT := fun k hk => if_pos hk
      xsm := by simp [onM, hv.xsm]
      acts := fun x hx => by
        rcases List.mem_append.1 hx with h | h
        · exact (hv.acts x h).chg kall hext fun y hy => ndall y _ hy (by simp) (by simp) (by simp)
        · rw [List.mem_singleton.1 h]
          exact ha.chg kall hext fun y hy => ndall y _ hy (by simp) (by simp) (by simp)
      file := fun f hf => (hv.file f (hfl f hf)).chg kall hext (ndall f _ (hfl f hf) (by simp) (by simp) (by simp)) (fun y hy => ndall y _ hy (by simp) (by simp) (by simp)) (fun y hy => ndall y _ hy (by simp) (by simp) (by simp)) (fun y hy => ndall y _ hy (by simp) (by simp) (by simp))
      nmF := fun x hx => hext.at (on_tags ha hv.nmF x hx) (by simp)
      laF := fun x hx => hext.at (hv.laF x hx) (by simp)
      ok := ⟨hv.ok.room0, hv.ok.room1, fun f hf => hv.ok.now f (hfl f hf), fun f hf => hv.ok.wl f (hfl f hf), by rw [hon]; exact hl, hv.ok.wr, hu, hv.ok.strike, hinj⟩ }
  · rcases hx with (hx | hx) | hx
    · rw [Ownd, hv.acT x hx]; simp
    · rw [hx, Ownd, hv.tag]; simp
    · rw [hx, Ownd, hv.nmT]; simp
end
end Go.Proofs.YtcigjlbpdkkflaaGreatDoor
set_option maxRecDepth 10000
namespace Go.Proofs.YtcigjlbpdkkflaaGreatDoor
open Go.Sh
def RepOk : Names → List ActM → Names → Prop
  | m, [], n => m = n
  | m, a :: r, n => a.fits m ∧ RepOk (a.on m) r n
theorem RepOk.app {a : ActM} : ∀ {l : List ActM} {m n : Names}, RepOk m l n → a.fits n → RepOk m (l ++ [a]) (a.on n)
  | [], m, n, h, hf => by
    have h : m = n := h
    subst h
    exact ⟨hf, rfl⟩
  | b :: l, m, n, h, hf => ⟨h.1, RepOk.app h.2 hf⟩
end Go.Proofs.YtcigjlbpdkkflaaGreatDoor
set_option maxRecDepth 10000
namespace Go.Proofs.YtcigjlbpdkkflaaGreatDoor
open Go.Sh Go.ChangeShapes
open Go.RowKit
theorem sum_congr {α : Type} (f g : α → Nat) : ∀ (l : List α), (∀ x ∈ l, f x = g x) → (l.map f).sum = (l.map g).sum
  | [], _ => rfl
  | x :: l, h => by
    simp only [List.map_cons, List.sum_cons]
    rw [h x (by simp), sum_congr f g l fun y hy => h y (by simp [hy])]
theorem usedM_congr {M M1 : DiskM} (e : M1.names = M.names) (h : ∀ x ∈ M.names, (M1.file x.2).now.length = (M.file x.2).now.length) : usedM M1 = usedM M := by
  unfold usedM
  rw [e]
  exact sum_congr _ _ _ h
theorem put_inj {n : Str} {f : Nat} : ∀ {m : Names}, (m.map (·.2)).Nodup → (∀ x ∈ m, x.2 ≠ f) → ((Go.Sh.put n f m).map (·.2)).Nodup
  | [], _, _ => by simp [Go.Sh.put]
  | x :: m, h, hf => by
    simp only [List.map_cons, List.nodup_cons] at h
    simp only [Go.Sh.put]
    split
    · simp only [List.map_cons, List.nodup_cons]
      exact ⟨fun e => by obtain ⟨y, hy, e⟩ := List.mem_map.1 e; exact hf y (List.mem_cons_of_mem _ hy) e, h.2⟩
    · simp only [List.map_cons, List.nodup_cons]
      refine ⟨fun e => ?_, put_inj h.2 fun y hy => hf y (List.mem_cons_of_mem _ hy)⟩
      obtain ⟨y, hy, e⟩ := List.mem_map.1 e
      rcases mem_putp hy with h1 | h1
      · rw [h1] at e; exact hf x (by simp) e.symm
      · exact h.1 (by rw [← e]; exact List.mem_map_of_mem (f := (·.2)) h1)
theorem del_inj {n : Str} {m : Names} (h : (m.map (·.2)).Nodup) : ((Go.Sh.del n m).map (·.2)).Nodup := h.sublist (del_sub.map _)
theorem del_look {n : Str} {f : Nat} : ∀ {m : Names}, (m.map (·.2)).Nodup → Go.Sh.look n m = some f → ∀ x ∈ Go.Sh.del n m, x.2 ≠ f
  | [], _, h => by cases h
  | x :: m, hn, h => by
    simp only [List.map_cons, List.nodup_cons] at hn
    simp only [Go.Sh.look] at h
    simp only [Go.Sh.del]
    split
    · rename_i hx
      rw [if_pos hx] at h
      cases h
      intro y hy e
      exact hn.1 (by rw [← e]; exact List.mem_map_of_mem (f := (·.2)) hy)
    · rename_i hx
      rw [if_neg hx] at h
      intro y hy
      rcases List.mem_cons.1 hy with h1 | h1
      · subst h1
        intro e
        exact hn.1 (by rw [e]; exact List.mem_map_of_mem (f := (·.2)) (look_mem h))
      · exact del_look hn.2 h y h1
theorem sum_set (g g' : Nat → Nat) {n : Str} {f : Nat} (hg : ∀ k, k ≠ f → g' k = g k) : ∀ {m : Names}, (m.map (·.2)).Nodup → Go.Sh.look n m = some f → (m.map fun x => g' x.2).sum + g f = (m.map fun x => g x.2).sum + g' f
  | [], _, h => by cases h
  | x :: m, hn, h => by
    simp only [List.map_cons, List.nodup_cons] at hn
    simp only [Go.Sh.look] at h
    simp only [List.map_cons, List.sum_cons]
    split at h
    · cases h
      have : (m.map fun y => g' y.2).sum = (m.map fun y => g y.2).sum := sum_congr _ _ _ fun y hy => hg _ fun e => hn.1 (by rw [← e]; exact List.mem_map_of_mem (f := (·.2)) hy)
      omega
    · have h1 := sum_set g g' hg hn.2 h
      have h2 := hg x.2 (fun e => hn.1 (by rw [e]; exact List.mem_map_of_mem (f := (·.2)) (look_mem h)))
      omega
theorem sum_del (g : Str × Nat → Nat) (n : Str) : ∀ m : Names, ((Go.Sh.del n m).map g).sum ≤ (m.map g).sum
  | [] => Nat.le_refl _
  | x :: m => by
    simp only [Go.Sh.del]
    split
    · simp
    · have := sum_del g n m
      simp only [List.map_cons, List.sum_cons]; omega
theorem sum_put (g : Str × Nat → Nat) (n : Str) (f : Nat) : ∀ m : Names, ((Go.Sh.put n f m).map g).sum ≤ (m.map g).sum + g (n, f)
  | [] => by simp [Go.Sh.put]
  | x :: m => by
    simp only [Go.Sh.put]
    split
    · simp; omega
    · have := sum_put g n f m
      simp only [List.map_cons, List.sum_cons]; omega
theorem sum_look {g : Nat → Nat} {n : Str} {f : Nat} : ∀ {m : Names}, Go.Sh.look n m = some f → ((Go.Sh.del n m).map fun x => g x.2).sum + g f = (m.map fun x => g x.2).sum
  | [], h => by cases h
  | x :: m, h => by
    simp only [Go.Sh.look] at h
    simp only [Go.Sh.del]
    split
    · rename_i hx
      rw [if_pos hx] at h
      cases h
      simp; omega
    · rename_i hx
      rw [if_neg hx] at h
      have := sum_look (g := g) h
      simp only [List.map_cons, List.sum_cons]; omega
theorem sum_mem {g : Nat → Nat} {n : Str} {f : Nat} {m : Names} (h : Go.Sh.look n m = some f) : g f ≤ (m.map fun x => g x.2).sum := by
  have := sum_look (g := g) h
  omega
section
variable {Q : Value → World → Prop} {w w0 : World} {T : Tags} {d : Nat} {M : DiskM}
theorem DiskV.ext {T1 : Tags} {nb lb : Nat} {ad : Option Addr} {ac : Nat} {xs : List (ActM × Value)} (h : DiskV w T d M nb lb ad ac xs) (fl : Nat → FileM) (hfl : ∀ f, T f = .fl → fl f = M.file f) (hx : Ext T T1) (size : ∀ k, T1 k ≠ .free → k < w.heap.size) (zero : T1 3 = .free)
    (hnew : ∀ f, T1 f = .fl → T f ≠ .fl → FileAt w T1 f (fl f) ∧ (fl f).now.length ≤ 1099511627776 ∧ (fl f).loose.length ≤ M.writes) : DiskV w T1 d { M with file := fl } nb lb ad ac xs where
  size := size
  zero := zero
  std := h.std
  tag := hx.at h.tag (by simp)
  blk := h.blk
  nmT := hx.at h.nmT (by simp)
  nm := h.nm
  laT := hx.at h.laT (by simp)
  la := h.la
  acO := h.acO
  acT k hk := hx.at (h.acT k hk) (by simp)
  xsm := h.xsm
  acts x hx' := (h.acts x hx').chg (Chg.refl (fun _ => False) w) hx fun _ _ h => h
  file f hf := by
    by_cases h1 : T f = .fl
    · show FileAt w T1 f (fl f)
      rw [hfl f h1]
      exact (h.file f h1).chg (Chg.refl (fun _ => False) w) hx (fun h => h) (fun _ _ h => h) (fun _ _ h => h) (fun _ _ h => h)
    · exact (hnew f hf h1).1
  nmF x hx' := hx.at (h.nmF x hx') (by simp)
  laF x hx' := hx.at (h.laF x hx') (by simp)
  ok := by
    have hu : usedM { M with file := fl } = usedM M := usedM_congr rfl fun x hx' => by rw [show ({ M with file := fl } : DiskM).file x.2 = M.file x.2 from hfl _ (h.nmF x hx')]
    refine ⟨h.ok.room0, h.ok.room1, fun f hf => ?_, fun f hf => ?_, h.ok.ac, h.ok.wr, by rw [hu]; exact h.ok.used, h.ok.strike, h.ok.inj⟩
    · by_cases h1 : T f = .fl
      · show (fl f).now.length ≤ _
        rw [hfl f h1]; exact h.ok.now f h1
      · exact (hnew f hf h1).2.1
    · by_cases h1 : T f = .fl
      · show (fl f).loose.length ≤ _
        rw [hfl f h1]; exact h.ok.wl f h1
      · exact (hnew f hf h1).2.2
def createE (n : Str) : Int := if nameOk n = true then 0 else 120
theorem create_do {n : Str} {p1 p3 : Nat} {B : Nat} (hd : DiskAt w T d M) (b1 : Blk w p1 27 [ptr d]) (b3 : Blk w p3 9 [strv n]) (h3 : B ≤ p3) (t3 : T p3 = .free) (hB : B ≤ w.heap.size) (hB0 : 3 < B) (hac : M.acts < 4611686018427387904) (hl : M.loose.length < M.acts) (hlen : M.loose.length < 1099511627776)
    (hQ : ∀ T' w' f, DiskAt w' T' d (createM M n f) → (∀ k, k < B → T' k = T k) → Chg (OwnB T B) w w' → B ≤ f → Q (.tuple #[]) w') : C_p_disk_Disk_Create_S2 #[ptr p1, ptr p3] w Q := by
  refine C_p_disk_Disk_Create_S2_eq _ _ _ _ ?_
  refine alC_box0 fun f w2 hf k2 hlt => ?_
  refine alC_box fun p w4 hp k4 hlt4 => ?_
  refine hp.store (j := 0) (by show (0 : Nat) < 1; decide) rfl fun hp5 k5 => ?_
  generalize w4.setCell ⟨p, 0, none⟩ (.pointer (some ⟨f, 0, none⟩)) = w5 at hp5 k5
  have h3lt := b3.lt
  have h1lt := b1.lt
  have k25 : Chg None w2 w5 := Chg.fresh k4 k5 fun x hx => by rw [hx]; exact hlt4
  have k05 : Chg None w w5 := Chg.none_trans k2 k25
  have hf5 : Blk0 w5 f 114 [.slice none 0 0, .slice none 0 0, .slice none 0 0] := hf.chg k25 fun h => h
  refine opnP_c ((b1.chg k05 fun h => h).cell 0) ?_
  classical
  have hd5 := hd.chg0 k05
  obtain ⟨nb, lb, ad, ac, xs, hv⟩ := hd5
  have hv0 := hd
  obtain ⟨_, _, _, _, _, hv0⟩ := hv0
  have hfT : T f = .free := by
    by_cases h : T f = .free
    · exact h
    · have := hv0.size f h; omega
  have hpT : T p = .free := by
    by_cases h : T p = .free
    · exact h
    · have := hv0.size p h
      have := k2.size
      omega
  let T1 : Tags := fun k => if k = f then .fl else if k = p ∨ k = p3 then .bx else T k
  have hflt : f < w2.heap.size := hf.lt
  have nfp : f ≠ p := by omega
  have nf3 : f ≠ p3 := by omega
  have e1 : T1 f = .fl := if_pos rfl
  have e2 : T1 p = .bx := by show (if p = f then Tag.fl else if p = p ∨ p = p3 then .bx else T p) = _; rw [if_neg (Ne.symm nfp), if_pos (.inl rfl)]
  have e3 : T1 p3 = .bx := by show (if p3 = f then Tag.fl else if p3 = p ∨ p3 = p3 then .bx else T p3) = _; rw [if_neg (Ne.symm nf3), if_pos (.inr rfl)]
  have e4 : ∀ k, k ≠ f → k ≠ p → k ≠ p3 → T1 k = T k := fun k h1 h2 h3 => by
    show (if k = f then Tag.fl else if k = p ∨ k = p3 then .bx else T k) = _
    rw [if_neg h1, if_neg (by rintro (h | h); exact h2 h; exact h3 h)]
  have hx : Ext T T1 := fun k hk => e4 k (fun e => hk (by rw [e]; exact hfT)) (fun e => hk (by rw [e]; exact hpT)) (fun e => hk (by rw [e]; exact t3))
  have hp5lt := hp5.lt
  have hf5lt := hf5.lt
  have hs5 := k05.size
  have hv1 : DiskV w5 T1 d { M with file := setFile M f ⟨[], [], []⟩ } nb lb ad ac xs := hv.ext _ (fun g hg => if_neg (fun e => by rw [e, hfT] at hg; cases hg)) hx (fun k hk => by
      by_cases h1 : k = f
      · omega
      · by_cases h2 : k = p
        · omega
        · by_cases h3 : k = p3
          · omega
          · rw [e4 k h1 h2 h3] at hk; exact hv.size k hk)
    (by rw [e4 3 (by omega) (by omega) (by omega)]; exact hv.zero)
    (fun g hg hn => by
      have hgf : g = f := by
        by_cases h1 : g = f
        · exact h1
        · exfalso
          by_cases h2 : g = p
          · rw [h2, e2] at hg; cases hg
          · by_cases h3 : g = p3
            · rw [h3, e3] at hg; cases hg
            · rw [e4 g h1 h2 h3] at hg; exact hn hg
      subst hgf
      rw [show setFile M g ⟨[], [], []⟩ g = ⟨[], [], []⟩ from if_pos rfl]
      exact ⟨⟨none, 0, none, 0, none, 0, [], ⟨hf5, Own.nil, (fun k hk => by obtain ⟨_, e, _⟩ := hk; cases e), Lies.nil, Nat.le_refl _, Own.nil, (fun k hk => by obtain ⟨_, e, _⟩ := hk; cases e), rfl, (fun x hx => by cases hx)⟩⟩, Nat.zero_le _, Nat.zero_le _⟩)
  have b35 := b3.chg k05 fun h => h
  refine rename_word (T := T1) (M := { M with file := setFile M f ⟨[], [], []⟩ }) (a := .create n f) (v := .func (.func 115) #[] #[ptr p, ptr p3]) ⟨nb, lb, ad, ac, xs, hv1⟩ ⟨p, p3, rfl, hp5, e2, b35, e3, e1⟩ trivial hl hac ?_ (put_inj hv0.ok.inj fun x hx e => by have := hv0.size x.2 (by rw [hv0.nmF x hx]; simp); omega) hlen fun T' w' hd' hT' k' => ?_
  · have h1 := sum_put (fun x => (setFile M f ⟨[], [], []⟩ x.2).now.length) n f M.names
    have h2 : (M.names.map fun x => (setFile M f ⟨[], [], []⟩ x.2).now.length).sum = usedM M := sum_congr _ _ _ fun x hx => by
      rw [show setFile M f ⟨[], [], []⟩ x.2 = M.file x.2 from if_neg fun e => by
        have := hv0.size x.2 (by rw [hv0.nmF x hx]; simp); omega]
    have h3 : (setFile M f ⟨[], [], []⟩ f).now.length = 0 := by rw [show setFile M f ⟨[], [], []⟩ f = ⟨[], [], []⟩ from if_pos rfl]; rfl
    have h4 := hv0.ok.used
    show (((Go.Sh.put n f M.names).map fun x => (setFile M f ⟨[], [], []⟩ x.2).now.length).sum) ≤ _
    simp only [h3] at h1
    omega
  · refine ⟨rfl, ?_⟩
    refine hQ T' w' f hd' (fun k hk => ?_) (Chg.trans k05 k' (fun _ _ h => h.elim) fun x hx h => ?_) (by omega)
    · rw [hT' k (by omega), e4 k (by omega) (by omega) (by omega)]
    · by_cases hxB : x < B
      · rw [Ownd, e4 x (by omega) (by omega) (by omega)] at h; exact .inl h
      · exact .inr (by omega)
theorem create_word (hd : DiskAt w T d M) (n : Str) (hn : n.length < 4611686018427387904) (hac : M.acts < 1099511627775)
    (hQ : ∀ T' w' M' r, DiskAt w' T' d M' → (∀ k, k < w.heap.size → T' k = T k) → Chg (Ownd T) w w' → actR M (createE n) (fun M2 => ∃ f, w.heap.size ≤ f ∧ M2 = createM (bump M) n f) M' r → Q (.int .i64 r) w') : C_p_disk_Disk_Create #[ptr d, strv n] w Q := by
  have hd0 := hd
  obtain ⟨nb, lb, ad, ac, xs, hv⟩ := hd0
  refine C_p_disk_Disk_Create_eq _ _ _ _ ?_
  refine alC_box fun p1 w2 b1 k2 h1 => ?_
  refine alC_box fun p3 w4 b3 k4 h3 => ?_
  have b14 := b1.chg k4 fun h => h
  have k04 := Chg.none_trans k2 k4
  have hdlt := hv.size d (by rw [hv.tag]; simp)
  have hs2 := k2.size
  have hs4 := k04.size
  refine opnP_c (b14.cell 0) ?_
  refine act_word (B := w.heap.size) (e := createE n) (P := fun M2 => ∃ f, w.heap.size ≤ f ∧ M2 = createM (bump M) n f) (hd.chg0 k04) (by omega) (fun _ Q' w1 hd1 kd h => ?_) (fun _ he Q' w1 hd1 kd h => ?_) fun T' w' M' r hd' hT' k' hr => ?_
  · show C_p_disk_Disk_Create_S1 #[ptr p3] w1 Q'
    refine C_p_disk_Disk_Create_S1_eq _ _ _ ?_
    refine opnS_c ((b3.chg kd (by omega)).cell 0) ?_
    refine named_word n hn hd1.dst fun w5 k5 => ?_
    refine opnB_c rfl ?_
    have := h w5 k5
    unfold createE at this
    cases hM : nameOk n with
    | true => rw [hM, if_pos rfl] at this; exact this
    | false => rw [hM, if_neg (by simp)] at this; exact this
  · show C_p_disk_Disk_Create_S2 #[ptr p1, ptr p3] w1 Q'
    have t3 : T p3 = .free := by
      by_cases h : T p3 = .free
      · exact h
      · have := hv.size p3 h; omega
    refine create_do (B := w.heap.size) hd1 (b14.chg kd (by omega)) (b3.chg kd (by omega)) (by omega) t3 (Nat.le_trans hs4 kd.size) hv.std.lt (show M.acts + 1 < _ by omega) (show M.loose.length < M.acts + 1 from Nat.lt_succ_of_le hv.ok.ac) (show M.loose.length < _ by have := hv.ok.ac; omega) fun T' w' f hd' hT' k' hf => ?_
    exact h T' w' _ hd' hT' k' ⟨f, hf, rfl⟩
  · refine opnI_c rfl ?_
    refine hQ T' w' M' r hd' hT' (Chg.trans k04 k' (fun _ _ h => h.elim) fun x hx h => ?_) hr
    rcases h with h | h
    · exact h
    · omega
end
end Go.Proofs.YtcigjlbpdkkflaaGreatDoor
set_option maxRecDepth 10000
namespace Go.Proofs.YtcigjlbpdkkflaaGreatDoor
open Go.Sh Go.ChangeShapes
open Go.RowKit
abbrev growsE (M : DiskM) (f at_ : Nat) (data : List UInt8) : Prop := data ≠ [] ∧ (M.file f).now.length < at_ + data.length ∧ M.room < (usedM M : Int) + ((at_ : Int) + data.length - (M.file f).now.length)
def writeE (M : DiskM) (n : Str) (at_ : Int) (data : List UInt8) : Int :=
  if thereE M n ≠ 0 then thereE M n
  else if at_ < 0 ∨ at_ > 1048576 then 1
  else match Go.Sh.look n M.names with
    | some f => if growsE M f at_.toNat data then 123 else 0
    | none => 0
theorem thereE_look {M : DiskM} {n : Str} (h : thereE M n = 0) : nameOk n = true ∧ ∃ f, Go.Sh.look n M.names = some f := by
  unfold thereE at h
  split at h
  · rename_i h1
    split at h
    · rename_i f hf; exact ⟨h1, f, hf⟩
    · cases h
  · cases h
section
variable {Q : Value → World → Prop} {w w0 : World} {T : Tags} {d : Nat} {M : DiskM}
theorem write_against {n : Str} {at_ : Int} {data : List UInt8} {p1 p3 p5 p7 : Nat} {q : Option Addr} {c : Nat} (hd : DiskAt w T d M) (hM : M.dead = false) (b1 : Blk w p1 27 [ptr d]) (b3 : Blk w p3 9 [strv n]) (b5 : Blk w p5 3 [.int .i64 at_]) (b7 : Blk w p7 24 [.slice q data.length c]) (hn : n.length < 4611686018427387904) (hdl : data.length ≤ 140737488355328)
    (hQ : ∀ w', Chg None w w' → Q (.int .i64 (writeE M n at_ data)) w') : C_p_disk_Disk_Write_S1 #[ptr p1, ptr p3, ptr p5, ptr p7] w Q := by
  refine C_p_disk_Disk_Write_S1_eq _ _ _ _ _ _ ?_
  refine opnP_c (b1.cell 0) (opnS_c (b3.cell 0) ?_)
  refine there_word hd n hn fun w4 k4 => ?_
  refine opnI_c rfl ?_
  unfold writeE at hQ
  by_cases h1 : thereE M n = 0
  · rw [if_neg (fun h => h h1)] at hQ
    rw [show (thereE M n != 0) = false by rw [h1]; rfl, cond_false]
    have b54 := b5.chg k4 fun h => h
    refine opnI_c (b54.cell 0) ?_
    by_cases h2 : at_ < 0
    · rw [decide_eq_true h2, cond_true]
      rw [if_pos (.inl h2)] at hQ
      exact N_p_disk_Disk_Write_S1.j5_eq _ _ (hQ w4 k4)
    · rw [decide_eq_false h2, cond_false]
      refine opnI_c (b54.cell 0) ?_
      by_cases h3 : at_ > 1048576
      · rw [decide_eq_true h3, cond_true]
        rw [if_pos (.inr h3)] at hQ
        exact N_p_disk_Disk_Write_S1.j5_eq _ _ (hQ w4 k4)
      · rw [decide_eq_false h3, cond_false]
        rw [if_neg (by omega)] at hQ
        obtain ⟨_, f, hf⟩ := thereE_look h1
        rw [hf] at hQ
        simp only at hQ
        obtain ⟨i, hi⟩ : ∃ i : Nat, at_ = i := ⟨at_.toNat, by omega⟩
        subst hi
        rw [Int.toNat_natCast] at hQ
        have k8 : Chg None w w4.drew := k4.drew
        refine opnI_c ((b5.chg k8 fun h => h).cell 0) (opnL_c ((b7.chg k8 fun h => h).cell 0) (opnP_c ((b1.chg k8 fun h => h).cell 0) ?_))
        rw [opnA_e]
        have hd8 := hd.chg0 k8
        obtain ⟨nb, lb, ad, ac, xs, hv⟩ := hd8
        refine opnM_c (hv.blk.rd 1 rfl) (opnS_c ((b3.chg k8 fun h => h).cell 0) ?_)
        refine map_lookup M65 K9 z72 hv.nm n ?_
        rw [look_ptrs, hf]
        refine opnP_c rfl ?_
        rw [opnA_e]
        have hfl : T f = .fl := hv.nmF (n, f) (look_mem hf)
        obtain ⟨na, nc, la, lc, wa, wc, ys, hF⟩ := hv.file f hfl
        refine opnL_c (hF.blk.rd 0 rfl) ?_
        have k19 : Chg None w w4.drew.drew := k8.drew
        refine opnL_c ((b7.chg k19 fun h => h).cell 0) ?_
        have hnow := hv.ok.now f hfl
        by_cases h4 : data = []
        · subst h4
          rw [decide_eq_false (by simp), cond_false]
          rw [if_neg (fun h => h.1 rfl)] at hQ
          exact N_p_disk_Disk_Write_S1.j9_eq _ _ (hQ _ k19)
        · have h40 : 0 < data.length := List.length_pos_iff.2 h4
          rw [decide_eq_true (by omega), cond_true, wrap_id (n := (i : Int) + (data.length : Int)) (by omega) (by omega), wrap_id (by omega) (by omega)]
          by_cases h5 : (M.file f).now.length < i + data.length
          · rw [decide_eq_true (by omega), cond_true]
            refine opnP_c ((b1.chg k19 fun h => h).cell 0) (opnP_c ((b1.chg k19 fun h => h).cell 0) ?_)
            rw [opnA_e]
            have hd19 := hd.chg0 k19
            have hd19' := hd19
            obtain ⟨nb2, lb2, ad2, ac2, xs2, hv2⟩ := hd19
            refine opnI_c (hv2.blk.rd 0 rfl) ?_
            refine used_word hd19' fun w26 k26 => ?_
            rw [hM, if_neg (by simp)]
            refine opnI_c rfl ?_
            refine ⟨opnI_c ((hv2.blk.chg k26 fun h => h).rd 0 rfl) rfl, opnP_c ((b1.chg (Chg.none_trans k19 k26) fun h => h).cell 0) rfl, ?_⟩
            have hu := hv.ok.used
            rw [wrap_id (by omega) (by omega)]
            by_cases h6 : M.room < (usedM M : Int) + ((i : Int) + data.length - (M.file f).now.length)
            · rw [decide_eq_true (by omega), cond_true]
              rw [if_pos ⟨h4, h5, h6⟩] at hQ
              exact hQ _ (Chg.none_trans k19 k26)
            · rw [decide_eq_false (by omega), cond_false]
              rw [if_neg (fun h => h6 h.2.2)] at hQ
              exact N_p_disk_Disk_Write_S1.j9_eq _ _ (hQ _ (Chg.none_trans k19 k26))
          · rw [decide_eq_false (by omega), cond_false]
            rw [if_neg (fun h => h5 h.2.1)] at hQ
            exact N_p_disk_Disk_Write_S1.j9_eq _ _ (hQ _ k19)
  · rw [if_pos h1] at hQ
    rw [show (thereE M n != 0) = true from bne_iff_ne.2 h1, cond_true]
    exact hQ w4 k4
theorem drw_e {K : World → Prop} : drw w K = K w.drew := rfl
theorem write_do {n : Str} {i : Nat} {data : List UInt8} {p1 p3 p5 p7 f : Nat} {q : Option Addr} {c : Nat} {S : Nat → Prop} (hd : DiskAt w T d M) (b1 : Blk w p1 27 [ptr d]) (b3 : Blk w p3 9 [strv n]) (b5 : Blk w p5 3 [.int .i64 (i : Int)]) (b7 : Blk w p7 24 [.slice q data.length c])
    (t1 : T p1 = .free) (t3 : T p3 = .free) (t5 : T p5 = .free) (t7 : T p7 = .free) (hq : Lies w S q (bvs data)) (hS : ∀ k, S k → T k = .free) (hf : Go.Sh.look n M.names = some f) (hg : ¬ growsE M f i data) (hi : i ≤ 1048576) (hdl : data.length ≤ 140737488355328) (hac : M.acts < 1099511627776) (hwr : M.writes < M.acts)
    (hQ : ∀ T' w', DiskAt w' T' d (writeM M n i data) → (∀ k, k < w.heap.size → T' k = T k) → Chg (Ownd T) w w' → Q (.tuple #[]) w') : C_p_disk_Disk_Write_S2 #[ptr p7, ptr p1, ptr p3, ptr p5] w Q := by
  refine C_p_disk_Disk_Write_S2_eq _ _ _ _ _ _ ?_
  refine opnL_c (b7.cell 0) ?_
  by_cases h4 : data = []
  · subst h4
    have e : writeM M n i [] = M := by unfold writeM; rw [if_pos rfl]
    rw [e] at hQ
    exact hQ T w hd (fun _ _ => rfl) (Chg.refl _ _)
  · have h40 : 0 < data.length := List.length_pos_iff.2 h4
    rw [show (((data.length : Nat) : Int) == 0) = false from beq_eq_false_iff_ne.2 (by omega), cond_false]
    obtain ⟨nb, lb, ad, ac, xs, hv⟩ := hd
    have kd : Chg None w w.drew := Chg.drew0 w
    have kdd : Chg None w w.drew.drew := kd.drew
    refine opnP_c ((b1.chg kd fun h => h).cell 0) ?_
    rw [opnA_e]
    refine opnM_c ((hv.blk.chg kd fun h => h).rd 1 rfl) (opnS_c ((b3.chg kd fun h => h).cell 0) ?_)
    refine map_lookup M65 K9 z72 (hv.nm.chg0 kd) n ?_
    rw [look_ptrs, hf]
    refine opnP_c rfl ?_
    rw [drw_e, opnA_e]
    have hfl : T f = .fl := hv.nmF (n, f) (look_mem hf)
    obtain ⟨na, nc, la, lc, wa, wc, ys, hF⟩ := hv.file f hfl
    have hnow := hv.ok.now f hfl
    have hwl := hv.ok.wl f hfl
    refine opnL_c ((hF.blk.chg kdd fun h => h).rd 0 rfl) (opnI_c ((b5.chg kdd fun h => h).cell 0) (opnL_c ((b7.chg kdd fun h => h).cell 0) ?_))
    have hdl' : data.length ≤ 1099511627776 := by
      have h5 : (M.file f).now.length ≤ usedM M := sum_mem (g := fun k => (M.file k).now.length) hf
      have h3 := hv.ok.room1
      by_cases h : (M.file f).now.length < i + data.length
      · have h2 : ¬ M.room < (usedM M : Int) + ((i : Int) + data.length - (M.file f).now.length) := fun h3 => hg ⟨h4, h, h3⟩
        omega
      · omega
    have nna : ∀ k, At na k → T k = .nw f := hF.nowT
    have nwa : ∀ k, At wa k → T k = .wl f := hF.wrT
    refine laid_word (hF.now.chg0 kdd) (hq.chg0 kdd) (fun k hk h => by have := hS k hk; rw [nna k h] at this; cases this) (by omega) (by omega) (by omega) fun a' c' w15 o15 k15 f15 => ?_
    refine opnL_c rfl ?_
    rw [opnA_e]
    have kA : Chg (At na) w w15 := Chg.trans kdd k15 (fun _ _ h => h.elim) fun _ _ h => h
    have hfb15 := hF.blk.chg kA fun h => by have := nna f h; rw [hfl] at this; cases this
    refine box_set0 hfb15 (by show (0 : Nat) < 3; decide) rfl fun w18 hb18 k18 => ?_
    have k19 : Chg (fun k => At na k ∨ k = f) w w18.drew := (Chg.trans kA k18 (fun _ _ h => Or.inl h) fun _ _ h => Or.inr h).drew
    have n19 : ∀ x t, T x = t → t ≠ .nw f → t ≠ .fl → ¬ (At na x ∨ x = f) := fun x t hx h1 h2 h => by
      rcases h with h | h
      · exact h1 (hx.symm.trans (nna x h))
      · subst h; exact h2 (hx.symm.trans hfl)
    rw [drw_e, opnA_e]
    have hb19 : Blk0 w18.drew f 114 _ := hb18.chg (Chg.drew0 (D := None) w18) fun h => h
    refine opnL_c (hb19.rd 2 rfl) ?_
    have b1' := b1.chg k19 (n19 p1 _ t1 (by simp) (by simp))
    have b5' := b5.chg k19 (n19 p5 _ t5 (by simp) (by simp))
    have b7' := b7.chg k19 (n19 p7 _ t7 (by simp) (by simp))
    have hdb := hv.blk.chg k19 (n19 d _ hv.tag (by simp) (by simp))
    refine opnP_c (b1'.cell 0) ?_
    rw [opnA_e]
    refine opnI_c (hdb.rd 4 rfl) (opnI_c (b5'.cell 0) (opnL_c (b7'.cell 0) ?_))
    have hq19 := hq.chg k19 fun k _ hk => n19 k _ (hS k hk) (by simp) (by simp)
    refine clone_word hq19 (by omega) fun ca cc w28 o28 f28 k28 => ?_
    refine opnL_c rfl ?_
    refine ⟨opnI_c ((b5'.chg k28 fun h => h).cell 0) rfl, opnI_c ((hdb.chg k28 fun h => h).rd 4 rfl) rfl, opnP_c ((b1'.chg k28 fun h => h).cell 0) rfl, opnL_c ((hb19.chg k28 fun h => h).rd 2 rfl) rfl, ?_⟩
    show (opnL ((w28.alloc (.cells (wrCells (⟨M.writes, i, data⟩, ca, cc)).toArray 187)).cell? _) _) ∧ _
    have k35 : Chg None w28 (w28.alloc (.cells (wrCells (⟨M.writes, i, data⟩, ca, cc)).toArray 187)) := chg_alloc _ _
    have k1935 := Chg.none_trans k28 k35
    refine ⟨opnL_c ((hb19.chg k1935 fun h => h).rd 2 rfl) rfl, ?_⟩
    have nwaf : ∀ x, At wa x → ¬ (At na x ∨ x = f) := fun x hx => n19 x _ (nwa x hx) (by simp) (by simp)
    have hwa35 := (hF.wr.chg k19 nwaf).chg0 k1935
    refine append_own T73 hwa35 (src_two (vs := wrCells (⟨M.writes, i, data⟩, ca, cc)) (n := 1) (c := 1) (sz := 3) Tryz.underlying112 rfl (fun u hu => by
      simp only [wrCells, List.mem_cons, List.not_mem_nil, or_false] at hu
      rcases hu with rfl | rfl | rfl <;> rfl)) (by simp [maxLen]; omega) (by omega) fun wa' wc' w38 o38 k38 f38 => ?_
    refine opnL_c rfl ?_
    rw [opnA_e]
    have k1938 : Chg (At wa) w18.drew w38 := Chg.trans k1935 k38 (fun _ _ h => h.elim) fun _ _ h => h
    have nf : ¬ At wa f := fun h => by have := nwa f h; rw [hfl] at this; cases this
    have ndw : ¬ At wa d := fun h => by have := nwa d h; rw [hv.tag] at this; cases this
    refine box_set0 (hb19.chg k1938 nf) (by show (2 : Nat) < 3; decide) rfl fun w41 hb41 k41 => ?_
    have ne1 : p1 ≠ f := fun e => by rw [e, hfl] at t1; cases t1
    have nwp1 : ¬ At wa p1 := fun h => by have := nwa p1 h; rw [t1] at this; cases this
    refine opnP_c (((b1'.chg k1938 nwp1).chg k41 ne1).cell 0) ?_
    rw [opnA_e]
    have ndf : d ≠ f := fun e => by have := hv.tag; rw [e, hfl] at this; cases this
    have hdb41 := (hdb.chg k1938 ndw).chg k41 ndf
    refine opnI_c (hdb41.rd 4 rfl) ?_
    rw [opnA_e]
    refine box_set hdb41 (by show (4 : Nat) < 9; decide) rfl fun w46 hb46 k46 => ?_
    -- what has changed
    have k1941 : Chg (fun k => At wa k ∨ k = f) w18.drew w41 := Chg.trans k1938 k41 (fun _ _ h => Or.inl h) fun _ _ h => Or.inr h
    have kall : Chg (fun k => ((At na k ∨ k = f) ∨ At wa k) ∨ k = d) w w46 := Chg.trans (Chg.trans (E := fun k => (At na k ∨ k = f) ∨ At wa k) k19 k1941 (fun _ _ h => Or.inl h) fun x _ h => h.elim Or.inr fun h => Or.inl (Or.inr h)) k46 (fun _ _ h => Or.inl h) fun _ _ h => Or.inr h
    have ndall : ∀ x t, T x = t → t ≠ .nw f → t ≠ .fl → t ≠ .wl f → t ≠ .dk → ¬ (((At na x ∨ x = f) ∨ At wa x) ∨ x = d) := fun x t hx h1 h2 h3 h5 h => by
      rcases h with (h | h) | h
      · exact n19 x t hx h1 h2 h
      · exact h3 (hx.symm.trans (nwa x h))
      · subst h; exact h5 (hx.symm.trans hv.tag)
    have ndflo : ∀ g, T g = .fl → g ≠ f → ¬ (((At na g ∨ g = f) ∨ At wa g) ∨ g = d) := fun g hg hne h => by
      rcases h with ((h | h) | h) | h
      · have := nna g h; rw [hg] at this; cases this
      · exact hne h
      · have := nwa g h; rw [hg] at this; cases this
      · rw [h, hv.tag] at hg; cases hg
    have hs15 : w.heap.size ≤ w15.heap.size := kA.size
    have hs19 : w.heap.size ≤ w18.drew.heap.size := k19.size
    have hs1519 : w15.heap.size ≤ w18.drew.heap.size := (k18.drew).size
    have hs28 := k28.size
    have hs35 := k35.size
    have hs3846 : w38.heap.size ≤ w46.heap.size := Nat.le_trans k41.size k46.size
    have hsall := kall.size
    -- where the new slices lie
    have la' : ∀ k, At a' k → (T k = .nw f ∧ k < w.heap.size) ∨ (w.heap.size ≤ k ∧ k < w15.heap.size) := fun k hk => by
      have hlt := o15.lt hk
      rcases f15 k hk with h | h
      · exact .inl ⟨nna k h, hv.size k (by rw [nna k h]; simp)⟩
      · exact .inr ⟨h, hlt⟩
    have lc' : ∀ k, At ca k → w18.drew.heap.size ≤ k ∧ k < w28.heap.size := fun k hk => ⟨f28 k hk, o28.lt hk⟩
    have lw' : ∀ k, At wa' k → (T k = .wl f ∧ k < w.heap.size) ∨ (w28.heap.size ≤ k ∧ k < w38.heap.size) := fun k hk => by
      rcases f38 with e | ⟨b, e, hb⟩
      · subst e; exact .inl ⟨nwa k hk, hv.size k (by rw [nwa k hk]; simp)⟩
      · have hlt := o38.lt hk
        subst e; obtain ⟨p, e, rfl⟩ := hk; cases e; exact .inr ⟨Nat.le_trans hs35 hb, hlt⟩
    classical
    let T' : Tags := fun k => if At a' k then .nw f else if At ca k then .dt else if At wa' k then .wl f else T k
    have ea : ∀ k, At a' k → T' k = .nw f := fun k hk => if_pos hk
    have ec : ∀ k, At ca k → T' k = .dt := fun k hk => by
      have h1 : ¬ At a' k := fun h => by have := lc' k hk; rcases la' k h with h | h <;> omega
      show (if At a' k then Tag.nw f else if At ca k then .dt else if At wa' k then .wl f else T k) = _
      rw [if_neg h1, if_pos hk]
    have ew : ∀ k, At wa' k → T' k = .wl f := fun k hk => by
      have h1 : ¬ At a' k := fun h => by
        rcases lw' k hk with h2 | h2
        · rcases la' k h with h | h
          · rw [h2.1] at h; cases h.1
          · omega
        · rcases la' k h with h | h <;> omega
      have h2 : ¬ At ca k := fun h => by have := lc' k h; rcases lw' k hk with h2 | h2 <;> omega
      show (if At a' k then Tag.nw f else if At ca k then .dt else if At wa' k then .wl f else T k) = _
      rw [if_neg h1, if_neg h2, if_pos hk]
    have eo : ∀ k, ¬ At a' k → ¬ At ca k → ¬ At wa' k → T' k = T k := fun k h1 h2 h3 => by
      show (if At a' k then Tag.nw f else if At ca k then .dt else if At wa' k then .wl f else T k) = _
      rw [if_neg h1, if_neg h2, if_neg h3]
    have hT' : ∀ k, k < w.heap.size → T' k = T k := fun k hk => by
      by_cases h1 : At a' k
      · rw [ea k h1]
        rcases la' k h1 with h | h
        · exact h.1.symm
        · omega
      · by_cases h2 : At ca k
        · have := lc' k h2; omega
        · by_cases h3 : At wa' k
          · rw [ew k h3]
            rcases lw' k h3 with h | h
            · exact h.1.symm
            · omega
          · exact eo k h1 h2 h3
    have hext : Ext T T' := fun k hk => hT' k (hv.size k hk)
    have hfl' : ∀ k, T' k = .fl → T k = .fl := fun k hk => by
      by_cases h1 : At a' k
      · rw [ea k h1] at hk; cases hk
      · by_cases h2 : At ca k
        · rw [ec k h2] at hk; cases hk
        · by_cases h3 : At wa' k
          · rw [ew k h3] at hk; cases hk
          · rwa [eo k h1 h2 h3] at hk
    have hM' : writeM M n i data = { M with file := setFile M f ⟨laidB (M.file f).now i data, (M.file f).lasts, (M.file f).loose ++ [⟨M.writes, i, data⟩]⟩, writes := M.writes + 1 } := by
      unfold writeM; rw [if_neg h4, hf]
    have hff : (writeM M n i data).file f = ⟨laidB (M.file f).now i data, (M.file f).lasts, (M.file f).loose ++ [⟨M.writes, i, data⟩]⟩ := by rw [hM']; exact if_pos rfl
    have hfo : ∀ g, g ≠ f → (writeM M n i data).file g = M.file g := fun g hg => by rw [hM']; exact if_neg hg
    have hll := laidB_len (M.file f).now i h4
    have hmem := sum_mem (g := fun k => (M.file k).now.length) hf
    have hroom : (laidB (M.file f).now i data).length ≤ 1099511627776 := by
      rw [hll]
      by_cases h : (M.file f).now.length < i + data.length
      · have h2 : ¬ M.room < (usedM M : Int) + ((i : Int) + data.length - (M.file f).now.length) := fun h3 => hg ⟨h4, h, h3⟩
        have h3 := hv.ok.room1
        have h5 : (M.file f).now.length ≤ usedM M := hmem
        omega
      · omega
    have hused : usedM (writeM M n i data) ≤ 1152921504606846976 := by
      have h1 := sum_set (fun k => (M.file k).now.length) (fun k => ((writeM M n i data).file k).now.length) (fun k hk => by show ((writeM M n i data).file k).now.length = _; rw [hfo k hk]) hv.ok.inj hf
      have h2 : usedM (writeM M n i data) = (M.names.map fun x => ((writeM M n i data).file x.2).now.length).sum := by rw [hM']; rfl
      rw [hff] at h1
      rw [h2]
      have h3 : (M.names.map fun x => (M.file x.2).now.length).sum = usedM M := rfl
      have h5 := hv.ok.used
      have h6 := hv.ok.room1
      have h7 : (M.file f).now.length ≤ usedM M := hmem
      simp only at h1
      by_cases h : (M.file f).now.length < i + data.length
      · have h8 : ¬ M.room < (usedM M : Int) + ((i : Int) + data.length - (M.file f).now.length) := fun h3 => hg ⟨h4, h, h3⟩
        omega
      · omega
    have k1546 : Chg (fun k => (k = f ∨ At wa k) ∨ k = d) w15 w46 := Chg.trans (Chg.trans (E := fun k => k = f ∨ At wa k) k18.drew k1941 (fun _ _ h => Or.inl h) fun _ _ h => h.elim Or.inr Or.inl) k46 (fun _ _ h => Or.inl h) fun _ _ h => Or.inr h
    have k2846 : Chg (fun k => (At wa k ∨ k = f) ∨ k = d) w28 w46 := Chg.trans (Chg.trans (Chg.trans k35 k38 (fun _ _ h => h.elim) fun _ _ h => h) (E := fun k => At wa k ∨ k = f) k41 (fun _ _ h => Or.inl h) fun _ _ h => Or.inr h) k46 (fun _ _ h => Or.inl h) fun _ _ h => Or.inr h
    have hflt : f < w.heap.size := hv.size f (by rw [hfl]; simp)
    have hdlt : d < w.heap.size := hv.size d (by rw [hv.tag]; simp)
    have hwalt : ∀ k, At wa k → k < w.heap.size := fun k hk => hv.size k (by rw [nwa k hk]; simp)
    have hF' : FileV w46 T' f ((writeM M n i data).file f) a' c' la lc wa' wc' (ys ++ [(⟨M.writes, i, data⟩, ca, cc)]) := by
      rw [hff]
      exact {
        blk := by
          have e : (([.slice na (M.file f).now.length nc, .slice la (M.file f).lasts.length lc, .slice wa (M.file f).loose.length wc] : List Value).set 0 (.slice a' (laidB (M.file f).now i data).length c')).set 2 (.slice wa' ((M.file f).loose.length + 1) wc') = [.slice a' (laidB (M.file f).now i data).length c', .slice la (M.file f).lasts.length lc, .slice wa' ((M.file f).loose ++ [(⟨M.writes, i, data⟩ : WrM)]).length wc'] := by
            rw [List.length_append]; rfl
          show Blk0 w46 f 114 [.slice a' (laidB (M.file f).now i data).length c', .slice la (M.file f).lasts.length lc, .slice wa' ((M.file f).loose ++ [(⟨M.writes, i, data⟩ : WrM)]).length wc']
          rw [← e]
          exact hb41.chg k46 (Ne.symm ndf)
        now := o15.chg k1546 fun k hk h => by
          have := la' k hk
          rcases h with (h | h) | h
          · subst h
            rcases this with h | h
            · rw [hfl] at h; cases h.1
            · omega
          · rcases this with h2 | h2
            · rw [nwa k h] at h2; cases h2.1
            · have := hwalt k h; omega
          · subst h
            rcases this with h | h
            · rw [hv.tag] at h; cases h.1
            · omega
        nowT := ea
        lasts := (hF.lasts.chg kall fun k _ hk => ndall k _ hk (by simp) (by simp) (by simp) (by simp)).mono fun k hk => hext.at hk (by simp)
        lastsC := hF.lastsC
        wr := by
          have e : (ys ++ [((⟨M.writes, i, data⟩ : WrM), ca, cc)]).flatMap wrCells = ys.flatMap wrCells ++ wrCells (⟨M.writes, i, data⟩, ca, cc) := by simp
          show Own w46 187 3 wa' ((M.file f).loose ++ [(⟨M.writes, i, data⟩ : WrM)]).length wc' _
          rw [e, List.length_append]
          refine (o38.chg k41 fun k hk h => ?_).chg k46 fun k hk h => ?_
          · subst h
            rcases lw' k hk with h | h
            · rw [hfl] at h; cases h.1
            · omega
          · subst h
            rcases lw' k hk with h | h
            · rw [hv.tag] at h; cases h.1
            · omega
        wrT := ew
        xsm := by simp [hF.xsm]
        dat := fun x hx => by
          rcases List.mem_append.1 hx with h | h
          · exact ⟨((hF.dat x h).1.chg kall fun k _ hk => ndall k _ hk (by simp) (by simp) (by simp) (by simp)).mono fun k hk => hext.at hk (by simp), (hF.dat x h).2⟩
          · rw [List.mem_singleton.1 h]
            refine ⟨(o28.lies.chg k2846 fun k _ hk h => ?_).mono fun k hk => ec k hk, o28.le⟩
            have := lc' k hk
            rcases h with (h | h) | h
            · have := hwalt k h; omega
            · omega
            · omega }
    refine hQ T' w46 ⟨nb, lb, ad, ac, xs, ?_⟩ hT' (kall.mono fun x _ hx => ?_)
    · exact {
        size := fun k hk => by
          by_cases h1 : At a' k
          · have := k1546.size
            rcases la' k h1 with h | h <;> omega
          · by_cases h2 : At ca k
            · have := lc' k h2
              have := k2846.size; omega
            · by_cases h3 : At wa' k
              · rcases lw' k h3 with h | h <;> omega
              · rw [eo k h1 h2 h3] at hk; exact Nat.lt_of_lt_of_le (hv.size k hk) hsall
        zero := by rw [hT' 3 hv.std.lt]; exact hv.zero
        std := hv.std.chg kall (ndall 3 _ hv.zero (by simp) (by simp) (by simp) (by simp))
        tag := hext.at hv.tag (by simp)
        blk := by
          have e : (dcells M nb lb ad ac).set 4 (.int .i64 (IntKind.wrap .i64 ((M.writes : Int) + 1))) = dcells (writeM M n i data) nb lb ad ac := by
            rw [wrap_nat (by omega), hM']; rfl
          rw [← e]; exact hb46
        nmT := hext.at hv.nmT (by simp)
        nm := by
          have e : (writeM M n i data).names = M.names := by rw [hM']
          rw [e]
          exact hv.nm.chg kall (ndall nb _ hv.nmT (by simp) (by simp) (by simp) (by simp))
        laT := hext.at hv.laT (by simp)
        la := by
          have e : (writeM M n i data).lasting = M.lasting := by rw [hM']
          rw [e]
          exact hv.la.chg kall (ndall lb _ hv.laT (by simp) (by simp) (by simp) (by simp))
        acO := by
          have e : (writeM M n i data).loose = M.loose := by rw [hM']
          rw [e]
          exact hv.acO.chg kall fun k hk => ndall k _ (hv.acT k hk) (by simp) (by simp) (by simp) (by simp)
        acT := fun k hk => hext.at (hv.acT k hk) (by simp)
        xsm := by rw [hM']; exact hv.xsm
        acts := fun x hx => (hv.acts x hx).chg kall hext fun y hy => ndall y _ hy (by simp) (by simp) (by simp) (by simp)
        file := fun g hg => by
          by_cases h : g = f
          · subst h; exact ⟨_, _, _, _, _, _, _, hF'⟩
          · rw [hfo g h]
            exact (hv.file g (hfl' g hg)).chg kall hext (ndflo g (hfl' g hg) h) (fun y hy => ndall y _ hy (by simpa using h) (by simp) (by simp) (by simp)) (fun y hy => ndall y _ hy (by simp) (by simp) (by simpa using h) (by simp)) (fun y hy => ndall y _ hy (by simp) (by simp) (by simp) (by simp))
        nmF := fun x hx => by
          have e : (writeM M n i data).names = M.names := by rw [hM']
          rw [e] at hx
          exact hext.at (hv.nmF x hx) (by simp)
        laF := fun x hx => by
          have e : (writeM M n i data).lasting = M.lasting := by rw [hM']
          rw [e] at hx
          exact hext.at (hv.laF x hx) (by simp)
        ok := by
          refine ⟨by rw [hM']; exact hv.ok.room0, by rw [hM']; exact hv.ok.room1, fun g hg => ?_, fun g hg => ?_, by rw [hM']; exact hv.ok.ac, by rw [hM']; exact hwr, hused, by rw [hM']; exact hv.ok.strike, by rw [hM']; exact hv.ok.inj⟩
          · by_cases h : g = f
            · subst h; rw [hff]; exact hroom
            · rw [hfo g h]; exact hv.ok.now g (hfl' g hg)
          · have e : (writeM M n i data).writes = M.writes + 1 := by rw [hM']
            rw [e]
            by_cases h : g = f
            · subst h; rw [hff]
              show ((M.file g).loose ++ [_]).length ≤ _
              rw [List.length_append]
              exact Nat.succ_le_succ hwl
            · rw [hfo g h]; exact Nat.le_succ_of_le (hv.ok.wl g (hfl' g hg)) }
    · rcases hx with ((hx | hx) | hx) | hx
      · rw [Ownd, nna x hx]; simp
      · rw [hx, Ownd, hfl]; simp
      · rw [Ownd, nwa x hx]; simp
      · rw [hx, Ownd, hv.tag]; simp
end
end Go.Proofs.YtcigjlbpdkkflaaGreatDoor
set_option maxRecDepth 10000
namespace Go.Proofs.YtcigjlbpdkkflaaGreatDoor
open Go.Sh Go.ChangeShapes
open Go.RowKit
section
variable {Q : Value → World → Prop} {w w0 : World} {T : Tags} {d : Nat} {M : DiskM}
theorem DiskV.free {nb lb : Nat} {ad : Option Addr} {ac : Nat} {xs : List (ActM × Value)} (h : DiskV w T d M nb lb ad ac xs) {k : Nat} (hk : w.heap.size ≤ k) : T k = .free := by
  by_cases e : T k = .free
  · exact e
  · have := h.size k e; omega
theorem write_word (hd : DiskAt w T d M) (n : Str) (hn : n.length < 4611686018427387904) (at_ : Int) {q : Option Addr} {c : Nat} {data : List UInt8} {S : Nat → Prop} (hq : Lies w S q (bvs data)) (hS : ∀ k, S k → T k = .free) (hdl : data.length ≤ 140737488355328) (hac : M.acts < 1099511627775)
    (hQ : ∀ T' w' M' r, DiskAt w' T' d M' → (∀ k, k < w.heap.size → T' k = T k) → Chg (Ownd T) w w' → actR M (writeE M n at_ data) (fun M2 => M2 = writeM (bump M) n at_.toNat data) M' r → Q (.int .i64 r) w') : C_p_disk_Disk_Write #[ptr d, strv n, .int .i64 at_, .slice q data.length c] w Q := by
  have hd0 := hd
  obtain ⟨nb, lb, ad, ac, xs, hv⟩ := hd0
  refine C_p_disk_Disk_Write_eq _ _ _ _ _ _ _ _ ?_
  refine alC_box fun p1 w2 b1 k2 h1 => ?_
  refine alC_box fun p3 w4 b3 k4 h3 => ?_
  refine alC_box fun p5 w6 b5 k6 h5 => ?_
  refine alC_box fun p7 w8 b7 k8 h7 => ?_
  have hs2 := k2.size
  have hs4 := k4.size
  have hs6 := k6.size
  have hs8 := k8.size
  have k68 := Chg.none_trans k6 k8
  have k48 := Chg.none_trans k4 k68
  have k08 := Chg.none_trans k2 k48
  have b18 := b1.chg k48 fun h => h
  have b38 := b3.chg k68 fun h => h
  have b58 := b5.chg k8 fun h => h
  have hdlt := hv.size d (by rw [hv.tag]; simp)
  refine opnP_c (b18.cell 0) ?_
  refine act_word (B := w.heap.size) (e := writeE M n at_ data) (P := fun M2 => M2 = writeM (bump M) n at_.toNat data) (hd.chg0 k08) (by omega) (fun hM Q' w1 hd1 kd h => ?_) (fun hM he Q' w1 hd1 kd h => ?_) fun T' w' M' r hd' hT' k' hr => ?_
  · show C_p_disk_Disk_Write_S1 #[ptr p1, ptr p3, ptr p5, ptr p7] w1 Q'
    exact write_against (M := bump M) hd1 hM (b18.chg kd (by omega)) (b38.chg kd (by omega)) (b58.chg kd (by omega)) (b7.chg kd (by omega)) hn hdl h
  · show C_p_disk_Disk_Write_S2 #[ptr p7, ptr p1, ptr p3, ptr p5] w1 Q'
    have he' := he
    unfold writeE at he'
    by_cases h1t : thereE M n = 0
    · rw [if_neg (fun h => h h1t)] at he'
      by_cases h2 : at_ < 0 ∨ at_ > 1048576
      · rw [if_pos h2] at he'; cases he'
      · rw [if_neg h2] at he'
        obtain ⟨_, f, hf⟩ := thereE_look h1t
        rw [hf] at he'
        simp only at he'
        have hg : ¬ growsE (bump M) f at_.toNat data := fun h => by
          rw [if_pos (show growsE M f at_.toNat data from h)] at he'; cases he'
        have hat : at_ = (at_.toNat : Int) := by omega
        have b5' := b58.chg kd (by omega)
        rw [hat] at b5'
        refine write_do (M := bump M) (S := S) hd1 (b18.chg kd (by omega)) (b38.chg kd (by omega)) b5' (b7.chg kd (by omega)) (hv.free (by omega)) (hv.free (by omega)) (hv.free (by omega)) (hv.free (by omega)) ((hq.chg0 k08).chg kd fun k _ hk e => ?_) hS hf hg (by omega) hdl (show M.acts + 1 < _ by omega) (show M.writes < M.acts + 1 from Nat.lt_succ_of_le hv.ok.wr) fun T' w' hd' hT' k' => ?_
        · have := hS k hk; rw [e, hv.tag] at this; cases this
        · have hs1 := kd.size
          have hs := k08.size
          exact h T' w' _ hd' (fun k hk => hT' k (by omega)) (k'.mono fun _ _ h => .inl h) rfl
    · rw [if_pos h1t] at he'; exact absurd he' h1t
  · refine opnI_c rfl ?_
    refine hQ T' w' M' r hd' hT' (Chg.trans k08 k' (fun _ _ h => h.elim) fun x hx h => ?_) hr
    rcases h with h | h
    · exact h
    · omega
theorem sync_do {n : Str} {p1 p3 f : Nat} (hd : DiskAt w T d M) (b1 : Blk w p1 27 [ptr d]) (b3 : Blk w p3 9 [strv n]) (hf : Go.Sh.look n M.names = some f)
    (hQ : ∀ T' w', DiskAt w' T' d (syncM M n) → (∀ k, k < w.heap.size → T' k = T k) → Chg (Ownd T) w w' → Q (.tuple #[]) w') : C_p_disk_Disk_Sync_S2 #[ptr p1, ptr p3] w Q := by
  refine C_p_disk_Disk_Sync_S2_eq _ _ _ _ ?_
  rw [drw_e]
  have kd : Chg None w w.drew := Chg.drew0 w
  obtain ⟨nb, lb, ad, ac, xs, hv⟩ := hd
  refine opnP_c ((b1.chg kd fun h => h).cell 0) ?_
  rw [opnA_e]
  refine opnM_c ((hv.blk.chg kd fun h => h).rd 1 rfl) (opnS_c ((b3.chg kd fun h => h).cell 0) ?_)
  refine map_lookup M65 K9 z72 (hv.nm.chg0 kd) n ?_
  rw [look_ptrs, hf]
  refine opnP_c rfl ?_
  rw [opnA_e]
  have hfl : T f = .fl := hv.nmF (n, f) (look_mem hf)
  obtain ⟨na, nc, la, lc, wa, wc, ys, hF⟩ := hv.file f hfl
  have hnow := hv.ok.now f hfl
  have hfb := hF.blk.chg kd fun h => h
  refine opnL_c (hfb.rd 0 rfl) ?_
  refine clone_word ((hF.now.chg0 kd).lies) (by omega) fun ca cc w11 o11 f11 k11 => ?_
  refine opnL_c rfl ?_
  rw [opnA_e]
  refine box_set0 (hfb.chg k11 fun h => h) (by show (1 : Nat) < 3; decide) rfl fun w14 hb14 k14 => ?_
  rw [opnA_e]
  refine box_set0 hb14 (by show (2 : Nat) < 3; decide) rfl fun w16 hb16 k16 => ?_
  have k0 : Chg None w w11 := Chg.none_trans kd k11
  have k1116 : Chg (fun k => k = f) w11 w16 := Chg.trans k14 k16 (fun _ _ h => h) fun _ _ h => h
  have kall : Chg (fun k => k = f) w w16 := Chg.trans k0 k1116 (fun _ _ h => h.elim) fun _ _ h => h
  have nf : ∀ x t, T x = t → t ≠ .fl → x ≠ f := fun x t hx ht e => by subst e; exact ht (hx.symm.trans hfl)
  have lc' : ∀ k, At ca k → w.heap.size ≤ k ∧ k < w11.heap.size := fun k hk => ⟨f11 k hk, o11.lt hk⟩
  have hs11 := k1116.size
  have hflt := hv.size f (by rw [hfl]; simp)
  classical
  let T' : Tags := fun k => if At ca k then .dt else T k
  have ec : ∀ k, At ca k → T' k = .dt := fun k hk => if_pos hk
  have eo : ∀ k, ¬ At ca k → T' k = T k := fun k hk => if_neg hk
  have hT' : ∀ k, k < w.heap.size → T' k = T k := fun k hk => eo k fun h => by have := lc' k h; omega
  have hext : Ext T T' := fun k hk => hT' k (hv.size k hk)
  have hfl' : ∀ k, T' k = .fl → T k = .fl := fun k hk => by
    by_cases h : At ca k
    · rw [ec k h] at hk; cases hk
    · rwa [eo k h] at hk
  have hM' : syncM M n = { M with file := setFile M f ⟨(M.file f).now, (M.file f).now, []⟩ } := by unfold syncM; rw [hf]
  have hff : (syncM M n).file f = ⟨(M.file f).now, (M.file f).now, []⟩ := by rw [hM']; exact if_pos rfl
  have hfo : ∀ g, g ≠ f → (syncM M n).file g = M.file g := fun g hg => by rw [hM']; exact if_neg hg
  have hF' : FileV w16 T' f ((syncM M n).file f) na nc ca cc none 0 [] := by
    rw [hff]
    exact {
      blk := hb16
      now := hF.now.chg kall fun k hk => nf k _ (hF.nowT k hk) (by simp)
      nowT := fun k hk => hext.at (hF.nowT k hk) (by simp)
      lasts := (o11.lies.chg k1116 fun k _ hk e => by have := lc' k hk; omega).mono fun k hk => ec k hk
      lastsC := o11.le
      wr := Own.nil
      wrT := fun k hk => by obtain ⟨_, e, _⟩ := hk; cases e
      xsm := rfl
      dat := fun x hx => by cases hx }
  have eu : usedM (syncM M n) = usedM M := by
    refine usedM_congr (by rw [hM']) fun x hx => ?_
    by_cases h : x.2 = f
    · rw [h, hff]
    · rw [hfo x.2 h]
  have e1 : (syncM M n).names = M.names := by rw [hM']
  have e2 : (syncM M n).lasting = M.lasting := by rw [hM']
  have e3 : (syncM M n).loose = M.loose := by rw [hM']
  refine hQ T' w16 ⟨nb, lb, ad, ac, xs, ?_⟩ hT' (kall.mono fun x _ hx => by rw [hx, Ownd, hfl]; simp)
  exact {
    size := fun k hk => by
      by_cases h : At ca k
      · have := lc' k h; omega
      · rw [eo k h] at hk; exact Nat.lt_of_lt_of_le (hv.size k hk) kall.size
    zero := by rw [hT' 3 hv.std.lt]; exact hv.zero
    std := hv.std.chg kall (nf 3 _ hv.zero (by simp))
    tag := hext.at hv.tag (by simp)
    blk := by
      have e : dcells (syncM M n) nb lb ad ac = dcells M nb lb ad ac := by rw [hM']; rfl
      rw [e]; exact hv.blk.chg kall (nf d _ hv.tag (by simp))
    nmT := hext.at hv.nmT (by simp)
    nm := by rw [e1]; exact hv.nm.chg kall (nf nb _ hv.nmT (by simp))
    laT := hext.at hv.laT (by simp)
    la := by rw [e2]; exact hv.la.chg kall (nf lb _ hv.laT (by simp))
    acO := by rw [e3]; exact hv.acO.chg kall fun k hk => nf k _ (hv.acT k hk) (by simp)
    acT := fun k hk => hext.at (hv.acT k hk) (by simp)
    xsm := by rw [e3]; exact hv.xsm
    acts := fun x hx => (hv.acts x hx).chg kall hext fun y hy => nf y _ hy (by simp)
    file := fun g hg => by
      by_cases h : g = f
      · subst h; exact ⟨_, _, _, _, _, _, _, hF'⟩
      · rw [hfo g h]
        exact (hv.file g (hfl' g hg)).chg kall hext h (fun y hy => nf y _ hy (by simp)) (fun y hy => nf y _ hy (by simp)) (fun y hy => nf y _ hy (by simp))
    nmF := fun x hx => by rw [e1] at hx; exact hext.at (hv.nmF x hx) (by simp)
    laF := fun x hx => by rw [e2] at hx; exact hext.at (hv.laF x hx) (by simp)
    ok := by
      refine ⟨by rw [hM']; exact hv.ok.room0, by rw [hM']; exact hv.ok.room1, fun g hg => ?_, fun g hg => ?_, by rw [hM']; exact hv.ok.ac, by rw [hM']; exact hv.ok.wr, by rw [eu]; exact hv.ok.used, by rw [hM']; exact hv.ok.strike, by rw [e1]; exact hv.ok.inj⟩
      · by_cases h : g = f
        · subst h; rw [hff]; exact hnow
        · rw [hfo g h]; exact hv.ok.now g (hfl' g hg)
      · have e : (syncM M n).writes = M.writes := by rw [hM']
        rw [e]
        by_cases h : g = f
        · subst h; rw [hff]; exact Nat.zero_le _
        · rw [hfo g h]; exact hv.ok.wl g (hfl' g hg) }
theorem sync_word (hd : DiskAt w T d M) (n : Str) (hn : n.length < 4611686018427387904) (hac : M.acts < 1099511627775)
    (hQ : ∀ T' w' M' r, DiskAt w' T' d M' → (∀ k, k < w.heap.size → T' k = T k) → Chg (Ownd T) w w' → actR M (thereE M n) (fun M2 => M2 = syncM (bump M) n) M' r → Q (.int .i64 r) w') : C_p_disk_Disk_Sync #[ptr d, strv n] w Q := by
  have hd0 := hd
  obtain ⟨nb, lb, ad, ac, xs, hv⟩ := hd0
  refine C_p_disk_Disk_Sync_eq _ _ _ _ ?_
  refine alC_box fun p1 w2 b1 k2 h1 => ?_
  refine alC_box fun p3 w4 b3 k4 h3 => ?_
  have b14 := b1.chg k4 fun h => h
  have k04 := Chg.none_trans k2 k4
  have hdlt := hv.size d (by rw [hv.tag]; simp)
  have hs2 := k2.size
  have hs4 := k04.size
  refine opnP_c (b14.cell 0) ?_
  refine act_word (B := w.heap.size) (e := thereE M n) (P := fun M2 => M2 = syncM (bump M) n) (hd.chg0 k04) (by omega) (fun _ Q' w1 hd1 kd h => ?_) (fun _ he Q' w1 hd1 kd h => ?_) fun T' w' M' r hd' hT' k' hr => ?_
  · show C_p_disk_Disk_Sync_S1 #[ptr p1, ptr p3] w1 Q'
    refine C_p_disk_Disk_Sync_S1_eq _ _ _ _ ?_
    refine opnP_c ((b14.chg kd (by omega)).cell 0) (opnS_c ((b3.chg kd (by omega)).cell 0) ?_)
    refine there_word hd1 n hn fun w5 k5 => ?_
    exact opnI_c rfl (h w5 k5)
  · show C_p_disk_Disk_Sync_S2 #[ptr p1, ptr p3] w1 Q'
    obtain ⟨_, f, hf⟩ := thereE_look he
    refine sync_do (M := bump M) hd1 (b14.chg kd (by omega)) (b3.chg kd (by omega)) hf fun T' w' hd' hT' k' => ?_
    have hs1 := kd.size
    exact h T' w' _ hd' (fun k hk => hT' k (by omega)) (k'.mono fun _ _ h => .inl h) rfl
  · refine opnI_c rfl ?_
    refine hQ T' w' M' r hd' hT' (Chg.trans k04 k' (fun _ _ h => h.elim) fun x hx h => ?_) hr
    rcases h with h | h
    · exact h
    · omega
def readE (M : DiskM) (n : Str) : Int := if M.dead = true then 125 else thereE M n
def readB (M : DiskM) (n : Str) : List UInt8 := if M.dead = true then [] else if thereE M n = 0 then (match Go.Sh.look n M.names with | some f => (M.file f).now | none => []) else []
theorem read_word (hd : DiskAt w T d M) (n : Str) (hn : n.length < 4611686018427387904)
    (hQ : ∀ a c w', Own w' 5 1 a (readB M n).length c (bvs (readB M n)) → (∀ k, At a k → w.heap.size ≤ k) → Chg None w w' → Q (.tuple #[.slice a (readB M n).length c, .int .i64 (readE M n)]) w') : C_p_disk_Disk_Read #[ptr d, strv n] w Q := by
  have hd0 := hd
  obtain ⟨nb, lb, ad, ac, xs, hv⟩ := hd0
  refine C_p_disk_Disk_Read_eq _ _ _ _ ?_
  rw [opnA_e]
  refine opnB_c (hv.blk.rd 8 rfl) ?_
  cases hM : M.dead with
  | true =>
    rw [show readB M n = [] by unfold readB; rw [hM]; rfl, show readE M n = 125 by unfold readE; rw [hM]; rfl] at hQ
    exact hQ none 0 w Own.nil (fun k hk => by obtain ⟨_, e, _⟩ := hk; cases e) (Chg.refl _ _)
  | false =>
    rw [show readE M n = thereE M n by unfold readE; rw [hM]; rfl] at hQ
    rw [cond_false]
    refine there_word hd n hn fun w4 k4 => ?_
    refine opnI_c rfl ?_
    by_cases h1 : thereE M n = 0
    · rw [show (thereE M n != 0) = false by rw [h1]; rfl, cond_false, opnA_e]
      obtain ⟨_, f, hf⟩ := thereE_look h1
      have hv4 := hv.chg0 k4
      refine opnM_c (hv4.blk.rd 1 rfl) ?_
      refine map_lookup M65 K9 z72 hv4.nm n ?_
      rw [look_ptrs, hf]
      refine opnP_c rfl ?_
      rw [opnA_e]
      have hfl : T f = .fl := hv.nmF (n, f) (look_mem hf)
      obtain ⟨na, nc, la, lc, wa, wc, ys, hF⟩ := hv4.file f hfl
      have hnow := hv.ok.now f hfl
      refine opnL_c (hF.blk.rd 0 rfl) ?_
      refine clone_word hF.now.lies (by omega) fun ca cc w13 o13 f13 k13 => ?_
      refine opnL_c rfl ?_
      rw [show readB M n = (M.file f).now by unfold readB; rw [hM, h1, hf]; rfl, h1] at hQ
      exact hQ ca cc w13 o13 (fun k hk => Nat.le_trans k4.size (f13 k hk)) (Chg.none_trans k4 k13)
    · rw [show (thereE M n != 0) = true from bne_iff_ne.2 h1, cond_true]
      rw [show readB M n = [] by unfold readB; rw [hM, if_neg h1]; rfl] at hQ
      exact hQ none 0 w4 Own.nil (fun k hk => by obtain ⟨_, e, _⟩ := hk; cases e) k4
end
end Go.Proofs.YtcigjlbpdkkflaaGreatDoor
set_option maxRecDepth 10000
namespace Go.Proofs.YtcigjlbpdkkflaaGreatDoor
open Go.Sh Go.ChangeShapes
open Go.RowKit
def newM (room : Int) : DiskM := ⟨room, [], [], [], 0, 0, 0, 0, false, fun _ => ⟨[], [], []⟩⟩
section
variable {Q : Value → World → Prop} {w w0 : World} {T : Tags} {d : Nat} {M : DiskM}
theorem alM_e {K : Nat → World → Prop} : alM w K = K w.heap.size (w.alloc (.map #[] 0)) := rfl
theorem new_word {room : Int} (hs : Dst w) (hbad : ¬ (0 ≤ room ∧ room ≤ 1099511627776) → Q (.tuple #[.pointer none, .int .i64 1]) w)
    (hok : 0 ≤ room → room ≤ 1099511627776 → ∀ T d w', DiskAt w' T d (newM room) → (∀ k, k < w.heap.size → T k = .free) → Chg None w w' → Q (.tuple #[ptr d, .int .i64 0]) w') : C_disk_New #[.int .i64 room] w Q := by
  refine C_disk_New_eq _ _ _ ?_
  refine C_disk_bounded_eq _ _ _ ?_
  by_cases h1 : 0 ≤ room
  · rw [decide_eq_true h1, cond_true]
    refine opnB_c rfl ?_
    by_cases h2 : room ≤ 1099511627776
    · rw [decide_eq_true h2, Bool.not_true, cond_false]
      rw [alM_e, alM_e]
      have m1 : HMap (w.alloc (.map #[] 0)) strv w.heap.size ([] : List (Str × Value)) := map_made strv
      have k1 : Chg None w (w.alloc (.map #[] 0)) := chg_alloc _ _
      have k2 : Chg None (w.alloc (.map #[] 0)) ((w.alloc (.map #[] 0)).alloc (.map #[] 0)) := chg_alloc _ _
      have m2 : HMap ((w.alloc (.map #[] 0)).alloc (.map #[] 0)) strv (w.alloc (.map #[] 0)).heap.size ([] : List (Str × Value)) := map_made strv
      have s1 : (w.alloc (.map #[] 0)).heap.size = w.heap.size + 1 := by show (w.heap.push _).size = _; simp
      refine alC_box fun dd w9 hb k9 hlt => ?_
      have hb' := hb.lt
      have h1lt := m2.lt
      have k09 := Chg.none_trans k1 (Chg.none_trans k2 k9)
      have hs9 := k9.size
      have h0 := hs.lt
      rw [s1] at m2 h1lt
      classical
      let T : Tags := fun k => if k = dd then .dk else if k = w.heap.size then .nm else if k = w.heap.size + 1 then .la else .free
      have ed : T dd = .dk := if_pos rfl
      have e1 : T w.heap.size = .nm := by
        show (if w.heap.size = dd then Tag.dk else if w.heap.size = w.heap.size then .nm else _) = _
        rw [if_neg (by omega), if_pos rfl]
      have e2 : T (w.heap.size + 1) = .la := by
        show (if w.heap.size + 1 = dd then Tag.dk else if w.heap.size + 1 = w.heap.size then .nm else if w.heap.size + 1 = w.heap.size + 1 then .la else .free) = _
        rw [if_neg (by omega), if_neg (by omega), if_pos rfl]
      have eo : ∀ k, k ≠ dd → k ≠ w.heap.size → k ≠ w.heap.size + 1 → T k = .free := fun k a b c => by
        show (if k = dd then Tag.dk else if k = w.heap.size then .nm else if k = w.heap.size + 1 then .la else .free) = _
        rw [if_neg a, if_neg b, if_neg c]
      have nfl : ∀ k, T k ≠ .fl := fun k h => by
        by_cases a : k = dd
        · rw [a, ed] at h; cases h
        · by_cases b : k = w.heap.size
          · rw [b, e1] at h; cases h
          · by_cases c : k = w.heap.size + 1
            · rw [c, e2] at h; cases h
            · rw [eo k a b c] at h; cases h
      refine hok h1 h2 T dd w9 ⟨w.heap.size, w.heap.size + 1, none, 0, [], ?_⟩ (fun k hk => eo k (by omega) (by omega) (by omega)) k09
      exact {
        size := fun k hk => by
          by_cases a : k = dd
          · omega
          · by_cases b : k = w.heap.size
            · omega
            · by_cases c : k = w.heap.size + 1
              · omega
              · exact absurd (eo k a b c) hk
        zero := eo 3 (by omega) (by omega) (by omega)
        std := hs.chg0 k09
        tag := ed
        blk := by rw [s1] at hb; exact hb
        nmT := e1
        nm := m1.chg0 (Chg.none_trans k2 k9)
        laT := e2
        la := m2.chg0 k9
        acO := Own.nil
        acT := fun k hk => by obtain ⟨_, e, _⟩ := hk; cases e
        xsm := rfl
        acts := fun x hx => by cases hx
        file := fun f hf => absurd hf (nfl f)
        nmF := fun x hx => by cases hx
        laF := fun x hx => by cases hx
        ok := ⟨h1, h2, fun f hf => absurd hf (nfl f), fun f hf => absurd hf (nfl f), Nat.le_refl _, Nat.le_refl _, Nat.zero_le _, (show (0 : Nat) < 9223372036854775808 by decide), .nil⟩ }
    · rw [decide_eq_false h2, Bool.not_false, cond_true]
      exact hbad fun h => h2 h.2
  · rw [decide_eq_false h1, cond_false]
    refine opnB_c rfl ?_
    rw [Bool.not_false, cond_true]
    exact hbad fun h => h1 h.1
end
end Go.Proofs.YtcigjlbpdkkflaaGreatDoor
set_option maxRecDepth 10000
namespace Go.Proofs.YtcigjlbpdkkflaaGreatDoor
open Go.Sh Go.ChangeShapes
open Go.RowKit
section
variable {Q : Value → World → Prop} {w w0 : World} {T : Tags} {d : Nat} {M : DiskM}
theorem onM_used {a : ActM} (h : ∀ n f, a ≠ .create n f) : usedM (onM M a) ≤ usedM M := by
  cases a with
  | create n f => exact absurd rfl (h n f)
  | remove n => exact sum_del (fun x => (M.file x.2).now.length) n M.names
  | rename a b =>
    show (((ActM.rename a b).on M.names).map fun x => (M.file x.2).now.length).sum ≤ _
    simp only [ActM.on]
    cases hL : Go.Sh.look a M.names with
    | none => exact Nat.le_refl _
    | some f =>
      have h1 := sum_put (fun x => (M.file x.2).now.length) b f (Go.Sh.del a M.names)
      have h2 := sum_look (g := fun k => (M.file k).now.length) hL
      simp only at h1 h2 ⊢
      unfold usedM
      omega
theorem on_inj {a : ActM} (h : ∀ n f, a ≠ .create n f) {m : Names} (hm : (m.map (·.2)).Nodup) : ((a.on m).map (·.2)).Nodup := by
  cases a with
  | create n f => exact absurd rfl (h n f)
  | remove n => exact del_inj hm
  | rename a b =>
    simp only [ActM.on]
    cases hL : Go.Sh.look a m with
    | none => exact hm
    | some f => exact put_inj (del_inj hm) (del_look hm hL)
theorem names_do {a : ActM} {v : Value} {X : Nat → Prop} {B : Nat} (hd : DiskAt w T d M) (ha : ∀ T1 : Tags, (∀ k, X k → T1 k = .bx) → ActAt w T1 a v) (hc : ∀ n f, a ≠ .create n f) (hX : ∀ k, X k → B ≤ k ∧ k < w.heap.size ∧ T k = .free) (hf : a.fits M.names) (hB : B ≤ w.heap.size) (hB0 : 3 < B) (hac : M.acts < 4611686018427387904) (hl : M.loose.length < M.acts) (hlen : M.loose.length < 1099511627776)
    (hQ : ∀ T' w', DiskAt w' T' d (onM M a) → (∀ k, k < B → T' k = T k) → Chg (OwnB T B) w w' → Q (.tuple #[]) w') : C_p_disk_Disk_rename #[ptr d, v] w Q := by
  classical
  obtain ⟨nb, lb, ad, ac, xs, hv⟩ := hd
  let T1 : Tags := fun k => if X k then .bx else T k
  have e1 : ∀ k, X k → T1 k = .bx := fun k hk => if_pos hk
  have eo : ∀ k, ¬ X k → T1 k = T k := fun k hk => if_neg hk
  have hx : Ext T T1 := fun k hk => eo k fun h => hk (hX k h).2.2
  have nX : ∀ k, k < B → ¬ X k := fun k hk h => by have := (hX k h).1; omega
  have hv1 : DiskV w T1 d { M with file := M.file } nb lb ad ac xs := hv.ext M.file (fun _ _ => rfl) hx (fun k hk => by
      by_cases h : X k
      · exact (hX k h).2.1
      · rw [eo k h] at hk; exact hv.size k hk)
    (by rw [eo 3 (nX 3 hB0)]; exact hv.zero)
    (fun g hg hn => by
      by_cases h : X g
      · rw [e1 g h] at hg; cases hg
      · rw [eo g h] at hg; exact absurd hg hn)
  refine rename_word (T := T1) (M := M) (a := a) ⟨nb, lb, ad, ac, xs, hv1⟩ (ha T1 e1) hf hl hac (Nat.le_trans (onM_used hc) hv.ok.used) (on_inj hc hv.ok.inj) hlen fun T' w' hd' hT' k' => ?_
  refine hQ T' w' hd' (fun k hk => ?_) (k'.mono fun x hxl h => ?_)
  · rw [hT' k (by omega), eo k (nX k hk)]
  · by_cases hXx : X x
    · exact .inr (hX x hXx).1
    · rw [Ownd, eo x hXx] at h; exact .inl h
theorem remove_word (hd : DiskAt w T d M) (n : Str) (hn : n.length < 4611686018427387904) (hac : M.acts < 1099511627775)
    (hQ : ∀ T' w' M' r, DiskAt w' T' d M' → (∀ k, k < w.heap.size → T' k = T k) → Chg (Ownd T) w w' → actR M (thereE M n) (fun M2 => M2 = onM (bump M) (.remove n)) M' r → Q (.int .i64 r) w') : C_p_disk_Disk_Remove #[ptr d, strv n] w Q := by
  have hd0 := hd
  obtain ⟨nb, lb, ad, ac, xs, hv⟩ := hd0
  refine C_p_disk_Disk_Remove_eq _ _ _ _ ?_
  refine alC_box fun p1 w2 b1 k2 h1 => ?_
  refine alC_box fun p3 w4 b3 k4 h3 => ?_
  have b14 := b1.chg k4 fun h => h
  have k04 := Chg.none_trans k2 k4
  have hdlt := hv.size d (by rw [hv.tag]; simp)
  have hs2 := k2.size
  have hs4 := k04.size
  refine opnP_c (b14.cell 0) ?_
  refine act_word (B := w.heap.size) (e := thereE M n) (P := fun M2 => M2 = onM (bump M) (.remove n)) (hd.chg0 k04) (by omega) (fun _ Q' w1 hd1 kd h => ?_) (fun _ he Q' w1 hd1 kd h => ?_) fun T' w' M' r hd' hT' k' hr => ?_
  · show C_p_disk_Disk_Remove_S1 #[ptr p1, ptr p3] w1 Q'
    refine C_p_disk_Disk_Remove_S1_eq _ _ _ _ ?_
    refine opnP_c ((b14.chg kd (by omega)).cell 0) (opnS_c ((b3.chg kd (by omega)).cell 0) ?_)
    refine there_word hd1 n hn fun w5 k5 => ?_
    exact opnI_c rfl (h w5 k5)
  · show C_p_disk_Disk_Remove_S2 #[ptr p1, ptr p3] w1 Q'
    refine C_p_disk_Disk_Remove_S2_eq _ _ _ _ ?_
    refine opnP_c ((b14.chg kd (by omega)).cell 0) ?_
    have b3' := b3.chg kd (by omega)
    have hs1 := kd.size
    refine names_do (M := bump M) (B := w.heap.size) (X := fun k => k = p3) (a := .remove n) (v := .func (.func 147) #[] #[ptr p3]) hd1 (fun T1 h => ⟨p3, rfl, b3', h p3 rfl⟩) (fun _ _ h => by cases h) (fun k hk => by subst hk; exact ⟨by omega, b3'.lt, hv.free (by omega)⟩) trivial (by omega) hv.std.lt (show M.acts + 1 < _ by omega) (show M.loose.length < M.acts + 1 from Nat.lt_succ_of_le hv.ok.ac) (show M.loose.length < _ by have := hv.ok.ac; omega) fun T' w' hd' hT' k' => ?_
    exact ⟨rfl, h T' w' _ hd' hT' k' rfl⟩
  · refine opnI_c rfl ?_
    refine hQ T' w' M' r hd' hT' (Chg.trans k04 k' (fun _ _ h => h.elim) fun x hx h => ?_) hr
    rcases h with h | h
    · exact h
    · omega
def renameE (M : DiskM) (a b : Str) : Int := if nameOk b = true then thereE M a else 120
theorem renames_word (hd : DiskAt w T d M) (a b : Str) (hn : a.length < 4611686018427387904) (hn2 : b.length < 4611686018427387904) (hac : M.acts < 1099511627775)
    (hQ : ∀ T' w' M' r, DiskAt w' T' d M' → (∀ k, k < w.heap.size → T' k = T k) → Chg (Ownd T) w w' → actR M (renameE M a b) (fun M2 => M2 = onM (bump M) (.rename a b)) M' r → Q (.int .i64 r) w') : C_p_disk_Disk_Rename #[ptr d, strv a, strv b] w Q := by
  have hd0 := hd
  obtain ⟨nb, lb, ad, ac, xs, hv⟩ := hd0
  refine C_p_disk_Disk_Rename_eq _ _ _ _ _ ?_
  refine alC_box fun p1 w2 b1 k2 h1 => ?_
  refine alC_box fun p3 w4 b3 k4 h3 => ?_
  refine alC_box fun p5 w6 b5 k6 h5 => ?_
  have b16 := (b1.chg k4 fun h => h).chg k6 fun h => h
  have b36 := b3.chg k6 fun h => h
  have k06 := Chg.none_trans (Chg.none_trans k2 k4) k6
  have hdlt := hv.size d (by rw [hv.tag]; simp)
  have hs2 := k2.size
  have hs4 := k4.size
  have hs6 := k06.size
  refine opnP_c (b16.cell 0) ?_
  refine act_word (B := w.heap.size) (e := renameE M a b) (P := fun M2 => M2 = onM (bump M) (.rename a b)) (hd.chg0 k06) (by omega) (fun _ Q' w1 hd1 kd h => ?_) (fun _ he Q' w1 hd1 kd h => ?_) fun T' w' M' r hd' hT' k' hr => ?_
  · show C_p_disk_Disk_Rename_S1 #[ptr p5, ptr p1, ptr p3] w1 Q'
    refine C_p_disk_Disk_Rename_S1_eq _ _ _ _ _ ?_
    refine opnS_c ((b5.chg kd (by omega)).cell 0) ?_
    refine named_word b hn2 hd1.dst fun w3 k3 => ?_
    refine opnB_c rfl ?_
    unfold renameE at h
    cases hM : nameOk b with
    | false =>
      rw [hM, if_neg (by simp)] at h
      exact h w3 k3
    | true =>
      rw [hM, if_pos rfl] at h
      rw [Bool.not_true, cond_false]
      refine opnP_c (((b16.chg kd (by omega)).chg k3 fun h => h).cell 0) (opnS_c (((b36.chg kd (by omega)).chg k3 fun h => h).cell 0) ?_)
      refine there_word (hd1.chg0 k3) a hn fun w5 k5 => ?_
      exact opnI_c rfl (h w5 (Chg.none_trans k3 k5))
  · show C_p_disk_Disk_Rename_S2 #[ptr p1, ptr p3, ptr p5] w1 Q'
    refine C_p_disk_Disk_Rename_S2_eq _ _ _ _ _ ?_
    refine opnP_c ((b16.chg kd (by omega)).cell 0) ?_
    have b3' := b36.chg kd (by omega)
    have b5' := b5.chg kd (by omega)
    have hs1 := kd.size
    have hth : thereE M a = 0 := by
      unfold renameE at he
      split at he
      · exact he
      · cases he
    obtain ⟨_, f, hf⟩ := thereE_look hth
    refine names_do (M := bump M) (B := w.heap.size) (X := fun k => k = p3 ∨ k = p5) (a := .rename a b) (v := .func (.func 123) #[] #[ptr p3, ptr p5]) hd1 (fun T1 h => ⟨p3, p5, rfl, b3', h p3 (.inl rfl), b5', h p5 (.inr rfl)⟩) (fun _ _ h => by cases h) (fun k hk => by
      rcases hk with hk | hk
      · subst hk; exact ⟨by omega, b3'.lt, hv.free (by omega)⟩
      · subst hk; exact ⟨by omega, b5'.lt, hv.free (by omega)⟩) ⟨f, hf⟩ (by omega) hv.std.lt (show M.acts + 1 < _ by omega) (show M.loose.length < M.acts + 1 from Nat.lt_succ_of_le hv.ok.ac) (show M.loose.length < _ by have := hv.ok.ac; omega) fun T' w' hd' hT' k' => ?_
    exact ⟨rfl, h T' w' _ hd' hT' k' rfl⟩
  · refine opnI_c rfl ?_
    refine hQ T' w' M' r hd' hT' (Chg.trans k06 k' (fun _ _ h => h.elim) fun x hx h => ?_) hr
    rcases h with h | h
    · exact h
    · omega
end
end Go.Proofs.YtcigjlbpdkkflaaGreatDoor
set_option maxRecDepth 10000
namespace Go.Proofs.YtcigjlbpdkkflaaGreatDoor
open Go.Sh
structure DiskA extends DiskM where
  n : Nat
def ActM.ren (σ : Nat → Nat) : ActM → ActM
  | .create s f => .create s (σ f)
  | .rename a b => .rename a b
  | .remove s => .remove s
abbrev Keys (m : Names) : Prop := (m.map (·.1)).Nodup
def NEq (σ : Nat → Nat) (m m' : Names) : Prop := ∀ s, Go.Sh.look s m = (Go.Sh.look s m').map σ
def renN (σ : Nat → Nat) (m : Names) : Names := m.map fun x => (x.1, σ x.2)
theorem look_renN (σ : Nat → Nat) (s : Str) : ∀ m : Names, Go.Sh.look s (renN σ m) = (Go.Sh.look s m).map σ
  | [] => rfl
  | x :: m => by
    show (if x.1 = s then some (σ x.2) else Go.Sh.look s (renN σ m)) = (if x.1 = s then some x.2 else Go.Sh.look s m).map σ
    split
    · rfl
    · exact look_renN σ s m
theorem renN_keys (σ : Nat → Nat) (m : Names) : (renN σ m).map (·.1) = m.map (·.1) := by
  unfold renN
  rw [List.map_map]; rfl
theorem perm_of_look {m m' : Names} (h1 : Keys m) (h2 : Keys m') (h : ∀ s, Go.Sh.look s m = Go.Sh.look s m') : m.Perm m' := by
  have nd : ∀ {l : Names}, Keys l → l.Nodup := fun h => List.Pairwise.of_map (·.1) (fun a b h e => h (congrArg _ e)) h
  refine (List.perm_ext_iff_of_nodup (nd h1) (nd h2)).2 fun ⟨k, v⟩ => ?_
  exact ⟨fun hm => look_mem (by rw [← h k]; exact mem_look h1 hm), fun hm => look_mem (by rw [h k]; exact mem_look h2 hm)⟩
theorem NEq.perm {σ : Nat → Nat} {m m' : Names} (h : NEq σ m m') (h1 : Keys m) (h2 : Keys m') : m.Perm (renN σ m') :=
  perm_of_look h1 (by rw [Keys, renN_keys]; exact h2) fun s => by rw [look_renN]; exact h s
theorem NEq.put {σ : Nat → Nat} {m m' : Names} (h : NEq σ m m') (s : Str) (f : Nat) : NEq σ (Go.Sh.put s (σ f) m) (Go.Sh.put s f m') := fun t => by
  rw [look_put, look_put]
  split
  · rfl
  · exact h t
theorem NEq.del {σ : Nat → Nat} {m m' : Names} (h : NEq σ m m') (h1 : Keys m) (h2 : Keys m') (s : Str) : NEq σ (Go.Sh.del s m) (Go.Sh.del s m') := fun t => by
  rw [look_del h1, look_del h2]
  split
  · rfl
  · exact h t
theorem on_keys {a : ActM} {m : Names} (h : Keys m) : Keys (a.on m) := by
  cases a with
  | create s f => exact put_nodup h
  | remove s => exact del_nodup h
  | rename a b =>
    simp only [ActM.on]
    cases hL : Go.Sh.look a m with
    | none => exact h
    | some f => exact put_nodup (del_nodup h)
theorem NEq.on {σ : Nat → Nat} {m m' : Names} (h : NEq σ m m') (h1 : Keys m) (h2 : Keys m') (a : ActM) : NEq σ ((a.ren σ).on m) (a.on m') := by
  cases a with
  | create s f => exact h.put s f
  | remove s => exact h.del h1 h2 s
  | rename a b =>
    simp only [ActM.on, ActM.ren, h a]
    cases hL : Go.Sh.look a m' with
    | none => exact h
    | some f => exact (h.del h1 h2 a).put b f
theorem NEq.fits {σ : Nat → Nat} {m m' : Names} (h : NEq σ m m') (a : ActM) : (a.ren σ).fits m ↔ a.fits m' := by
  cases a with
  | create s f => exact Iff.rfl
  | remove s => exact Iff.rfl
  | rename a b =>
    simp only [ActM.fits, ActM.ren, h a]
    constructor
    · rintro ⟨f, hf⟩
      obtain ⟨g, hg, _⟩ := Option.map_eq_some_iff.1 hf
      exact ⟨g, hg⟩
    · rintro ⟨g, hg⟩
      exact ⟨σ g, by rw [hg]; rfl⟩
structure Ren (σ : Nat → Nat) (M : DiskM) (D : DiskA) : Prop where
  room : M.room = D.room
  writes : M.writes = D.writes
  acts : M.acts = D.acts
  strike : M.strike = D.strike
  fault : M.fault = D.fault
  dead : M.dead = D.dead
  names : NEq σ M.names D.names
  lasting : NEq σ M.lasting D.lasting
  loose : M.loose = D.loose.map (ActM.ren σ)
  file : ∀ k, k < D.n → M.file (σ k) = D.file k
  inj : ∀ i, i < D.n → ∀ j, j < D.n → σ i = σ j → i = j
def ActM.named : ActM → Prop
  | .create s _ => nameOk s = true
  | .rename _ b => nameOk b = true
  | .remove _ => True
structure DOk (D : DiskA) : Prop where
  keysN : Keys D.names
  keysL : Keys D.lasting
  ltN : ∀ x ∈ D.names, x.2 < D.n
  ltL : ∀ x ∈ D.lasting, x.2 < D.n
  ltA : ∀ a ∈ D.loose, ∀ f ∈ a.files, f < D.n
  rep : RepOk D.lasting D.loose D.names
  once : (D.lasting.map (·.2) ++ D.loose.flatMap ActM.files).Nodup
  inj : (D.names.map (·.2)).Nodup
  num : ∀ f, ∀ x ∈ (D.file f).loose, x.num < D.writes
  asc : ∀ f, (D.file f).loose.Pairwise (fun x y => x.num < y.num)
  apart : ∀ f g, f ≠ g → ∀ x ∈ (D.file f).loose, ∀ y ∈ (D.file g).loose, x.num ≠ y.num
  okN : ∀ x ∈ D.names, nameOk x.1 = true
  okL : ∀ x ∈ D.lasting, nameOk x.1 = true
  okA : ∀ a ∈ D.loose, a.named
def bumpA (D : DiskA) : DiskA := { D with toDiskM := bump D.toDiskM }
def deadA (D : DiskA) : DiskA := { D with dead := true }
def createA (s : Str) (D : DiskA) : DiskA := { toDiskM := createM D.toDiskM s D.n, n := D.n + 1 }
def writeA (s : Str) (at_ : Nat) (data : List UInt8) (D : DiskA) : DiskA := { D with toDiskM := writeM D.toDiskM s at_ data }
def syncA (s : Str) (D : DiskA) : DiskA := { D with toDiskM := syncM D.toDiskM s }
def onA (a : ActM) (D : DiskA) : DiskA := { D with toDiskM := onM D.toDiskM a }
def namesA (D : DiskA) : DiskA := { D with lasting := D.names, loose := [] }
def actA (D : DiskA) (e : Int) (f : DiskA → DiskA) : DiskA × Int :=
  if D.dead = true then (D, 125)
  else if e ≠ 0 then (bumpA D, e)
  else if D.strike = 1 ∧ D.fault ≠ 125 then (bumpA D, D.fault)
  else if D.strike = 1 then (deadA (f (bumpA D)), 125)
  else (f (bumpA D), 0)
section
variable {D : DiskA}
theorem DOk.bump (h : DOk D) : DOk (bumpA D) := ⟨h.keysN, h.keysL, h.ltN, h.ltL, h.ltA, h.rep, h.once, h.inj, h.num, h.asc, h.apart, h.okN, h.okL, h.okA⟩
theorem DOk.die (h : DOk D) : DOk (deadA D) := ⟨h.keysN, h.keysL, h.ltN, h.ltL, h.ltA, h.rep, h.once, h.inj, h.num, h.asc, h.apart, h.okN, h.okL, h.okA⟩
theorem DOk.act {e : Int} {f : DiskA → DiskA} (h : DOk D) (hf : e = 0 → DOk (f (bumpA D))) : DOk (actA D e f).1 := by
  unfold actA
  split
  · exact h
  · split
    · exact h.bump
    · rename_i he
      have he : e = 0 := Classical.byContradiction fun hn => he hn
      split
      · exact h.bump
      · split
        · exact (hf he).die
        · exact hf he
theorem DOk.create (h : DOk D) {s : Str} (hs : nameOk s = true) : DOk (createA s D) where
  keysN := put_nodup h.keysN
  keysL := h.keysL
  ltN x hx := by
    rcases mem_putp hx with e | hx
    · rw [e]; exact Nat.lt_succ_self _
    · exact Nat.lt_succ_of_lt (h.ltN x hx)
  ltL x hx := Nat.lt_succ_of_lt (h.ltL x hx)
  ltA a ha f hf := by
    rcases List.mem_append.1 ha with ha | ha
    · exact Nat.lt_succ_of_lt (h.ltA a ha f hf)
    · rw [List.mem_singleton.1 ha] at hf
      rw [List.mem_singleton.1 hf]
      exact Nat.lt_succ_self _
  rep := RepOk.app (a := .create s D.n) h.rep trivial
  once := by
    show (D.lasting.map (·.2) ++ (D.loose ++ [ActM.create s D.n]).flatMap ActM.files).Nodup
    rw [List.flatMap_append, ← List.append_assoc, List.nodup_append]
    refine ⟨h.once, by simp [ActM.files], fun x hx y hy e => ?_⟩
    have hy : y = D.n := by simpa [ActM.files] using hy
    rw [hy] at e
    rcases List.mem_append.1 hx with hx | hx
    · obtain ⟨z, hz, rfl⟩ := List.mem_map.1 hx
      have := h.ltL z hz
      omega
    · obtain ⟨a, ha, hx⟩ := List.mem_flatMap.1 hx
      have := h.ltA a ha x hx
      omega
  inj := put_inj h.inj fun x hx e => by have := h.ltN x hx; omega
  num f x hx := by
    by_cases hf : f = D.n
    · rw [show (createA s D).file f = ⟨[], [], []⟩ from if_pos hf] at hx; cases hx
    · rw [show (createA s D).file f = D.file f from if_neg hf] at hx; exact h.num f x hx
  asc f := by
    by_cases hf : f = D.n
    · rw [show (createA s D).file f = ⟨[], [], []⟩ from if_pos hf]; exact .nil
    · rw [show (createA s D).file f = D.file f from if_neg hf]; exact h.asc f
  apart f g hfg x hx y hy := by
    by_cases hf : f = D.n
    · rw [show (createA s D).file f = ⟨[], [], []⟩ from if_pos hf] at hx; cases hx
    · by_cases hg : g = D.n
      · rw [show (createA s D).file g = ⟨[], [], []⟩ from if_pos hg] at hy; cases hy
      · rw [show (createA s D).file f = D.file f from if_neg hf] at hx
        rw [show (createA s D).file g = D.file g from if_neg hg] at hy
        exact h.apart f g hfg x hx y hy
  okN x hx := by
    rcases mem_putp hx with e | hx
    · rw [e]; exact hs
    · exact h.okN x hx
  okL := h.okL
  okA a ha := by
    rcases List.mem_append.1 ha with ha | ha
    · exact h.okA a ha
    · rw [List.mem_singleton.1 ha]; exact hs
theorem on_mem {a : ActM} {m : Names} {x : Str × Nat} (ha : ∀ s f, a ≠ .create s f) (hx : x ∈ a.on m) : (∃ y ∈ m, y.2 = x.2) ∧ (x ∈ m ∨ ∃ c, a = .rename c x.1) := by
  cases a with
  | create s f => exact absurd rfl (ha s f)
  | remove s => exact ⟨⟨x, mem_delp hx, rfl⟩, .inl (mem_delp hx)⟩
  | rename a b =>
    simp only [ActM.on] at hx
    cases hL : Go.Sh.look a m with
    | none => rw [hL] at hx; exact ⟨⟨x, hx, rfl⟩, .inl hx⟩
    | some f =>
      rw [hL] at hx
      rcases mem_putp hx with e | hx
      · rw [e]; exact ⟨⟨_, look_mem hL, rfl⟩, .inr ⟨a, rfl⟩⟩
      · exact ⟨⟨x, mem_delp hx, rfl⟩, .inl (mem_delp hx)⟩
theorem DOk.on (h : DOk D) {a : ActM} (ha : ∀ s f, a ≠ .create s f) (hf : a.fits D.names) (hs : a.named) : DOk (onA a D) where
  keysN := on_keys h.keysN
  keysL := h.keysL
  ltN x hx := by
    obtain ⟨⟨y, hy, e⟩, _⟩ := on_mem ha hx
    rw [← e]; exact h.ltN y hy
  ltL := h.ltL
  ltA b hb f hf := by
    rcases List.mem_append.1 hb with hb | hb
    · exact h.ltA b hb f hf
    · rw [List.mem_singleton.1 hb] at hf
      cases a with
      | create s f => exact absurd rfl (ha s f)
      | rename _ _ => cases hf
      | remove _ => cases hf
  rep := RepOk.app (a := a) h.rep hf
  once := by
    show (D.lasting.map (·.2) ++ (D.loose ++ [a]).flatMap ActM.files).Nodup
    have e : [a].flatMap ActM.files = [] := by
      cases a with
      | create s f => exact absurd rfl (ha s f)
      | rename _ _ => rfl
      | remove _ => rfl
    rw [List.flatMap_append, e, List.append_nil]
    exact h.once
  inj := on_inj ha h.inj
  num := h.num
  asc := h.asc
  apart := h.apart
  okN x hx := by
    rcases (on_mem ha hx).2 with hx | ⟨c, rfl⟩
    · exact h.okN x hx
    · exact hs
  okL := h.okL
  okA b hb := by
    rcases List.mem_append.1 hb with hb | hb
    · exact h.okA b hb
    · rw [List.mem_singleton.1 hb]; exact hs
theorem DOk.names (h : DOk D) : DOk (namesA D) where
  keysN := h.keysN
  keysL := h.keysN
  ltN := h.ltN
  ltL := h.ltN
  ltA a ha := by cases ha
  rep := rfl
  once := by
    have e : (D.names.map (fun x => x.2) ++ ([] : List ActM).flatMap ActM.files).Nodup := by rw [List.flatMap_nil, List.append_nil]; exact h.inj
    exact e
  inj := h.inj
  num := h.num
  asc := h.asc
  apart := h.apart
  okN := h.okN
  okL := h.okN
  okA a ha := by cases ha
theorem DOk.sync (h : DOk D) (s : Str) : DOk (syncA s D) := by
  unfold syncA syncM
  cases hL : Go.Sh.look s D.names with
  | none => exact h
  | some f =>
    refine ⟨h.keysN, h.keysL, h.ltN, h.ltL, h.ltA, h.rep, h.once, h.inj, fun g x hx => ?_, fun g => ?_, fun g k hgk x hx y hy => ?_, h.okN, h.okL, h.okA⟩
    · simp only [setFile] at hx
      split at hx
      · cases hx
      · exact h.num g x hx
    · simp only [setFile]
      split
      · exact .nil
      · exact h.asc g
    · simp only [setFile] at hx hy
      split at hx
      · cases hx
      · split at hy
        · cases hy
        · exact h.apart g k hgk x hx y hy
theorem DOk.write (h : DOk D) (s : Str) (at_ : Nat) (data : List UInt8) : DOk (writeA s at_ data D) := by
  unfold writeA writeM
  split
  · exact h
  · cases hL : Go.Sh.look s D.names with
    | none => exact h
    | some f =>
      have hl : ∀ g x, x ∈ (setFile D.toDiskM f ⟨laidB (D.file f).now at_ data, (D.file f).lasts, (D.file f).loose ++ [⟨D.writes, at_, data⟩]⟩ g).loose → x ∈ (D.file g).loose ∨ (g = f ∧ x.num = D.writes) := fun g x hx => by
        simp only [setFile] at hx
        split at hx
        · rename_i e
          rcases List.mem_append.1 hx with hx | hx
          · exact .inl (by rw [e]; exact hx)
          · exact .inr ⟨e, by rw [List.mem_singleton.1 hx]⟩
        · exact .inl hx
      refine ⟨h.keysN, h.keysL, h.ltN, h.ltL, h.ltA, h.rep, h.once, h.inj, fun g x hx => ?_, fun g => ?_, fun g k hgk x hx y hy => ?_, h.okN, h.okL, h.okA⟩
      · rcases hl g x hx with hx | ⟨_, e⟩
        · exact Nat.lt_succ_of_lt (h.num g x hx)
        · rw [e]; exact Nat.lt_succ_self _
      · show (setFile D.toDiskM f _ g).loose.Pairwise _
        simp only [setFile]
        split
        · show ((D.file f).loose ++ [WrM.mk D.writes at_ data]).Pairwise _
          rw [List.pairwise_append]
          refine ⟨h.asc f, by simp, fun x hx y hy => ?_⟩
          rw [List.mem_singleton.1 hy]
          exact h.num f x hx
        · exact h.asc g
      · rcases hl g x hx with hx | ⟨e1, e2⟩
        · rcases hl k y hy with hy | ⟨e3, e4⟩
          · exact h.apart g k hgk x hx y hy
          · have := h.num g x hx
            omega
        · rcases hl k y hy with hy | ⟨e3, e4⟩
          · have := h.num k y hy
            omega
          · exact absurd (e1.trans e3.symm) hgk
end
section
variable {σ : Nat → Nat} {M : DiskM} {D : DiskA}
theorem Ren.bump (h : Ren σ M D) : Ren σ (bump M) (bumpA D) := ⟨h.room, h.writes, congrArg (· + 1) h.acts, congrArg (· - 1) h.strike, h.fault, h.dead, h.names, h.lasting, h.loose, h.file, h.inj⟩
theorem Ren.die (h : Ren σ M D) : Ren σ { M with dead := true } (deadA D) := ⟨h.room, h.writes, h.acts, h.strike, h.fault, rfl, h.names, h.lasting, h.loose, h.file, h.inj⟩
theorem Ren.look_lt (_h : Ren σ M D) (ok : DOk D) {s : Str} {f : Nat} (hf : Go.Sh.look s D.names = some f) : f < D.n := ok.ltN _ (look_mem hf)
theorem Ren.on (h : Ren σ M D) (ok : DOk D) (hk : Keys M.names) (a : ActM) : Ren σ (onM M (a.ren σ)) (onA a D) :=
  ⟨h.room, h.writes, h.acts, h.strike, h.fault, h.dead, h.names.on hk ok.keysN a, h.lasting, by show M.loose ++ [a.ren σ] = (D.loose ++ [a]).map _; rw [h.loose]; simp, h.file, h.inj⟩
theorem Ren.names' (h : Ren σ M D) : Ren σ { M with lasting := M.names, loose := [] } (namesA D) :=
  ⟨h.room, h.writes, h.acts, h.strike, h.fault, h.dead, h.names, h.names, rfl, h.file, h.inj⟩
theorem Ren.sync (h : Ren σ M D) (ok : DOk D) (s : Str) : Ren σ (syncM M s) (syncA s D) := by
  unfold syncA syncM
  rw [h.names s]
  cases hL : Go.Sh.look s D.names with
  | none => exact h
  | some f =>
    have hf := h.look_lt ok hL
    refine ⟨h.room, h.writes, h.acts, h.strike, h.fault, h.dead, h.names, h.lasting, h.loose, fun k hk => ?_, h.inj⟩
    show setFile M (σ f) ⟨(M.file (σ f)).now, (M.file (σ f)).now, []⟩ (σ k) = setFile D.toDiskM f ⟨(D.file f).now, (D.file f).now, []⟩ k
    have hk : k < D.n := hk
    simp only [setFile]
    rw [h.file f hf]
    by_cases e : k = f
    · rw [if_pos e, if_pos (by rw [e])]
    · rw [if_neg e, if_neg fun e2 => e (h.inj k hk f hf e2)]
      exact h.file k hk
theorem Ren.write (h : Ren σ M D) (ok : DOk D) (s : Str) (at_ : Nat) (data : List UInt8) : Ren σ (writeM M s at_ data) (writeA s at_ data D) := by
  unfold writeA writeM
  split
  · exact h
  · rw [h.names s]
    cases hL : Go.Sh.look s D.names with
    | none => exact h
    | some f =>
      have hf := h.look_lt ok hL
      refine ⟨h.room, congrArg (· + 1) h.writes, h.acts, h.strike, h.fault, h.dead, h.names, h.lasting, h.loose, fun k hk => ?_, h.inj⟩
      show setFile M (σ f) ⟨laidB (M.file (σ f)).now at_ data, (M.file (σ f)).lasts, (M.file (σ f)).loose ++ [⟨M.writes, at_, data⟩]⟩ (σ k) = setFile D.toDiskM f ⟨laidB (D.file f).now at_ data, (D.file f).lasts, (D.file f).loose ++ [⟨D.writes, at_, data⟩]⟩ k
      have hk : k < D.n := hk
      simp only [setFile]
      rw [h.file f hf, h.writes]
      by_cases e : k = f
      · rw [if_pos e, if_pos (by rw [e])]
      · rw [if_neg e, if_neg fun e2 => e (h.inj k hk f hf e2)]
        exact h.file k hk
theorem ren_acts {σ σ' : Nat → Nat} {l : List ActM} (h : ∀ a ∈ l, ∀ f ∈ a.files, σ' f = σ f) : l.map (ActM.ren σ') = l.map (ActM.ren σ) := by
  refine List.map_congr_left fun a ha => ?_
  cases a with
  | create s f => exact congrArg _ (h _ ha f (by simp [ActM.files]))
  | rename _ _ => rfl
  | remove _ => rfl
theorem NEq.ext {σ σ' : Nat → Nat} {m m' : Names} (h : NEq σ m m') (he : ∀ x ∈ m', σ' x.2 = σ x.2) : NEq σ' m m' := fun s => by
  rw [h s]
  cases hL : Go.Sh.look s m' with
  | none => rfl
  | some f => exact congrArg some (he _ (look_mem hL)).symm
theorem Ren.create (h : Ren σ M D) (ok : DOk D) (s : Str) {f : Nat} (hf : ∀ k, k < D.n → σ k ≠ f) : Ren (fun k => if k = D.n then f else σ k) (createM M s f) (createA s D) := by
  have eo : ∀ k, k < D.n → (fun k => if k = D.n then f else σ k) k = σ k := fun k hk => if_neg (by omega)
  have en : (fun k => if k = D.n then f else σ k) D.n = f := if_pos rfl
  have e1 : NEq (fun k => if k = D.n then f else σ k) M.names D.names := h.names.ext fun x hx => eo _ (ok.ltN x hx)
  refine ⟨h.room, h.writes, h.acts, h.strike, h.fault, h.dead, ?_, h.lasting.ext fun x hx => eo _ (ok.ltL x hx), ?_, fun k hk => ?_, fun i hi j hj e => ?_⟩
  · have := e1.put s D.n
    simp only [if_true] at this
    exact this
  · show M.loose ++ [ActM.create s f] = (D.loose ++ [ActM.create s D.n]).map _
    rw [List.map_append, ren_acts fun a ha g hg => eo g (ok.ltA a ha g hg), h.loose]
    simp [ActM.ren]
  · show setFile M f ⟨[], [], []⟩ _ = setFile D.toDiskM D.n ⟨[], [], []⟩ k
    have hk : k < D.n + 1 := hk
    by_cases e : k = D.n
    · subst e
      simp only [setFile, if_true]
    · have hk' : k < D.n := by omega
      simp only [setFile, if_neg e, if_neg (hf k hk')]
      exact h.file k hk'
  · have hi : i < D.n + 1 := hi
    have hj : j < D.n + 1 := hj
    by_cases e1 : i = D.n
    · by_cases e2 : j = D.n
      · omega
      · simp only [if_pos e1, if_neg e2] at e
        exact absurd e.symm (hf j (by omega))
    · by_cases e2 : j = D.n
      · simp only [if_neg e1, if_pos e2] at e
        exact absurd e (hf i (by omega))
      · simp only [if_neg e1, if_neg e2] at e
        exact h.inj i (by omega) j (by omega) e
theorem Ren.there (h : Ren σ M D) (s : Str) : thereE M s = thereE D.toDiskM s := by
  unfold thereE
  rw [h.names s]
  cases Go.Sh.look s D.names <;> rfl
theorem Ren.used (h : Ren σ M D) (ok : DOk D) (hk : Keys M.names) : usedM M = usedM D.toDiskM := by
  unfold usedM
  rw [((h.names.perm hk ok.keysN).map _).sum_nat, renN, List.map_map]
  exact sum_congr _ _ _ fun x hx => by
    show (M.file (σ x.2)).now.length = _
    rw [h.file _ (ok.ltN x hx)]
theorem Ren.writeE (h : Ren σ M D) (ok : DOk D) (hk : Keys M.names) (s : Str) (at_ : Int) (data : List UInt8) : writeE M s at_ data = Go.Proofs.YtcigjlbpdkkflaaGreatDoor.writeE D.toDiskM s at_ data := by
  unfold Go.Proofs.YtcigjlbpdkkflaaGreatDoor.writeE
  rw [h.there s, h.names s]
  cases hL : Go.Sh.look s D.names with
  | none => rfl
  | some f =>
    have hf := h.look_lt ok hL
    simp only [Option.map_some, growsE]
    rw [h.file f hf, h.room, h.used ok hk]
theorem Ren.renameE (h : Ren σ M D) (a b : Str) : renameE M a b = Go.Proofs.YtcigjlbpdkkflaaGreatDoor.renameE D.toDiskM a b := by
  unfold Go.Proofs.YtcigjlbpdkkflaaGreatDoor.renameE
  rw [h.there a]
theorem Ren.readE (h : Ren σ M D) (s : Str) : readE M s = Go.Proofs.YtcigjlbpdkkflaaGreatDoor.readE D.toDiskM s := by
  unfold Go.Proofs.YtcigjlbpdkkflaaGreatDoor.readE
  rw [h.there s, h.dead]
theorem Ren.readB (h : Ren σ M D) (ok : DOk D) (s : Str) : readB M s = Go.Proofs.YtcigjlbpdkkflaaGreatDoor.readB D.toDiskM s := by
  unfold Go.Proofs.YtcigjlbpdkkflaaGreatDoor.readB
  rw [h.there s, h.dead, h.names s]
  cases hL : Go.Sh.look s D.names with
  | none => rfl
  | some f =>
    have hf := h.look_lt ok hL
    simp only [Option.map_some]
    rw [h.file f hf]
theorem act_ren {S : (Nat → Nat) → Prop} {e : Int} {P : DiskM → Prop} {f : DiskA → DiskA} {M' : DiskM} {r : Int} (hr : Ren σ M D) (ha : actR M e P M' r) (h0 : S σ) (hP : ∀ M2, P M2 → e = 0 → ∃ σ', Ren σ' M2 (f (bumpA D)) ∧ S σ') : ∃ σ', Ren σ' M' (actA D e f).1 ∧ r = (actA D e f).2 ∧ S σ' := by
  unfold actA
  rcases ha with ⟨h1, rfl, rfl⟩ | ⟨h1, h2, rfl, rfl⟩ | ⟨h1, h2, h3, h4, rfl, rfl⟩ | ⟨h1, h2, h3, M2, h4, rfl, rfl⟩
  · rw [if_pos (by rw [← hr.dead]; exact h1)]
    exact ⟨σ, hr, rfl, h0⟩
  · rw [if_neg (by rw [← hr.dead, h1]; simp), if_pos h2]
    exact ⟨σ, hr.bump, rfl, h0⟩
  · rw [if_neg (by rw [← hr.dead, h1]; simp), if_neg (fun h => h h2), if_pos (by rw [← hr.strike, ← hr.fault]; exact ⟨h3, h4⟩)]
    exact ⟨σ, hr.bump, hr.fault, h0⟩
  · obtain ⟨σ', h5, h6⟩ := hP M2 h4 h2
    by_cases hs : M.strike = 1
    · rw [if_pos hs, if_pos hs, if_neg (by rw [← hr.dead, h1]; simp), if_neg (fun h => h h2), if_neg (by rw [← hr.strike, ← hr.fault]; exact h3), if_pos (by rw [← hr.strike]; exact hs)]
      exact ⟨σ', h5.die, rfl, h6⟩
    · rw [if_neg hs, if_neg hs, if_neg (by rw [← hr.dead, h1]; simp), if_neg (fun h => h h2), if_neg (by rw [← hr.strike, ← hr.fault]; exact h3), if_neg (by rw [← hr.strike]; exact hs)]
      exact ⟨σ', h5, rfl, h6⟩
end
end Go.Proofs.YtcigjlbpdkkflaaGreatDoor
namespace Go.Proofs
open Go.Shelf
def YtcigjlbpdkkflaaGreatDoor.lays190_ren : Go.Shelf.Ren := ⟨fun | 190 => 93 | 125 => 144 | 258 => 143 | 128 => 190 | 129 => 191 | 302 => 181 | 303 => 182 | 304 => 183 | 305 => 184 | 306 => 185 | 307 => 186 | 308 => 187 | 309 => 188 | 310 => 189 | 333 => 223 | 329 => 224 | 330 => 225 | 334 => 226 | 335 => 227 | 336 => 228 | 344 => 248 | n => n, fun | 31 => 100 | 9 => 9 | 3 => 3 | 46 => 137 | 0 => 0 | 51 => 243 | 53 => 245 | 4 => 4 | 183 => 237 | 182 => 236 | 131 => 126 | 5 => 5 | 218 => 273 | 222 => 277 | 228 => 292 | 229 => 293 | n => n, fun | n => n⟩
theorem YtcigjlbpdkkflaaGreatDoor.lays190 : Go.Proofs.Lays.n190 Tryz.prog YtcigjlbpdkkflaaGreatDoor.lays190_ren := {
  mixed := by kernel_rfl
  f125 := Tryz.func144.trans (congrArg some (by kernel_rfl))
  f128 := Tryz.func190.trans (congrArg some (by kernel_rfl))
  f129 := Tryz.func191.trans (congrArg some (by kernel_rfl))
  f190 := Tryz.func93.trans (congrArg some (by kernel_rfl))
  f258 := Tryz.func143.trans (congrArg some (by kernel_rfl))
  f302 := Tryz.func181.trans (congrArg some (by kernel_rfl))
  f303 := Tryz.func182.trans (congrArg some (by kernel_rfl))
  f304 := Tryz.func183.trans (congrArg some (by kernel_rfl))
  f305 := Tryz.func184.trans (congrArg some (by kernel_rfl))
  f306 := Tryz.func185.trans (congrArg some (by kernel_rfl))
  f307 := Tryz.func186.trans (congrArg some (by kernel_rfl))
  f308 := Tryz.func187.trans (congrArg some (by kernel_rfl))
  f309 := Tryz.func188.trans (congrArg some (by kernel_rfl))
  f310 := Tryz.func189.trans (congrArg some (by kernel_rfl))
  f329 := Tryz.func224.trans (congrArg some (by kernel_rfl))
  f330 := Tryz.func225.trans (congrArg some (by kernel_rfl))
  f333 := Tryz.func223.trans (congrArg some (by kernel_rfl))
  f334 := Tryz.func226.trans (congrArg some (by kernel_rfl))
  f335 := Tryz.func227.trans (congrArg some (by kernel_rfl))
  f336 := Tryz.func228.trans (congrArg some (by kernel_rfl))
  f344 := Tryz.func248.trans (congrArg some (by kernel_rfl))
  t0 := Tryz.underlying0
  a0 := Tryz.isAgg0
  z0 := Tryz.sizeOf0
  v0 := Tryz.zeroValue0
  t3 := Tryz.underlying3
  a3 := Tryz.isAgg3
  z3 := Tryz.sizeOf3
  v3 := Tryz.zeroValue3
  t4 := Tryz.underlying4
  a4 := Tryz.isAgg4
  z4 := Tryz.sizeOf4
  v4 := Tryz.zeroValue4
  t5 := Tryz.underlying5
  a5 := Tryz.isAgg5
  z5 := Tryz.sizeOf5
  v5 := Tryz.zeroValue5
  t9 := Tryz.underlying9
  a9 := Tryz.isAgg9
  z9 := Tryz.sizeOf9
  v9 := Tryz.zeroValue9
  t31 := Tryz.underlying100
  a31 := Tryz.isAgg100
  z31 := Tryz.sizeOf100
  v31 := Tryz.zeroValue100
  t46 := Tryz.underlying137
  a46 := Tryz.isAgg137
  z46 := Tryz.sizeOf137
  v46 := Tryz.zeroValue137
  t51 := Tryz.underlying243
  a51 := Tryz.isAgg243
  z51 := Tryz.sizeOf243
  v51 := Tryz.zeroValue243
  t53 := Tryz.underlying245
  a53 := Tryz.isAgg245
  z53 := Tryz.sizeOf245
  v53 := Tryz.zeroValue245
  t131 := Tryz.underlying126
  a131 := Tryz.isAgg126
  z131 := Tryz.sizeOf126
  v131 := Tryz.zeroValue126
  t182 := Tryz.underlying236
  a182 := Tryz.isAgg236
  z182 := Tryz.sizeOf236
  v182 := Tryz.zeroValue236
  t183 := Tryz.underlying237
  a183 := Tryz.isAgg237
  z183 := Tryz.sizeOf237
  v183 := Tryz.zeroValue237
  t218 := Tryz.underlying273
  a218 := Tryz.isAgg273
  z218 := Tryz.sizeOf273
  v218 := Tryz.zeroValue273
  t222 := Tryz.underlying277
  a222 := Tryz.isAgg277
  z222 := Tryz.sizeOf277
  v222 := Tryz.zeroValue277
  t228 := Tryz.underlying292
  a228 := Tryz.isAgg292
  z228 := Tryz.sizeOf292
  v228 := Tryz.zeroValue292
  t229 := Tryz.underlying293
  a229 := Tryz.isAgg293
  z229 := Tryz.sizeOf293
  v229 := Tryz.zeroValue293 }
open Go.Sort Go.RowKit in
theorem YtcigjlbpdkkflaaGreatDoor.slices_Sort_string (blk off cap : Nat) (ss : List (List UInt8)) (w : World) (hH : Holds encStr w blk off ss.toArray) (hblk : blk < w.heap.size) (hsz : ss.length < 4611686018427387904) :
    Calls Tryz.prog 93 #[.slice (some ⟨blk, off, none⟩) ss.length cap] w fun e w' =>
      e = .returned (.tuple #[]) ∧ ∃ n os, w' = grow (putRow encStr (Sort.ahead w n) blk off (ss.mergeSort fun x y => decide (x ≤ y)).toArray) os := Any.slices_Sort_string YtcigjlbpdkkflaaGreatDoor.lays190 blk off cap ss w hH hblk hsz
open Go.RowKit Go.Sort in
theorem YtcigjlbpdkkflaaGreatDoor.slices_Sort_string_none (p : Option Addr) (cap : Nat) (w : World) :
    Calls Tryz.prog 93 #[.slice p 0 cap] w fun e w' => e = .returned (.tuple #[]) ∧ w' = w := Any.slices_Sort_string_none YtcigjlbpdkkflaaGreatDoor.lays190 p cap w
end Go.Proofs
set_option maxRecDepth 10000
namespace Go.Proofs.YtcigjlbpdkkflaaGreatDoor
open Go.Sh Go.ChangeShapes
open Go.RowKit
theorem T53 : SlT PP 100 9 1 16 := ⟨Tryz.underlying100, by kernel_rfl⟩
abbrev leS (x y : Str) : Bool := decide (x ≤ y)
section
variable {Q : Value → World → Prop} {w w0 : World} {T : Tags} {d : Nat} {M : DiskM}
theorem sort_word {a : Option Addr} {c : Nat} {l : List Str} (o : Own w 9 1 a l.length c (l.map strv)) (hn : l.length < 4611686018427387904) (hQ : ∀ w', Own w' 9 1 a l.length c ((l.mergeSort leS).map strv) → Chg (At a) w w' → Q (.tuple #[]) w') : C_slices_Sort_string_string #[.slice a l.length c] w Q := by
  by_cases h0 : l.length = 0
  · have hl : l = [] := List.eq_nil_of_length_eq_zero h0
    subst hl
    refine C_calls Tryz.func93 (by rfl) (by decide) ((slices_Sort_string_none a c w).mono ?_)
    rintro e w' ⟨rfl, rfl⟩
    exact hQ _ (by simpa using o) (Chg.refl _ _)
  · have o' := o
    obtain ⟨ol, orow⟩ := o
    rcases orow with ⟨_, h, _⟩ | ⟨b, rest, rfl, blk, hc, hnc⟩
    · exact absurd h h0
    have hH : Go.Sort.Holds Go.Proofs.encStr w b 0 l.toArray := by
      intro j hj
      have hj' : j < l.length := by simpa using hj
      rw [Nat.zero_add, blk.cell]
      refine ⟨?_, blk.thaw (by rw [List.length_append, List.length_map]; omega)⟩
      rw [List.getElem?_append_left (by simpa using hj'), List.getElem?_map, List.getElem?_eq_getElem hj', getElem!_pos l.toArray j hj]
      simp
    refine C_calls Tryz.func93 (by rfl) (by decide) ((slices_Sort_string b 0 c l w hH blk.lt hn).mono ?_)
    rintro e w' ⟨rfl, n, os, rfl⟩
    have hlen : (l.mergeSort leS).length = l.length := List.length_mergeSort l
    have hblk : Blk (Go.Sort.grow (Go.Sort.putRow Go.Proofs.encStr (Go.Sort.ahead w n) b 0 (l.mergeSort leS).toArray) os) b 9 ((l.mergeSort leS).map strv ++ rest) := by
      obtain ⟨fr, h1, h2⟩ := blk
      refine ⟨fr, ?_, fun i hi => h2 i (by simp only [List.length_append, List.length_map] at *; omega)⟩
      have hb : b < w.heap.size := (Array.getElem?_eq_some_iff.1 h1).1
      rw [Go.Sort.heap_grow_old _ _ (by simpa [Go.Sort.putRow, Go.Sort.mapBlock, Go.Sort.ahead] using hb)]
      simp only [Go.Sort.putRow, Go.Sort.mapBlock, Go.Sort.ahead]
      rw [Array.getElem?_modify, if_pos rfl, h1]
      simp only [Option.map_some, Go.Sort.onCells, Option.some.injEq, Obj.cells.injEq, and_true]
      apply Array.ext
      · simp [Go.Sort.putCells, hlen]
      · intro i g1 g2
        have g2' : i < ((l.mergeSort leS).map strv ++ rest).length := by simpa using g2
        simp only [Go.Sort.putCells, Array.getElem_mapIdx, Nat.sub_zero, Nat.zero_le, true_and, Nat.zero_add, List.size_toArray, List.getElem_toArray]
        by_cases hi : i < (l.mergeSort leS).length
        · rw [if_pos hi, List.getElem_append_left (by simpa using hi), getElem!_pos (l.mergeSort leS).toArray i (by simpa using hi)]
          simp
        · rw [if_neg hi, List.getElem_append_right (by simp only [List.length_map]; omega), List.getElem_append_right (by simpa using hi)]
          simp [hlen]
    refine hQ _ ⟨by simp [hlen], .inr ⟨b, rest, rfl, hblk, by rw [List.length_append, List.length_map, hlen]; rw [List.length_append, List.length_map] at hc; exact hc, hnc⟩⟩ ?_
    refine ⟨rfl, rfl, rfl, ?_, fun k hk hn' => ?_⟩
    · rw [Go.Sort.size_grow]; simp [Go.Sort.putRow, Go.Sort.mapBlock, Go.Sort.ahead]
    · rw [Go.Sort.heap_grow_old _ _ (by simpa [Go.Sort.putRow, Go.Sort.mapBlock, Go.Sort.ahead] using hk)]
      simp only [Go.Sort.putRow, Go.Sort.mapBlock, Go.Sort.ahead]
      rw [Array.getElem?_modify, if_neg (fun e => hn' ⟨_, rfl, e⟩)]
theorem push_str_at {a : Option Addr} {n c : Nat} {l : List Str} (h : Own w 9 1 a n c (l.map strv)) (x : Str) (hn : n < 8796093022207) {K : Option Addr → Nat → Nat → World → Prop}
    (hK : ∀ a' c' w', Own w' 9 1 a' (n + 1) c' ((l ++ [x]).map strv) → Chg (At a) w w' → (∀ k, At a' k → At a k ∨ w.heap.size ≤ k) → K a' (n + 1) c' w') :
    alC #[.string ⟨x.toArray⟩] 9 w fun p w2 => sem PP (Builtin.append_ #[100, 100] 100 #[.slice a n c, .slice (some p) 1 1]) w2 fun v w3 => opnL (some v) fun x xn xc => K x xn xc w3 := by
  have k1 : Chg None w (w.alloc (.cells #[strv x] 9)) := chg_alloc _ _
  show sem PP _ (w.alloc (.cells #[strv x] 9)) _
  refine append_own T53 (h.chg0 k1) (src_two (vs := [strv x]) (n := 1) (c := 1) (sz := 1) Tryz.underlying100 rfl (by simp [Value.oneCell'])) (by simp [maxLen]; omega) (by omega) fun a' c' w' o k f => ?_
  have e : l.map strv ++ [strv x] = (l ++ [x]).map strv := by simp
  rw [e] at o
  refine hK a' c' w' o (Chg.trans k1 k (fun _ _ h => h.elim) fun _ _ h => h) fun y hy => ?_
  rcases f with e | ⟨b, e, hb⟩
  · subst e; exact .inl hy
  · subst e; obtain ⟨p, e, rfl⟩ := hy; cases e; exact .inr (Nat.le_trans k1.size hb)
def preB (p s : Str) : Bool := Go.Lib.hasPrefix s p
structure ListOf (M : DiskM) (p : Str) (l : List Str) : Prop where
  perm : l.Perm ((M.names.map (·.1)).filter (preB p))
  sorted : l.Pairwise (fun a b => a < b)
theorem leS_trans (a b c : Str) : leS a b = true → leS b c = true → leS a c = true := by
  simp only [decide_eq_true_eq]
  exact fun h1 h2 => List.le_trans h1 h2
theorem leS_total (a b : Str) : (leS a b || leS b a) = true := by
  simp only [Bool.or_eq_true, decide_eq_true_eq]
  exact List.le_total a b
theorem sort_list {l : List Str} (hn : l.Nodup) : (l.mergeSort leS).Pairwise (fun a b => a < b) := by
  have h1 := List.pairwise_mergeSort leS_trans leS_total l
  have h2 : (l.mergeSort leS).Nodup := (List.mergeSort_perm l leS).nodup_iff.2 hn
  refine (h1.and h2).imp fun {a b} h => ?_
  have h3 : a ≤ b := by simpa using h.1
  rcases Decidable.em (a < b) with h | h'
  · exact h
  · exact absurd (List.le_antisymm h3 h') h.2
theorem list_loop {it r B : Nat} {p : Str} (hB : 3 < B) (hTB : ∀ k, T k ≠ .free → k < B) (hit : B ≤ it) (hfew : M.names.length < 8796093022207) (hk : (M.names.map (·.1)).Nodup) (hQ : ∀ a c l w', ListOf M p l → Own w' 9 1 a l.length c (l.map strv) → (∀ k, At a k → B ≤ k) → Chg (fun k => B ≤ k) w0 w' → Q (.slice a l.length c) w') :
    ∀ (n : Nat) (rest : List (Str × Value)) (cur : Option (Str × Value)) (a : Option Addr) (c : Nat) (l : List Str) (w : World), rest.length < n → Itr w strv it r (ptrs M.names) rest cur → (∀ x ∈ rest, ∃ s f, x = (s, ptr f)) → T r = .nm → Own w 9 1 a l.length c (l.map strv) → (∀ k, At a k → it < k) → (l ++ (rest.map (·.1)).filter (preB p)).Perm ((M.names.map (·.1)).filter (preB p)) → Chg (fun k => B ≤ k) w0 w →
    N_p_disk_Disk_List.j5 Q ⟨p.toArray⟩ a l.length c ⟨it, 0, none⟩ w
  | 0, _, _, _, _, _, _, hn, _, _, _, _, _, _, _ => by omega
  | n + 1, rest, cur, a, c, l, w, hn, hi, hx, hr, ho, ha, hp, k0 => by
    have hll : l.length ≤ M.names.length := by
      have h1 := hp.length_eq
      have h2 := List.length_filter_le (preB p) (M.names.map (·.1))
      simp only [List.length_append, List.length_map] at h1 h2
      omega
    have hrB : r < B := hTB r (by rw [hr]; simp)
    refine N_p_disk_Disk_List.j5_eq _ _ _ _ _ _ _ ?_
    refine map_next hi (fun he w' k => ?_) fun x rest' hpm w' hi' k => ?_
    · subst he
      show C_slices_Sort_string_string _ _ _
      refine sort_word (ho.chg0 k) (by omega) fun w2 o2 k2 => ?_
      refine ⟨rfl, ?_⟩
      have hnd : l.Nodup := by
        have h1 : l.Perm ((M.names.map (·.1)).filter (preB p)) := by simpa using hp
        exact h1.nodup_iff.2 (hk.sublist List.filter_sublist)
      have hperm := List.mergeSort_perm l leS
      have hlen := hperm.length_eq
      have o3 : Own w2 9 1 a (l.mergeSort leS).length c ((l.mergeSort leS).map strv) := by rw [hlen]; exact o2
      have := hQ a c (l.mergeSort leS) w2 ⟨hperm.trans (by simpa using hp), sort_list hnd⟩ o3 (fun y hy => by have := ha y hy; omega) (Chg.trans (Chg.trans k0 k (fun _ _ h => h) fun _ _ h => h.elim) k2 (fun _ _ h => h) fun y _ hy => by have := ha y hy; omega)
      rw [hlen] at this
      exact this
    · obtain ⟨s, f, rfl⟩ := hx x (hpm.mem_iff.2 (by simp))
      refine map_entry hi' ?_
      refine ⟨rfl, ?_⟩
      show C_strings_HasPrefix #[.string ⟨s.toArray⟩, .string ⟨p.toArray⟩] w' _
      have hl := hpm.length_eq
      rw [List.length_cons] at hl
      have k1 : Chg (fun k => B ≤ k) w0 w' := Chg.trans k0 k (fun _ _ h => h) fun y _ hy => by omega
      have ho' := ho.chg k fun y hy => by have := ha y hy; omega
      have hpc : ((rest.map (·.1)).filter (preB p)).Perm (((s, ptr f) :: rest').map (·.1) |>.filter (preB p)) := (hpm.map _).filter _
      refine C_calls Tryz.func92 (by rfl) (by decide) ((strings_HasPrefix ⟨s.toArray⟩ ⟨p.toArray⟩ w').mono ?_)
      rintro e w2 ⟨rfl, rfl⟩
      refine opnB_c rfl ?_
      have hpre : Go.Lib.hasPrefix (⟨s.toArray⟩ : ByteArray).data.toList (⟨p.toArray⟩ : ByteArray).data.toList = preB p s := by unfold preB; simp
      rw [hpre]
      have hrec : ∀ y ∈ rest', ∃ s f, y = (s, ptr f) := fun y hy => hx y (hpm.mem_iff.2 (List.mem_cons_of_mem _ hy))
      cases hb : preB p s with
      | true =>
        rw [cond_true]
        refine push_str_at ho' s (by omega) fun a' c' w3 o3 k3 f3 => ?_
        have hl1 : (l ++ [s]).length = l.length + 1 := by simp
        rw [← hl1] at o3 ⊢
        refine list_loop hB hTB hit hfew hk hQ n rest' _ a' c' (l ++ [s]) w3 (by omega) (hi'.chg k3 (fun h => by have := ha r h; omega) fun h => by have := ha it h; omega) hrec hr o3 (fun y hy => ?_) ?_ (Chg.trans k1 k3 (fun _ _ h => h) fun y _ hy => by have := ha y hy; omega)
        · rcases f3 y hy with h | h
          · exact ha y h
          · have := hi'.lt.1; omega
        · refine List.Perm.trans ?_ hp
          have e : l ++ [s] ++ (rest'.map (·.1)).filter (preB p) = l ++ (((s, ptr f) :: rest').map (·.1)).filter (preB p) := by
            rw [List.map_cons, List.filter_cons_of_pos (by exact hb), List.append_assoc]; rfl
          rw [e]
          exact List.Perm.append_left l hpc.symm
      | false =>
        rw [cond_false]
        refine list_loop hB hTB hit hfew hk hQ n rest' _ a c l w2 (by omega) hi' hrec hr ho' ha ?_ k1
        refine List.Perm.trans ?_ hp
        have e : (rest'.map (·.1)).filter (preB p) = (((s, ptr f) :: rest').map (·.1)).filter (preB p) := by
          rw [List.map_cons, List.filter_cons_of_neg (by rw [show preB p ((s, ptr f) : Str × Value).1 = preB p s from rfl, hb]; simp)]
        rw [e]
        exact List.Perm.append_left l hpc.symm
theorem ptrs_keys (m : Names) : (ptrs m).map (·.1) = m.map (·.1) := by unfold ptrs; rw [List.map_map]; rfl
theorem list_word (hd : DiskAt w T d M) (p : Str) (hfew : M.names.length < 8796093022207) (hdead : M.dead = true → ∀ w', Chg None w w' → Q (.slice none 0 0) w') (hQ : M.dead = false → ∀ a c l w', ListOf M p l → Own w' 9 1 a l.length c (l.map strv) → (∀ k, At a k → w.heap.size ≤ k) → Chg None w w' → Q (.slice a l.length c) w') : C_p_disk_Disk_List #[ptr d, strv p] w Q := by
  have hd2 := hd
  obtain ⟨nb, lb, ad, ac, xs, hv⟩ := hd2
  refine C_p_disk_Disk_List_eq _ _ _ _ ?_
  rw [opnA_e]
  refine opnB_c (hv.blk.rd 8 rfl) ?_
  cases hM : M.dead with
  | true => rw [cond_true]; exact hdead hM w (Chg.refl _ _)
  | false =>
    rw [cond_false, opnA_e]
    refine opnM_c (hv.blk.rd 1 rfl) ?_
    refine map_range M65 hv.nm fun it w1 hi k hit => ?_
    show N_p_disk_Disk_List.j5 _ _ _ _ _ _ _
    refine list_loop (w0 := w) (T := T) (M := M) (B := w.heap.size) hv.std.lt hv.size hit hfew (by rw [← ptrs_keys]; exact hv.nm.keys) (fun a c l w' hl o ha k' => hQ hM a c l w' hl o ha (k'.mono fun x hx h => by omega)) _ _ _ none 0 [] w1 (Nat.lt_succ_self _) hi (fun x hx => ?_) hv.nmT Own.nil (fun k hk => by obtain ⟨_, e, _⟩ := hk; cases e) ?_ (k.mono fun _ _ h => h.elim)
    · obtain ⟨y, hy, rfl⟩ := List.mem_map.1 hx
      exact ⟨y.1, y.2, rfl⟩
    · rw [ptrs_keys]; exact List.Perm.refl _
end
end Go.Proofs.YtcigjlbpdkkflaaGreatDoor
namespace Go.Proofs
open Go.Shelf
def YtcigjlbpdkkflaaGreatDoor.laysMc_ren : Go.Shelf.Ren := ⟨fun | 5 => 54 | 7 => 99 | n => n, fun | 23 => 116 | 25 => 9 | 3 => 115 | 4 => 4 | 20 => 20 | n => n, fun | n => n⟩
theorem YtcigjlbpdkkflaaGreatDoor.laysMc : Go.Proofs.SlLaysW.n5 Tryz.prog YtcigjlbpdkkflaaGreatDoor.laysMc_ren := {
  mixed := by kernel_rfl
  f5 := ⟨Tryz.f54.name, by decide, Tryz.func54.trans (congrArg some (by kernel_rfl))⟩
  f7 := Tryz.func99.trans (congrArg some (by kernel_rfl))
  t4 := Tryz.underlying4
  a4 := Tryz.isAgg4
  z4 := Tryz.sizeOf4
  v4 := Tryz.zeroValue4
  t20 := Tryz.underlying20
  a20 := Tryz.isAgg20
  z20 := Tryz.sizeOf20
  v20 := Tryz.zeroValue20
  t23 := Tryz.underlying116
  a23 := Tryz.isAgg116
  z23 := Tryz.sizeOf116
  v23 := Tryz.zeroValue116 }
open Go.RowKit in
theorem YtcigjlbpdkkflaaGreatDoor.maps_Clone (b : Nat) (es : Array MapEntry) (clock : Nat) (w : World) (hb : w.heap[b]? = some (.map es clock)) :
    Calls Tryz.prog 54 #[.map (some b)] w fun e w' => e = .returned (.map (some w.heap.size)) ∧ w' = w.alloc (.map es clock) := AnyW.maps_Clone YtcigjlbpdkkflaaGreatDoor.laysMc b es clock w hb
end Go.Proofs
set_option maxRecDepth 10000
namespace Go.Proofs.YtcigjlbpdkkflaaGreatDoor
open Go.Sh Go.ChangeShapes
open Go.RowKit
theorem T43 : SlT PP 22 26 2 40 := ⟨Tryz.underlying22, by kernel_rfl⟩
structure FileX where
  name : Str
  data : List UInt8
  q : Option Addr
  c : Nat
def fileCells (x : FileX) : List Value := [strv x.name, .slice x.q x.data.length x.c]
structure FilesAt (w : World) (B : Nat) (a : Option Addr) (c : Nat) (xs : List FileX) : Prop where
  own : Own w 26 2 a xs.length c (xs.flatMap fileCells)
  each : ∀ x ∈ xs, Own w 5 1 x.q x.data.length x.c (bvs x.data)
  base : ∀ k, At a k → B ≤ k
  baseq : ∀ x ∈ xs, ∀ k, At x.q k → B ≤ k ∧ ¬ At a k
  apart : xs.Pairwise (fun x y => ∀ k, At x.q k → ¬ At y.q k)
structure FilesOf (M : DiskM) (xs : List FileX) : Prop where
  list : ListOf M [] (xs.map (·.name))
  file : ∀ x ∈ xs, ∃ f, Go.Sh.look x.name M.names = some f ∧ (M.file f).now = x.data
section
variable {Q : Value → World → Prop} {w w0 : World} {T : Tags} {d : Nat} {M : DiskM}
theorem FilesAt.chg0 {w' : World} {B : Nat} {a : Option Addr} {c : Nat} {xs : List FileX} (h : FilesAt w B a c xs) (k : Chg None w w') : FilesAt w' B a c xs :=
  ⟨h.own.chg0 k, fun x hx => (h.each x hx).chg0 k, h.base, h.baseq, h.apart⟩
theorem mapclone_word {r : Nat} {m : List (Str × Value)} (h : HMap w strv r m) (hQ : ∀ b w', HMap w' strv b m → Chg None w w' → w.heap.size ≤ b → Q (.map (some b)) w') : C_maps_Clone_map_string_disk_content_string_disk_content #[.map (some r)] w Q := by
  obtain ⟨l, clock, ⟨h1, h2, h3⟩, hm⟩ := h.ex
  refine C_calls Tryz.func54 (by rfl) (by decide) ((maps_Clone r _ clock w h1).mono ?_)
  rintro e w' ⟨rfl, rfl⟩
  exact hQ _ _ ⟨⟨l, clock, ⟨by show (w.heap.push _)[w.heap.size]? = _; simp, h2, h3⟩, hm⟩, h.keys⟩ (chg_alloc _ _) (Nat.le_refl _)
theorem files_loop {B : Nat} {ad : Option Addr} {ac : Nat} {L : List Str} (hTB : ∀ k, T k ≠ .free → k < B) (hl : ∀ y ∈ L, ∃ f, Go.Sh.look y M.names = some f) (hlen : L.length ≤ 1000000000) (hLB : ∀ k, At ad k → k < B) (hQ : ∀ a c xs w', FilesAt w' B a c xs → xs.map (·.name) = L → (∀ x ∈ xs, ∃ f, Go.Sh.look x.name M.names = some f ∧ (M.file f).now = x.data) → Chg (fun k => B ≤ k) w0 w' → Q (.slice a xs.length c) w') (hB : 3 < B) :
    ∀ (r pre : List Str) (xs : List FileX) (a : Option Addr) (c : Nat) (w : World), L = pre ++ r → xs.map (·.name) = pre → (∀ x ∈ xs, ∃ f, Go.Sh.look x.name M.names = some f ∧ (M.file f).now = x.data) → DiskAt w T d M → FilesAt w B a c xs → Own w 9 1 ad L.length ac (L.map strv) → Chg (fun k => B ≤ k) w0 w → B ≤ w.heap.size →
    N_p_disk_Disk_Files.j3 Q (some ⟨d, 0, none⟩) a xs.length c ad L.length ac (L.length : Int) (pre.length : Int) w
  | [], pre, xs, a, c, w, he, hn, hf, hd, hx, ho, k0, _ => by
    have hp : L.length = pre.length := by rw [he]; simp
    apply N_p_disk_Disk_Files.j3_eq
    rw [decide_eq_false (by omega), cond_false]
    exact hQ a c xs w hx (by rw [hn, he]; simp) hf k0
  | y :: r, pre, xs, a, c, w, he, hn, hf, hd, hx, ho, k0, hBw => by
    have hp : L.length = pre.length + (r.length + 1) := by rw [he]; simp
    have hxl : xs.length = pre.length := by rw [← hn, List.length_map]
    apply N_p_disk_Disk_Files.j3_eq
    rw [decide_eq_true (by omega), cond_true]
    refine ⟨by omega, by omega, rd_str ho (l := y) (by rw [he]; simp) ?_⟩
    rw [opnA_e]
    have hd2 := hd
    obtain ⟨nb, lb, ad2, ac2, xs2, hv⟩ := hd2
    refine opnM_c (hv.blk.rd 1 rfl) ?_
    refine map_lookup M65 K9 z72 hv.nm y ?_
    obtain ⟨f, hfy⟩ := hl y (by rw [he]; simp)
    rw [look_ptrs, hfy]
    refine opnP_c rfl ?_
    rw [opnA_e]
    have hfl : T f = .fl := hv.nmF (y, f) (look_mem hfy)
    obtain ⟨na, nc, la, lc, wa, wc, ys, hF⟩ := hv.file f hfl
    have hnow := hv.ok.now f hfl
    refine opnL_c (hF.blk.rd 0 rfl) ?_
    refine clone_word hF.now.lies (by omega) fun q cq w10 oq fq k10 => ?_
    refine opnL_c rfl ?_
    have k13 : Chg None w10 (w10.alloc (.cells (fileCells (FileX.mk y (M.file f).now q cq)).toArray 26)) := chg_alloc _ _
    show sem PP _ (w10.alloc (.cells (fileCells (FileX.mk y (M.file f).now q cq)).toArray 26)) _
    have k1013 := Chg.none_trans k10 k13
    have hs10 := k10.size
    have hs13 := k13.size
    refine append_own T43 (hx.own.chg0 k1013) (src_two (vs := fileCells (FileX.mk y (M.file f).now q cq)) (n := 1) (c := 1) (sz := 2) Tryz.underlying22 rfl (fun u hu => by
      simp only [fileCells, List.mem_cons, List.not_mem_nil, or_false] at hu
      rcases hu with rfl | rfl <;> rfl)) (by simp [maxLen]; omega) (by omega) fun a' c' w15 o15 k15 f15 => ?_
    refine opnL_c rfl ?_
    rw [wrap_nat (by omega)]
    have hxs : (xs ++ [(FileX.mk y (M.file f).now q cq)]).length = xs.length + 1 := by simp
    have efl : xs.flatMap fileCells ++ fileCells (FileX.mk y (M.file f).now q cq) = (xs ++ [(FileX.mk y (M.file f).now q cq)]).flatMap fileCells := by simp
    rw [efl, ← hxs] at o15
    rw [← hxs]
    have ha' : ∀ k, At a' k → At a k ∨ w10.heap.size ≤ k := fun k hk => by
      rcases f15 with e | ⟨b, e, hb⟩
      · subst e; exact .inl hk
      · subst e; obtain ⟨p, e, rfl⟩ := hk; cases e; exact .inr (Nat.le_trans hs13 hb)
    have k015 : Chg (fun k => B ≤ k) w w15 := Chg.trans k1013 k15 (fun _ _ h => h.elim) fun x _ h => hx.base x h
    have hqa : ∀ k, At q k → ¬ At a' k := fun k hk h => by
      have h1 := fq k hk
      have h2 := oq.lt hk
      rcases ha' k h with h | h
      · have := hx.own.lt h; omega
      · omega
    have hnew : FilesAt w15 B a' c' (xs ++ [(FileX.mk y (M.file f).now q cq)]) := by
      refine ⟨o15, fun x hxx => ?_, fun k hk => ?_, fun x hxx k hk => ?_, ?_⟩
      · rcases List.mem_append.1 hxx with h | h
        · exact ((hx.each x h).chg0 k1013).chg k15 fun k hk => (hx.baseq x h k hk).2
        · rw [List.mem_singleton.1 h]
          exact (oq.chg0 k13).chg k15 fun k hk h => by have := fq k hk; have := hx.own.lt h; omega
      · rcases ha' k hk with h | h
        · exact hx.base k h
        · omega
      · rcases List.mem_append.1 hxx with h | h
        · refine ⟨(hx.baseq x h k hk).1, fun h2 => ?_⟩
          rcases ha' k h2 with h3 | h3
          · exact (hx.baseq x h k hk).2 h3
          · have := (hx.each x h).lt hk; omega
        · rw [List.mem_singleton.1 h] at hk
          exact ⟨by have := fq k hk; omega, hqa k hk⟩
      · rw [List.pairwise_append]
        refine ⟨hx.apart, by simp, fun x hxx z hz k hk h => ?_⟩
        rw [List.mem_singleton.1 hz] at h
        have := (hx.each x hxx).lt hk
        have := fq k h
        omega
    have := files_loop hTB hl hlen hLB hQ hB r (pre ++ [y]) (xs ++ [(FileX.mk y (M.file f).now q cq)]) a' c' w15 (by rw [he]; simp) (by simp [hn]) (fun x hxx => by
      rcases List.mem_append.1 hxx with h | h
      · exact hf x h
      · rw [List.mem_singleton.1 h]; exact ⟨f, hfy, rfl⟩) (hd.chg k015 (by omega) fun x hx h => by have := hTB x hx; omega) hnew (ho.chg k015 fun k hk h => by have := hLB k hk; omega) (Chg.trans k0 k015 (fun _ _ h => h) fun _ _ h => h) (Nat.le_trans hBw k015.size)
    simpa using this
theorem files_word (hd : DiskAt w T d M) (hfew : M.names.length ≤ 1000000000) (hdead : M.dead = true → ∀ w', Chg None w w' → Q (.slice none 0 0) w') (hQ : M.dead = false → ∀ a c xs w', FilesAt w' w.heap.size a c xs → FilesOf M xs → Chg None w w' → Q (.slice a xs.length c) w') : C_p_disk_Disk_Files #[ptr d] w Q := by
  apply C_p_disk_Disk_Files_eq
  refine list_word hd [] (by omega) (fun hM w2 k2 => ?_) fun hM ad ac L w2 hL oL hLB k2 => ?_
  · refine opnL_c rfl ?_
    apply N_p_disk_Disk_Files.j3_eq
    exact hdead hM w2 k2
  · refine opnL_c rfl ?_
    have hall : (M.names.map (·.1)).filter (preB []) = M.names.map (·.1) := List.filter_eq_self.2 fun x _ => by simp [preB, Go.Lib.hasPrefix]
    have hLl : L.length = M.names.length := by
      have := hL.perm.length_eq
      rw [hall, List.length_map] at this
      exact this
    have hd2 := hd.chg0 k2
    obtain ⟨nb, lb, ad2, ac2, xs2, hv⟩ := hd2
    refine files_loop (w0 := w2) (T := T) (M := M) (B := w2.heap.size) hv.size (fun y hy => ?_) (by omega) (fun k hk => oL.lt hk) (fun a c xs w' hx hn hf k' => ?_) hv.std.lt L [] [] none 0 w2 rfl rfl (fun x hx => by cases hx) (hd.chg0 k2) ⟨Own.nil, (fun x hx => by cases hx), (fun k hk => by obtain ⟨_, e, _⟩ := hk; cases e), (fun x hx => by cases hx), .nil⟩ oL (Chg.refl _ _) (Nat.le_refl _)
    · have := hL.perm.mem_iff.1 hy
      rw [hall] at this
      cases hl : Go.Sh.look y M.names with
      | some f => exact ⟨f, rfl⟩
      | none => exact absurd this (look_none.1 hl)
    · have hs2 := k2.size
      refine hQ hM a c xs w' ⟨hx.own, hx.each, fun k hk => Nat.le_trans hs2 (hx.base k hk), fun x hxx k hk => ⟨Nat.le_trans hs2 (hx.baseq x hxx k hk).1, (hx.baseq x hxx k hk).2⟩, hx.apart⟩ ⟨by rw [hn]; exact hL, hf⟩ (Chg.none_trans k2 (k'.mono fun x hx h => by omega))
end
end Go.Proofs.YtcigjlbpdkkflaaGreatDoor
namespace Go.Sh
open Go.ChangeShapes Go.Instr
theorem keys_of {κ : Type} {G : κ → Prop} {l : List (Ent κ)} (h : ∀ x ∈ l.map kv, G x.1) : ∀ x ∈ l, G x.1 := fun x hx => h (kv x) (List.mem_map_of_mem hx)
section
variable {P : Program} {κ : Type} [DecidableEq κ]
structure KeyW (P : Program) (kt : Nat) (enc : κ → Value) (w : World) (G : κ → Prop) : Prop where
  check : ∀ (a : κ) (e : Bool), (checkKey e 10000 kt (enc a)).run P w = .ok () w
  find : ∀ (a : κ), G a → ∀ (l : List (Ent κ)), (∀ x ∈ l, G x.1) → (findKey kt (enc a) (l.map (ent enc))).run P w = .ok (fnd a l 0) w
  same : ∀ a, sameBits 10000 (enc a) (enc a) = true
variable {w w' : World} {enc : κ → Value} {r : Nat} {m : List (κ × Value)}
theorem mapw_lookup {t kt et : Nat} {z : Value} (ht : P.underlying t = some (.map kt et)) {G : κ → Prop} (K1 : KeyW P kt enc w G) (hz : (P.info? et).bind (·.zero) = some z) (h : HMap w enc r m) (a : κ) (ha : G a) (hG : ∀ x ∈ m, G x.1) {K : Value → Prop} (hK : K ((look a m).getD z)) : semR P (Instr.lookup t (.map (some r)) (enc a) false) w K := by
  obtain ⟨l, c, ⟨h1, _, _⟩, rfl⟩ := h.ex
  obtain ⟨i, hi, hz⟩ := Option.bind_eq_some_iff.1 hz
  have hzero : (zeroValue et).run P w = .ok z w := by simp [zeroValue, typeInfo, hi, hz, go_sem]
  unfold semR
  have hf := fnd_look a l 0
  cases hfd : fnd a l 0 with
  | none =>
    rw [hfd] at hf
    simp only [Option.map_none] at hf
    rw [← hf] at hK
    simp only [Instr.lookup, Sem.run_bind, run_underlying ht, Result.andThen_ok, run_getObj h1, K1.check, K1.find a ha l (keys_of hG), hfd, hzero, Sem.run_pure]
    simpa using hK
  | some x =>
    rw [hfd] at hf
    simp only [Option.map_some] at hf
    rw [← hf] at hK
    simp only [Instr.lookup, Sem.run_bind, run_underlying ht, Result.andThen_ok, run_getObj h1, K1.check, K1.find a ha l (keys_of hG), hfd, Sem.run_pure]
    simpa using hK
theorem mapw_update {t kt et : Nat} (ht : P.underlying t = some (.map kt et)) {G : κ → Prop} (K1 : KeyW P kt enc w G) (h : HMap w enc r m) (a : κ) (ha : G a) (hG : ∀ x ∈ m, G x.1) (v : Value) {K : World → Prop} (hK : ∀ w', HMap w' enc r (put a v m) → Chg (fun k => k = r) w w' → K w') : semU P (Instr.mapUpdate t (.map (some r)) (enc a) v) w K := by
  have hlt := h.lt
  have hkeys := h.keys
  obtain ⟨l, c, ⟨h1, h2, h3⟩, rfl⟩ := h.ex
  unfold semU
  cases hfd : fnd a l 0 with
  | none =>
    have hno := fnd_none a l 0 hfd
    simp only [Instr.mapUpdate, Sem.run_bind, run_underlying ht, Result.andThen_ok, run_getObj h1, K1.check, K1.find a ha _ (keys_of hG), hfd, run_setObj h1]
    refine hK _ ⟨⟨l ++ [(a, v, c)], c + 1, ⟨?_, ?_, ?_⟩, ?_⟩, put_nodup hkeys⟩ chg_set
    · rw [get_set hlt]
      congr 2
      simp [ent]
    · rw [List.map_append, List.nodup_append]
      refine ⟨h2, by simp, fun x hx y hy => ?_⟩
      obtain ⟨z, hz, rfl⟩ := List.mem_map.1 hx
      simp only [List.map_cons, List.map_nil, List.mem_singleton] at hy
      have := h3 z hz
      omega
    · intro x hx
      rcases List.mem_append.1 hx with hx | hx
      · have := h3 x hx; omega
      · simp at hx; subst hx; simp
    · rw [put_new (by intro y hy; obtain ⟨z, hz, rfl⟩ := List.mem_map.1 hy; exact hno z hz)]
      simp [kv]
  | some x =>
    obtain ⟨j, v0⟩ := x
    obtain ⟨l1, x, l2, rfl, rfl, hx, rfl, hl1⟩ := fnd_some a l 0 j v0 hfd
    have hold : ((((l1 ++ x :: l2).map (ent enc)).toArray[0 + l1.length]?).map (·.key)).getD (enc a) = enc a := by
      simp [ent, hx]
    simp only [Instr.mapUpdate, Sem.run_bind, run_underlying ht, Result.andThen_ok, run_getObj h1, K1.check, K1.find a ha _ (keys_of hG), hfd, hold, keyThatStays, K1.same, if_true, Sem.run_pure, run_setObj h1]
    have hmod : (((l1 ++ x :: l2).map (ent enc)).toArray.modify (0 + l1.length) fun e => { e with key := enc a, val := v }) = ((l1 ++ (a, v, x.2.2) :: l2).map (ent enc)).toArray := by
      apply Array.ext'
      rw [Array.toList_modify]
      simp only [Nat.zero_add, List.map_append, List.map_cons]
      rw [show l1.length = (l1.map (ent enc)).length by simp, modify_mid]
      simp [ent]
    rw [hmod]
    refine hK _ ⟨⟨l1 ++ (a, v, x.2.2) :: l2, c, ⟨by rw [get_set hlt], ?_, ?_⟩, ?_⟩, put_nodup hkeys⟩ chg_set
    · simpa using h2
    · intro y hy
      simp only [List.mem_append, List.mem_cons] at hy
      rcases hy with hy | rfl | hy
      · exact h3 y (by simp [hy])
      · exact h3 x (by simp)
      · exact h3 y (by simp [hy])
    · rw [List.map_append, List.map_cons, List.map_append, List.map_cons, put_app (x := kv x) hx (by intro y hy; obtain ⟨z, hz, rfl⟩ := List.mem_map.1 hy; exact hl1 z hz)]
      rfl
end
section
variable {P : Program}
abbrev pblk (f : Nat) : Value := .pointer (some ⟨f, 0, none⟩)
def RawB (w : World) (t : TypeId) (f : Nat) : Prop := ∃ cs, w.heap[f]? = some (.cells cs t (0, 0))
theorem equalIn_ptr {kt e : Nat} {i : TypeInfo} (hk : P.underlying kt = some (.pointer e)) (hi : P.info? e = some i) (hz : P.cellsOf e ≠ 0) {w : World} (d : Nat) (a b : Addr) : (Op.equalIn (d + 1) kt (.pointer (some a)) (.pointer (some b))).run P w = (sameAddr a b).run P w := by
  simp only [Op.equalIn, Sem.run_bind, run_underlying hk, Result.andThen_ok, run_sizeOf w hi]
  rw [if_pos hz]
theorem equal_blk {kt e t : Nat} {i : TypeInfo} (hk : P.underlying kt = some (.pointer e)) (hi : P.info? e = some i) (hz : P.cellsOf e ≠ 0) {w : World} {a b : Nat} (ha : RawB w t a) (hb : RawB w t b) : (Op.equal kt (pblk a) (pblk b)).run P w = .ok (decide (a = b)) w := by
  show (Op.equalIn (9999 + 1) kt _ _).run P w = _
  rw [equalIn_ptr hk hi hz]
  by_cases h : a = b
  · subst h
    rw [decide_eq_true rfl]
    exact run_sameAddr_same w _
  · obtain ⟨ca, ha⟩ := ha
    obtain ⟨cb, hb⟩ := hb
    rw [decide_eq_false h]
    exact run_sameAddr_other w (fun e => h (congrArg Addr.block e)) ha hb
theorem find_asking_at {kt : Nat} {κ : Type} [DecidableEq κ] {enc : κ → Value} {w : World} {G : κ → Prop} (heq : ∀ a b : κ, G a → G b → (Op.equal kt (enc a) (enc b)).run P w = .ok (decide (a = b)) w) (a : κ) (ha : G a) : ∀ (l : List (Ent κ)) (i : Nat), (∀ x ∈ l, G x.1) → (findAsking kt (enc a) (l.map (ent enc)) i).run P w = .ok (fnd a l i) w
  | [], i, _ => by simp [findAsking, fnd]
  | x :: l, i, hG => by
    have := find_asking_at heq a ha l (i + 1) fun y hy => hG y (List.mem_cons_of_mem _ hy)
    simp only [List.map_cons, findAsking, Sem.run_bind, fnd, ent, heq a x.1 ha (hG x (by simp)), Result.andThen_ok]
    by_cases h : x.1 = a
    · rw [if_pos h, decide_eq_true h.symm]; simp
    · rw [if_neg h, decide_eq_false fun e => h e.symm]; simpa using this
theorem check_ptr {kt e : Nat} (hk : P.underlying kt = some (.pointer e)) (w : World) (a : Nat) (em : Bool) (n : Nat) : (checkKey em (n + 1) kt (pblk a)).run P w = .ok () w := by
  simp only [checkKey, Sem.run_bind, run_underlying hk, Result.andThen_ok, Sem.run_pure]
theorem key_blk {kt e t : Nat} {i : TypeInfo} (hk : P.underlying kt = some (.pointer e)) (hi : P.info? e = some i) (hz : P.cellsOf e ≠ 0) (w : World) : KeyW P kt pblk w (RawB w t) where
  check a em := check_ptr hk w a em 9999
  find a ha l hl := by
    have := find_asking_at (fun a b ha hb => equal_blk (t := t) hk hi hz ha hb) a ha l 0 hl
    cases l with
    | nil => simp [findKey, run_underlying hk, findNow, fnd]
    | cons x l =>
      simp only [findKey, Sem.run_bind, run_underlying hk, Result.andThen_ok, List.map_cons, findNow, sameNow]
      simpa using this
  same a := by
    show ((some ⟨a, 0, none⟩ : Option Addr) == some ⟨a, 0, none⟩) = true
    simp
end
end Go.Sh
set_option maxRecDepth 10000
namespace Go.Proofs.YtcigjlbpdkkflaaGreatDoor
open Go.Sh Go.ChangeShapes
open Go.RowKit
theorem i75 : ∃ i, PP.info? 114 = some i := by
  cases h : PP.info? 114 with
  | some i => exact ⟨i, rfl⟩
  | none =>
    have := Tryz.underlying114
    unfold Program.underlying at this
    rw [show Tryz.prog.info? 114 = none from h] at this
    cases this
theorem c75 : PP.cellsOf 114 ≠ 0 := by
  have : PP.cellsOf 114 = 3 := by kernel_rfl
  omega
theorem keyF (w : World) : KeyW PP 115 pblk w (RawB w 114) := by
  obtain ⟨i, hi⟩ := i75
  exact key_blk Tryz.underlying115 hi c75 w
section
variable {Q : Value → World → Prop} {w w0 : World} {T : Tags} {d : Nat} {M : DiskM}
end
end Go.Proofs.YtcigjlbpdkkflaaGreatDoor
set_option maxRecDepth 10000
namespace Go.Proofs.YtcigjlbpdkkflaaGreatDoor
open Go.Sh Go.ChangeShapes
open Go.RowKit
theorem act_one {w : World} {T : Tags} {a : ActM} {v : Value} (ha : ActAt w T a v) : v.oneCell' = true := by
  cases a with
  | create n f => obtain ⟨p, q, rfl, _⟩ := ha; rfl
  | rename a b => obtain ⟨p, q, rfl, _⟩ := ha; rfl
  | remove n => obtain ⟨q, rfl, _⟩ := ha; rfl
theorem opnN_e {k x : Value} {A : Prop} {B : Value → Value → Prop} : opnN (.tuple #[.bool true, k, x]) A B = B k x := rfl
section
variable {Q : Value → World → Prop} {w w0 : World} {T : Tags} {d : Nat} {M : DiskM}
end
end Go.Proofs.YtcigjlbpdkkflaaGreatDoor
