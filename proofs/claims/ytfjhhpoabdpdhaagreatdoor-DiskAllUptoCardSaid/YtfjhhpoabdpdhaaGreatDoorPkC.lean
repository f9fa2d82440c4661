/- ShF0, ShF1, ShF2 -/
import Derived.Test.YtfjhhpoabdpdhaaGreatDoorPkB
set_option maxRecDepth 100000
namespace Go.Proofs.YtfjhhpoabdpdhaaGreatDoor
open Go.Sh
noncomputable def B_l12_DiskSwap : Code := match Tryz.f3.body with | some c => c | _ => .skip
noncomputable def X_l12_DiskSwap : Cx := { P := PP, fn := 3, N := 160, tab := tab, results := [.tmp 4], iter := fun _ => (.none, .none), dyn := fun _ => false, live := fun r => cond (Nat.beq r 5) (some []) (cond (Nat.beq r 7) (some []) (cond (Nat.beq r 17) (some [3, 5, 6, 7, 8, 14]) (cond (Nat.beq r 18) (some []) (cond (Nat.beq r 19) (some [3, 5, 6, 7, 8, 14]) (cond (Nat.beq r 20) (some [5, 6, 8, 14, 15, 16]) (cond (Nat.beq r 21) (some []) (cond (Nat.beq r 22) (some [5, 6, 8, 14, 15]) (cond (Nat.beq r 23) (some [5, 6, 8, 14, 15, 17]) (cond (Nat.beq r 29) (some [19]) (cond (Nat.beq r 32) (some [18, 19]) (none))))))))))) }
theorem K_l12_DiskSwap : OkF X_l12_DiskSwap B_l12_DiskSwap Tryz.f3 := ⟨⟨tab_ok, mix_ok⟩, Tryz.func3, by kernel_rfl, by kernel_rfl, by kernel_rfl, by kernel_rfl⟩
noncomputable def N_l12_DiskSwap.j5 (Q : Value → World → Prop) (w : World) : Prop := Nd X_l12_DiskSwap Q [] [.code (B_l12_DiskSwap.r.r.r.r.l.r.l.l), .code (B_l12_DiskSwap.r.r.r.r.l.r.l.r), .code (B_l12_DiskSwap.r.r.r.r.r)] w
noncomputable def N_l12_DiskSwap.j7 (Q : Value → World → Prop) (w : World) : Prop := Nd X_l12_DiskSwap Q [] [.code (B_l12_DiskSwap.r.r.r.r.r.l.r.l.l), .code (B_l12_DiskSwap.r.r.r.r.r.l.r.l.r), .code (B_l12_DiskSwap.r.r.r.r.r.r)] w
noncomputable def N_l12_DiskSwap.j17 (Q : Value → World → Prop) (s3 : Addr) (s5 : Option Addr) (s5n : Nat) (s5c : Nat) (s6 : Option Addr) (s6n : Nat) (s6c : Nat) (s7 : Option Addr) (s8 : Int) (s14 : Bool) (w : World) : Prop := Nd X_l12_DiskSwap Q [(3, 3, .pointer (some s3)), (5, 5, .slice s5 s5n s5c), (6, 6, .slice s6 s6n s6c), (7, 7, .pointer s7), (8, 8, .int .i64 s8), (14, 14, .bool s14)] [.code (B_l12_DiskSwap.r.r.r.r.r.r.r.r.r.r.r.r.r.r.l.l), .code (B_l12_DiskSwap.r.r.r.r.r.r.r.r.r.r.r.r.r.r.l.r), .code (B_l12_DiskSwap.r.r.r.r.r.r.r.r.r.r.r.r.r.r.r)] w
noncomputable def N_l12_DiskSwap.j18 (Q : Value → World → Prop) (w : World) : Prop := Nd X_l12_DiskSwap Q [] [.code (B_l12_DiskSwap.r.r.r.r.r.r.r.r.r.r.r.r.r.r.l.r.l.l), .code (B_l12_DiskSwap.r.r.r.r.r.r.r.r.r.r.r.r.r.r.l.r.l.r), .code (B_l12_DiskSwap.r.r.r.r.r.r.r.r.r.r.r.r.r.r.r)] w
noncomputable def N_l12_DiskSwap.j19 (Q : Value → World → Prop) (s3 : Addr) (s5 : Option Addr) (s5n : Nat) (s5c : Nat) (s6 : Option Addr) (s6n : Nat) (s6c : Nat) (s7 : Option Addr) (s8 : Int) (s14 : Bool) (w : World) : Prop := Nd X_l12_DiskSwap Q [(3, 3, .pointer (some s3)), (5, 5, .slice s5 s5n s5c), (6, 6, .slice s6 s6n s6c), (7, 7, .pointer s7), (8, 8, .int .i64 s8), (14, 14, .bool s14)] [.code (B_l12_DiskSwap.r.r.r.r.r.r.r.r.r.r.r.r.r.r.r.l), .code (B_l12_DiskSwap.r.r.r.r.r.r.r.r.r.r.r.r.r.r.r.r)] w
noncomputable def N_l12_DiskSwap.j20 (Q : Value → World → Prop) (s5 : Option Addr) (s5n : Nat) (s5c : Nat) (s6 : Option Addr) (s6n : Nat) (s6c : Nat) (s8 : Int) (s14 : Bool) (s15 : Option Addr) (s15n : Nat) (s15c : Nat) (s16 : Bool) (w : World) : Prop := Nd X_l12_DiskSwap Q [(5, 5, .slice s5 s5n s5c), (6, 6, .slice s6 s6n s6c), (8, 8, .int .i64 s8), (14, 14, .bool s14), (15, 15, .slice s15 s15n s15c), (16, 16, .bool s16)] [.code (B_l12_DiskSwap.r.r.r.r.r.r.r.r.r.r.r.r.r.r.r.r.l.l), .code (B_l12_DiskSwap.r.r.r.r.r.r.r.r.r.r.r.r.r.r.r.r.l.r), .code (B_l12_DiskSwap.r.r.r.r.r.r.r.r.r.r.r.r.r.r.r.r.r)] w
noncomputable def N_l12_DiskSwap.j21 (Q : Value → World → Prop) (w : World) : Prop := Nd X_l12_DiskSwap Q [] [.code (B_l12_DiskSwap.r.r.r.r.r.r.r.r.r.r.r.r.r.r.r.r.l.r.l.l), .code (B_l12_DiskSwap.r.r.r.r.r.r.r.r.r.r.r.r.r.r.r.r.l.r.l.r), .code (B_l12_DiskSwap.r.r.r.r.r.r.r.r.r.r.r.r.r.r.r.r.r)] w
noncomputable def N_l12_DiskSwap.j22 (Q : Value → World → Prop) (s5 : Option Addr) (s5n : Nat) (s5c : Nat) (s6 : Option Addr) (s6n : Nat) (s6c : Nat) (s8 : Int) (s14 : Bool) (s15 : Option Addr) (s15n : Nat) (s15c : Nat) (w : World) : Prop := Nd X_l12_DiskSwap Q [(5, 5, .slice s5 s5n s5c), (6, 6, .slice s6 s6n s6c), (8, 8, .int .i64 s8), (14, 14, .bool s14), (15, 15, .slice s15 s15n s15c)] [.code (B_l12_DiskSwap.r.r.r.r.r.r.r.r.r.r.r.r.r.r.r.r.r.l.l), .code (B_l12_DiskSwap.r.r.r.r.r.r.r.r.r.r.r.r.r.r.r.r.r.l.r), .code (B_l12_DiskSwap.r.r.r.r.r.r.r.r.r.r.r.r.r.r.r.r.r.r)] w
noncomputable def N_l12_DiskSwap.j23 (Q : Value → World → Prop) (s5 : Option Addr) (s5n : Nat) (s5c : Nat) (s6 : Option Addr) (s6n : Nat) (s6c : Nat) (s8 : Int) (s14 : Bool) (s15 : Option Addr) (s15n : Nat) (s15c : Nat) (s17 : Int) (w : World) : Prop := Nd X_l12_DiskSwap Q [(5, 5, .slice s5 s5n s5c), (6, 6, .slice s6 s6n s6c), (8, 8, .int .i64 s8), (14, 14, .bool s14), (15, 15, .slice s15 s15n s15c), (17, 17, .int .i64 s17)] [.code (B_l12_DiskSwap.r.r.r.r.r.r.r.r.r.r.r.r.r.r.r.r.r.l.r.l.l.l.l), .code (B_l12_DiskSwap.r.r.r.r.r.r.r.r.r.r.r.r.r.r.r.r.r.l.r.l.l.l.r), .code (B_l12_DiskSwap.r.r.r.r.r.r.r.r.r.r.r.r.r.r.r.r.r.l.r.l.l.r), .inLoop (B_l12_DiskSwap.r.r.r.r.r.r.r.r.r.r.r.r.r.r.r.r.r.l.r.l.l), .inBlock 0, .code (B_l12_DiskSwap.r.r.r.r.r.r.r.r.r.r.r.r.r.r.r.r.r.r)] w
noncomputable def N_l12_DiskSwap.j29 (Q : Value → World → Prop) (s19 : Bool) (w : World) : Prop := Nd X_l12_DiskSwap Q [(19, 19, .bool s19)] [.code (B_l12_DiskSwap.r.r.r.r.r.r.r.r.r.r.r.r.r.r.r.r.r.l.r.l.l.r.l.l.r.l.r.r.l.r.l.l), .code (B_l12_DiskSwap.r.r.r.r.r.r.r.r.r.r.r.r.r.r.r.r.r.l.r.l.l.r.l.l.r.l.r.r.l.r.l.r), .code (B_l12_DiskSwap.r.r.r.r.r.r.r.r.r.r.r.r.r.r.r.r.r.l.r.l.l.r.l.l.r.l.r.r.r), .inBlock 1, .code (B_l12_DiskSwap.r.r.r.r.r.r.r.r.r.r.r.r.r.r.r.r.r.l.r.l.l.r.r), .inLoop (B_l12_DiskSwap.r.r.r.r.r.r.r.r.r.r.r.r.r.r.r.r.r.l.r.l.l), .inBlock 0, .code (B_l12_DiskSwap.r.r.r.r.r.r.r.r.r.r.r.r.r.r.r.r.r.r)] w
noncomputable def N_l12_DiskSwap.j32 (Q : Value → World → Prop) (s18 : Bool) (s19 : Bool) (w : World) : Prop := Nd X_l12_DiskSwap Q [(18, 18, .bool s18), (19, 19, .bool s19)] [.code (B_l12_DiskSwap.r.r.r.r.r.r.r.r.r.r.r.r.r.r.r.r.r.l.r.l.l.r.l.l.r.l.r.r.r.r.l), .code (B_l12_DiskSwap.r.r.r.r.r.r.r.r.r.r.r.r.r.r.r.r.r.l.r.l.l.r.l.l.r.l.r.r.r.r.r), .inBlock 1, .code (B_l12_DiskSwap.r.r.r.r.r.r.r.r.r.r.r.r.r.r.r.r.r.l.r.l.l.r.r), .inLoop (B_l12_DiskSwap.r.r.r.r.r.r.r.r.r.r.r.r.r.r.r.r.r.l.r.l.l), .inBlock 0, .code (B_l12_DiskSwap.r.r.r.r.r.r.r.r.r.r.r.r.r.r.r.r.r.r)] w
theorem N_l12_DiskSwap.j5_eq (Q : Value → World → Prop) (w : World) (h :
  Q (.bool false) w) :
N_l12_DiskSwap.j5 Q w := Nd_fold K_l12_DiskSwap (by kernel_rfl) h
theorem N_l12_DiskSwap.j7_eq (Q : Value → World → Prop) (w : World) (h :
  Q (.bool false) w) :
N_l12_DiskSwap.j7 Q w := Nd_fold K_l12_DiskSwap (by kernel_rfl) h
theorem N_l12_DiskSwap.j17_eq (Q : Value → World → Prop) (s3 : Addr) (s5 : Option Addr) (s5n : Nat) (s5c : Nat) (s6 : Option Addr) (s6n : Nat) (s6c : Nat) (s7 : Option Addr) (s8 : Int) (s14 : Bool) (w : World) (h :
  cond (s8 == 0)
  (cond (!(s14 == true))
  (N_l12_DiskSwap.j18 Q w)
  (N_l12_DiskSwap.j19 Q s3 s5 s5n s5c s6 s6n s6c s7 s8 s14 w))
  (cond (!(s14 == (s8 == 6)))
  (N_l12_DiskSwap.j18 Q w)
  (N_l12_DiskSwap.j19 Q s3 s5 s5n s5c s6 s6n s6c s7 s8 s14 w))) :
N_l12_DiskSwap.j17 Q s3 s5 s5n s5c s6 s6n s6c s7 s8 s14 w := Nd_fold K_l12_DiskSwap (by kernel_rfl) h
theorem N_l12_DiskSwap.j18_eq (Q : Value → World → Prop) (w : World) (h :
  Q (.bool false) w) :
N_l12_DiskSwap.j18 Q w := Nd_fold K_l12_DiskSwap (by kernel_rfl) h
theorem N_l12_DiskSwap.j19_eq (Q : Value → World → Prop) (s3 : Addr) (s5 : Option Addr) (s5n : Nat) (s5c : Nat) (s6 : Option Addr) (s6n : Nat) (s6c : Nat) (s7 : Option Addr) (s8 : Int) (s14 : Bool) (w : World) (h :
  opnL (w.cell? (s3.add 3)) fun x1 x1n x1c =>
  C_l12_after #[.pointer s7, .slice x1 x1n x1c] w fun v2 w3 =>
  opnT (some v2) fun x4 =>
  x4.size = 2 ∧
  opnL (x4[0]?) fun x5 x5n x5c =>
  opnB (x4[1]?) fun x6 =>
  N_l12_DiskSwap.j20 Q s5 s5n s5c s6 s6n s6c s8 s14 x5 x5n x5c x6 w3) :
N_l12_DiskSwap.j19 Q s3 s5 s5n s5c s6 s6n s6c s7 s8 s14 w := Nd_fold K_l12_DiskSwap (by kernel_rfl) h
theorem N_l12_DiskSwap.j20_eq (Q : Value → World → Prop) (s5 : Option Addr) (s5n : Nat) (s5c : Nat) (s6 : Option Addr) (s6n : Nat) (s6c : Nat) (s8 : Int) (s14 : Bool) (s15 : Option Addr) (s15n : Nat) (s15c : Nat) (s16 : Bool) (w : World) (h :
  cond (!s16)
  (N_l12_DiskSwap.j21 Q w)
  (N_l12_DiskSwap.j22 Q s5 s5n s5c s6 s6n s6c s8 s14 s15 s15n s15c w)) :
N_l12_DiskSwap.j20 Q s5 s5n s5c s6 s6n s6c s8 s14 s15 s15n s15c s16 w := Nd_fold K_l12_DiskSwap (by kernel_rfl) h
theorem N_l12_DiskSwap.j21_eq (Q : Value → World → Prop) (w : World) (h :
  Q (.bool false) w) :
N_l12_DiskSwap.j21 Q w := Nd_fold K_l12_DiskSwap (by kernel_rfl) h
theorem N_l12_DiskSwap.j22_eq (Q : Value → World → Prop) (s5 : Option Addr) (s5n : Nat) (s5c : Nat) (s6 : Option Addr) (s6n : Nat) (s6c : Nat) (s8 : Int) (s14 : Bool) (s15 : Option Addr) (s15n : Nat) (s15c : Nat) (w : World) (h :
  N_l12_DiskSwap.j23 Q s5 s5n s5c s6 s6n s6c s8 s14 s15 s15n s15c 0 w) :
N_l12_DiskSwap.j22 Q s5 s5n s5c s6 s6n s6c s8 s14 s15 s15n s15c w := Nd_fold K_l12_DiskSwap (by kernel_rfl) h
theorem N_l12_DiskSwap.j23_eq (Q : Value → World → Prop) (s5 : Option Addr) (s5n : Nat) (s5c : Nat) (s6 : Option Addr) (s6n : Nat) (s6c : Nat) (s8 : Int) (s14 : Bool) (s15 : Option Addr) (s15n : Nat) (s15c : Nat) (s17 : Int) (w : World) (h :
  cond (decide (s17 < ((s15n : Nat) : Int)))
  ((0 : Int) ≤ s17 ∧
  s17 < ((s15n : Nat) : Int) ∧
  opnA s15 fun ad1 =>
  opnS (w.cell? ((ad1.add (Int.toNat s17 * 2)).add 0)) fun x2 =>
  cond (x2.toList == (⟨#[104, 101, 97, 100]⟩ : ByteArray).toList)
  (drw w fun w3 =>
  (0 : Int) ≤ s17 ∧
  s17 < ((s15n : Nat) : Int) ∧
  opnA s15 fun ad4 =>
  opnL (w3.cell? ((ad4.add (Int.toNat s17 * 2)).add 1)) fun x5 x5n x5c =>
  semR PP (convert 23 9 (.slice x5 x5n x5c)) w3 fun x6 =>
  opnS (some x6) fun x7 =>
  semR PP (convert 23 9 (.slice s5 s5n s5c)) w3 fun x8 =>
  opnS (some x8) fun x9 =>
  drw w3 fun w10 =>
  (0 : Int) ≤ s17 ∧
  s17 < ((s15n : Nat) : Int) ∧
  opnA s15 fun ad11 =>
  opnL (w10.cell? ((ad11.add (Int.toNat s17 * 2)).add 1)) fun x12 x12n x12c =>
  semR PP (convert 23 9 (.slice x12 x12n x12c)) w10 fun x13 =>
  opnS (some x13) fun x14 =>
  semR PP (convert 23 9 (.slice s6 s6n s6c)) w10 fun x15 =>
  opnS (some x15) fun x16 =>
  cond s14
  (N_l12_DiskSwap.j29 Q (x14.toList == x16.toList) w10)
  (cond (s8 == 5)
  (N_l12_DiskSwap.j29 Q (x14.toList == x16.toList) w10)
  (cond (decide (s8 ≥ 1))
  (cond (decide (s8 ≤ 3))
  (Q (.bool (x7.toList == x9.toList)) w10)
  (N_l12_DiskSwap.j32 Q (x7.toList == x9.toList) (x14.toList == x16.toList) w10))
  (N_l12_DiskSwap.j32 Q (x7.toList == x9.toList) (x14.toList == x16.toList) w10))))
  (N_l12_DiskSwap.j23 Q s5 s5n s5c s6 s6n s6c s8 s14 s15 s15n s15c (IntKind.wrap .i64 (s17 + 1)) w))
  (Q (.bool false) w)) :
N_l12_DiskSwap.j23 Q s5 s5n s5c s6 s6n s6c s8 s14 s15 s15n s15c s17 w := Nd_fold K_l12_DiskSwap (by kernel_rfl) h
theorem N_l12_DiskSwap.j29_eq (Q : Value → World → Prop) (s19 : Bool) (w : World) (h :
  Q (.bool s19) w) :
N_l12_DiskSwap.j29 Q s19 w := Nd_fold K_l12_DiskSwap (by kernel_rfl) h
noncomputable def B_l12_DiskLasts : Code := match Tryz.f4.body with | some c => c | _ => .skip
noncomputable def X_l12_DiskLasts : Cx := { P := PP, fn := 4, N := 84, tab := tab, results := [.tmp 4], iter := fun _ => (.none, .none), dyn := fun _ => false, live := fun r => cond (Nat.beq r 3) (some []) (cond (Nat.beq r 6) (some [1, 5, 6, 7]) (cond (Nat.beq r 12) (some []) (none))) }
theorem K_l12_DiskLasts : OkF X_l12_DiskLasts B_l12_DiskLasts Tryz.f4 := ⟨⟨tab_ok, mix_ok⟩, Tryz.func4, by kernel_rfl, by kernel_rfl, by kernel_rfl, by kernel_rfl⟩
noncomputable def N_l12_DiskLasts.j3 (Q : Value → World → Prop) (w : World) : Prop := Nd X_l12_DiskLasts Q [] [.code (B_l12_DiskLasts.r.r.l.r.l.l), .code (B_l12_DiskLasts.r.r.l.r.l.r), .code (B_l12_DiskLasts.r.r.r)] w
noncomputable def N_l12_DiskLasts.j6 (Q : Value → World → Prop) (s1 : Option Addr) (s1n : Nat) (s1c : Nat) (s5 : Option Addr) (s6 : Option Addr) (s6n : Nat) (s6c : Nat) (s7 : Int) (w : World) : Prop := Nd X_l12_DiskLasts Q [(1, 1, .slice s1 s1n s1c), (5, 5, .pointer s5), (6, 6, .slice s6 s6n s6c), (7, 7, .int .i64 s7)] [.code (B_l12_DiskLasts.r.r.r.r.l.r.l.l.l.l), .code (B_l12_DiskLasts.r.r.r.r.l.r.l.l.l.r), .code (B_l12_DiskLasts.r.r.r.r.l.r.l.l.r), .inLoop (B_l12_DiskLasts.r.r.r.r.l.r.l.l), .inBlock 0, .code (B_l12_DiskLasts.r.r.r.r.r)] w
noncomputable def N_l12_DiskLasts.j12 (Q : Value → World → Prop) (w : World) : Prop := Nd X_l12_DiskLasts Q [] [.code (B_l12_DiskLasts.r.r.r.r.r.r.l.r.l.l), .code (B_l12_DiskLasts.r.r.r.r.r.r.l.r.l.r), .code (B_l12_DiskLasts.r.r.r.r.r.r.r)] w
theorem N_l12_DiskLasts.j3_eq (Q : Value → World → Prop) (w : World) (h :
  Q (.bool false) w) :
N_l12_DiskLasts.j3 Q w := Nd_fold K_l12_DiskLasts (by kernel_rfl) h
theorem N_l12_DiskLasts.j6_eq (Q : Value → World → Prop) (s1 : Option Addr) (s1n : Nat) (s1c : Nat) (s5 : Option Addr) (s6 : Option Addr) (s6n : Nat) (s6c : Nat) (s7 : Int) (w : World) (h :
  cond (decide (s7 < ((s6n : Nat) : Int)))
  ((0 : Int) ≤ s7 ∧
  s7 < ((s6n : Nat) : Int) ∧
  opnA s6 fun ad1 =>
  opnS (w.cell? (ad1.add (Int.toNat s7 * 1))) fun x2 =>
  C_p_disk_Disk_Sync #[.pointer s5, .string x2] w fun v3 w4 =>
  opnI .i64 (some v3) fun x5 =>
  cond (x5 != 0)
  (Q (.bool false) w4)
  (N_l12_DiskLasts.j6 Q s1 s1n s1c s5 s6 s6n s6c (IntKind.wrap .i64 (s7 + 1)) w4))
  (C_p_disk_Disk_Files #[.pointer s5] w fun v6 w7 =>
  opnL (some v6) fun x8 x8n x8c =>
  C_l12_copies #[.slice x8 x8n x8c] w7 fun v9 w10 =>
  opnL (some v9) fun x11 x11n x11c =>
  cond (((x11n : Nat) : Int) != ((s6n : Nat) : Int))
  (N_l12_DiskLasts.j12 Q w10)
  (C_p_disk_Disk_SyncNames #[.pointer s5] w10 fun v12 w13 =>
  opnI .i64 (some v12) fun x14 =>
  cond (x14 != 0)
  (N_l12_DiskLasts.j12 Q w13)
  (C_p_disk_Disk_Pending #[.pointer s5] w13 fun v15 w16 =>
  opnI .i64 (some v15) fun x17 =>
  cond (x17 != 0)
  (N_l12_DiskLasts.j12 Q w16)
  (C_l12_after #[.pointer s5, .slice s1 s1n s1c] w16 fun v18 w19 =>
  opnT (some v18) fun x20 =>
  x20.size = 2 ∧
  opnL (x20[0]?) fun x21 x21n x21c =>
  opnB (x20[1]?) fun x22 =>
  C_l12_after #[.pointer s5, .slice none 0 0] w19 fun v23 w24 =>
  opnT (some v23) fun x25 =>
  x25.size = 2 ∧
  opnL (x25[0]?) fun x26 x26n x26c =>
  opnB (x25[1]?) fun x27 =>
  cond x22
  (cond x27
  (C_l12_sameFiles #[.slice x21 x21n x21c, .slice x11 x11n x11c] w24 fun v28 w29 =>
  opnB (some v28) fun x30 =>
  cond x30
  (C_l12_sameFiles #[.slice x26 x26n x26c, .slice x11 x11n x11c] w29 fun v31 w32 =>
  opnB (some v31) fun x33 =>
  Q (.bool x33) w32)
  (Q (.bool false) w29))
  (Q (.bool false) w24))
  (Q (.bool false) w24)))))) :
N_l12_DiskLasts.j6 Q s1 s1n s1c s5 s6 s6n s6c s7 w := Nd_fold K_l12_DiskLasts (by kernel_rfl) h
theorem N_l12_DiskLasts.j12_eq (Q : Value → World → Prop) (w : World) (h :
  Q (.bool false) w) :
N_l12_DiskLasts.j12 Q w := Nd_fold K_l12_DiskLasts (by kernel_rfl) h
noncomputable def B_l12_DiskFails : Code := match Tryz.f5.body with | some c => c | _ => .skip
noncomputable def X_l12_DiskFails : Cx := { P := PP, fn := 5, N := 145, tab := tab, results := [.tmp 4], iter := fun _ => (.none, .none), dyn := fun _ => false, live := fun r => cond (Nat.beq r 4) (some []) (cond (Nat.beq r 9) (some [0, 3, 5, 6, 7, 8]) (cond (Nat.beq r 10) (some []) (cond (Nat.beq r 11) (some [0, 3, 5, 6, 7, 8]) (cond (Nat.beq r 12) (some [0, 3, 5, 6, 7, 8, 9]) (cond (Nat.beq r 13) (some [0, 3, 5, 6, 7, 8, 9, 10]) (cond (Nat.beq r 14) (some [0, 3, 5, 6, 7, 8, 9, 10, 11]) (cond (Nat.beq r 15) (some [0, 3, 5, 6, 7, 8, 9, 10, 11]) (cond (Nat.beq r 22) (some [0, 3, 5, 6, 7, 8, 9, 10, 11, 12, 13]) (cond (Nat.beq r 23) (some []) (cond (Nat.beq r 24) (some [3, 5, 6, 9, 10]) (cond (Nat.beq r 25) (some []) (cond (Nat.beq r 26) (some [3, 5, 6]) (cond (Nat.beq r 27) (some [3, 6, 14, 15]) (cond (Nat.beq r 28) (some [14, 15, 16, 17]) (none))))))))))))))) }
theorem K_l12_DiskFails : OkF X_l12_DiskFails B_l12_DiskFails Tryz.f5 := ⟨⟨tab_ok, mix_ok⟩, Tryz.func5, by kernel_rfl, by kernel_rfl, by kernel_rfl, by kernel_rfl⟩
noncomputable def N_l12_DiskFails.j4 (Q : Value → World → Prop) (w : World) : Prop := Nd X_l12_DiskFails Q [] [.code (B_l12_DiskFails.r.r.r.l.r.l.l), .code (B_l12_DiskFails.r.r.r.l.r.l.r), .code (B_l12_DiskFails.r.r.r.r)] w
noncomputable def N_l12_DiskFails.j9 (Q : Value → World → Prop) (s0 : Option Addr) (s0n : Nat) (s0c : Nat) (s3 : Addr) (s5 : Option Addr) (s6 : Option Addr) (s7 : Int) (s8 : Int) (w : World) : Prop := Nd X_l12_DiskFails Q [(0, 0, .slice s0 s0n s0c), (3, 3, .pointer (some s3)), (5, 5, .pointer s5), (6, 6, .pointer s6), (7, 7, .int .i64 s7), (8, 8, .int .i64 s8)] [.code (B_l12_DiskFails.r.r.r.r.r.r.r.l.l), .code (B_l12_DiskFails.r.r.r.r.r.r.r.l.r), .code (B_l12_DiskFails.r.r.r.r.r.r.r.r)] w
noncomputable def N_l12_DiskFails.j10 (Q : Value → World → Prop) (w : World) : Prop := Nd X_l12_DiskFails Q [] [.code (B_l12_DiskFails.r.r.r.r.r.r.r.l.r.l.l), .code (B_l12_DiskFails.r.r.r.r.r.r.r.l.r.l.r), .code (B_l12_DiskFails.r.r.r.r.r.r.r.r)] w
noncomputable def N_l12_DiskFails.j11 (Q : Value → World → Prop) (s0 : Option Addr) (s0n : Nat) (s0c : Nat) (s3 : Addr) (s5 : Option Addr) (s6 : Option Addr) (s7 : Int) (s8 : Int) (w : World) : Prop := Nd X_l12_DiskFails Q [(0, 0, .slice s0 s0n s0c), (3, 3, .pointer (some s3)), (5, 5, .pointer s5), (6, 6, .pointer s6), (7, 7, .int .i64 s7), (8, 8, .int .i64 s8)] [.code (B_l12_DiskFails.r.r.r.r.r.r.r.r.l), .code (B_l12_DiskFails.r.r.r.r.r.r.r.r.r)] w
noncomputable def N_l12_DiskFails.j12 (Q : Value → World → Prop) (s0 : Option Addr) (s0n : Nat) (s0c : Nat) (s3 : Addr) (s5 : Option Addr) (s6 : Option Addr) (s7 : Int) (s8 : Int) (s9 : Int) (w : World) : Prop := Nd X_l12_DiskFails Q [(0, 0, .slice s0 s0n s0c), (3, 3, .pointer (some s3)), (5, 5, .pointer s5), (6, 6, .pointer s6), (7, 7, .int .i64 s7), (8, 8, .int .i64 s8), (9, 9, .int .i64 s9)] [.code (B_l12_DiskFails.r.r.r.r.r.r.r.r.r.l), .code (B_l12_DiskFails.r.r.r.r.r.r.r.r.r.r)] w
noncomputable def N_l12_DiskFails.j13 (Q : Value → World → Prop) (s0 : Option Addr) (s0n : Nat) (s0c : Nat) (s3 : Addr) (s5 : Option Addr) (s6 : Option Addr) (s7 : Int) (s8 : Int) (s9 : Int) (s10 : Int) (w : World) : Prop := Nd X_l12_DiskFails Q [(0, 0, .slice s0 s0n s0c), (3, 3, .pointer (some s3)), (5, 5, .pointer s5), (6, 6, .pointer s6), (7, 7, .int .i64 s7), (8, 8, .int .i64 s8), (9, 9, .int .i64 s9), (10, 10, .int .i64 s10)] [.code (B_l12_DiskFails.r.r.r.r.r.r.r.r.r.r.l.l), .code (B_l12_DiskFails.r.r.r.r.r.r.r.r.r.r.l.r), .code (B_l12_DiskFails.r.r.r.r.r.r.r.r.r.r.r)] w
noncomputable def N_l12_DiskFails.j14 (Q : Value → World → Prop) (s0 : Option Addr) (s0n : Nat) (s0c : Nat) (s3 : Addr) (s5 : Option Addr) (s6 : Option Addr) (s7 : Int) (s8 : Int) (s9 : Int) (s10 : Int) (s11 : Int) (w : World) : Prop := Nd X_l12_DiskFails Q [(0, 0, .slice s0 s0n s0c), (3, 3, .pointer (some s3)), (5, 5, .pointer s5), (6, 6, .pointer s6), (7, 7, .int .i64 s7), (8, 8, .int .i64 s8), (9, 9, .int .i64 s9), (10, 10, .int .i64 s10), (11, 11, .int .i64 s11)] [.code (B_l12_DiskFails.r.r.r.r.r.r.r.r.r.r.l.r.l.l.l.l), .code (B_l12_DiskFails.r.r.r.r.r.r.r.r.r.r.l.r.l.l.l.r), .code (B_l12_DiskFails.r.r.r.r.r.r.r.r.r.r.l.r.l.l.r), .inLoop (B_l12_DiskFails.r.r.r.r.r.r.r.r.r.r.l.r.l.l), .inBlock 0, .code (B_l12_DiskFails.r.r.r.r.r.r.r.r.r.r.r)] w
noncomputable def N_l12_DiskFails.j15 (Q : Value → World → Prop) (s0 : Option Addr) (s0n : Nat) (s0c : Nat) (s3 : Addr) (s5 : Option Addr) (s6 : Option Addr) (s7 : Int) (s8 : Int) (s9 : Int) (s10 : Int) (s11 : Int) (w : World) : Prop := Nd X_l12_DiskFails Q [(0, 0, .slice s0 s0n s0c), (3, 3, .pointer (some s3)), (5, 5, .pointer s5), (6, 6, .pointer s6), (7, 7, .int .i64 s7), (8, 8, .int .i64 s8), (9, 9, .int .i64 s9), (10, 10, .int .i64 s10), (11, 11, .int .i64 s11)] [.code (B_l12_DiskFails.r.r.r.r.r.r.r.r.r.r.l.r.l.l.r.r), .inLoop (B_l12_DiskFails.r.r.r.r.r.r.r.r.r.r.l.r.l.l), .inBlock 0, .code (B_l12_DiskFails.r.r.r.r.r.r.r.r.r.r.r)] w
noncomputable def N_l12_DiskFails.j22 (Q : Value → World → Prop) (s0 : Option Addr) (s0n : Nat) (s0c : Nat) (s3 : Addr) (s5 : Option Addr) (s6 : Option Addr) (s7 : Int) (s8 : Int) (s9 : Int) (s10 : Int) (s11 : Int) (s12 : Addr) (s13 : Int) (w : World) : Prop := Nd X_l12_DiskFails Q [(0, 0, .slice s0 s0n s0c), (3, 3, .pointer (some s3)), (5, 5, .pointer s5), (6, 6, .pointer s6), (7, 7, .int .i64 s7), (8, 8, .int .i64 s8), (9, 9, .int .i64 s9), (10, 10, .int .i64 s10), (11, 11, .int .i64 s11), (12, 12, .pointer (some s12)), (13, 13, .int .i64 s13)] [.code (B_l12_DiskFails.r.r.r.r.r.r.r.r.r.r.l.r.l.l.r.l.l.r.r.r.r.r.l), .code (B_l12_DiskFails.r.r.r.r.r.r.r.r.r.r.l.r.l.l.r.l.l.r.r.r.r.r.r), .inBlock 1, .code (B_l12_DiskFails.r.r.r.r.r.r.r.r.r.r.l.r.l.l.r.r), .inLoop (B_l12_DiskFails.r.r.r.r.r.r.r.r.r.r.l.r.l.l), .inBlock 0, .code (B_l12_DiskFails.r.r.r.r.r.r.r.r.r.r.r)] w
noncomputable def N_l12_DiskFails.j23 (Q : Value → World → Prop) (w : World) : Prop := Nd X_l12_DiskFails Q [] [.code (B_l12_DiskFails.r.r.r.r.r.r.r.r.r.r.l.r.l.l.r.l.l.r.r.r.r.r.r.l.l), .code (B_l12_DiskFails.r.r.r.r.r.r.r.r.r.r.l.r.l.l.r.l.l.r.r.r.r.r.r.l.r), .inBlock 1, .code (B_l12_DiskFails.r.r.r.r.r.r.r.r.r.r.l.r.l.l.r.r), .inLoop (B_l12_DiskFails.r.r.r.r.r.r.r.r.r.r.l.r.l.l), .inBlock 0, .code (B_l12_DiskFails.r.r.r.r.r.r.r.r.r.r.r)] w
noncomputable def N_l12_DiskFails.j24 (Q : Value → World → Prop) (s3 : Addr) (s5 : Option Addr) (s6 : Option Addr) (s9 : Int) (s10 : Int) (w : World) : Prop := Nd X_l12_DiskFails Q [(3, 3, .pointer (some s3)), (5, 5, .pointer s5), (6, 6, .pointer s6), (9, 9, .int .i64 s9), (10, 10, .int .i64 s10)] [.code (B_l12_DiskFails.r.r.r.r.r.r.r.r.r.r.r.l.l), .code (B_l12_DiskFails.r.r.r.r.r.r.r.r.r.r.r.l.r), .code (B_l12_DiskFails.r.r.r.r.r.r.r.r.r.r.r.r)] w
noncomputable def N_l12_DiskFails.j25 (Q : Value → World → Prop) (w : World) : Prop := Nd X_l12_DiskFails Q [] [.code (B_l12_DiskFails.r.r.r.r.r.r.r.r.r.r.r.l.r.l.l), .code (B_l12_DiskFails.r.r.r.r.r.r.r.r.r.r.r.l.r.l.r), .code (B_l12_DiskFails.r.r.r.r.r.r.r.r.r.r.r.r)] w
noncomputable def N_l12_DiskFails.j26 (Q : Value → World → Prop) (s3 : Addr) (s5 : Option Addr) (s6 : Option Addr) (w : World) : Prop := Nd X_l12_DiskFails Q [(3, 3, .pointer (some s3)), (5, 5, .pointer s5), (6, 6, .pointer s6)] [.code (B_l12_DiskFails.r.r.r.r.r.r.r.r.r.r.r.r.l), .code (B_l12_DiskFails.r.r.r.r.r.r.r.r.r.r.r.r.r)] w
noncomputable def N_l12_DiskFails.j27 (Q : Value → World → Prop) (s3 : Addr) (s6 : Option Addr) (s14 : Option Addr) (s14n : Nat) (s14c : Nat) (s15 : Bool) (w : World) : Prop := Nd X_l12_DiskFails Q [(3, 3, .pointer (some s3)), (6, 6, .pointer s6), (14, 14, .slice s14 s14n s14c), (15, 15, .bool s15)] [.code (B_l12_DiskFails.r.r.r.r.r.r.r.r.r.r.r.r.r.l), .code (B_l12_DiskFails.r.r.r.r.r.r.r.r.r.r.r.r.r.r)] w
noncomputable def N_l12_DiskFails.j28 (Q : Value → World → Prop) (s14 : Option Addr) (s14n : Nat) (s14c : Nat) (s15 : Bool) (s16 : Option Addr) (s16n : Nat) (s16c : Nat) (s17 : Bool) (w : World) : Prop := Nd X_l12_DiskFails Q [(14, 14, .slice s14 s14n s14c), (15, 15, .bool s15), (16, 16, .slice s16 s16n s16c), (17, 17, .bool s17)] [.code (B_l12_DiskFails.r.r.r.r.r.r.r.r.r.r.r.r.r.r.l), .code (B_l12_DiskFails.r.r.r.r.r.r.r.r.r.r.r.r.r.r.r)] w
theorem N_l12_DiskFails.j4_eq (Q : Value → World → Prop) (w : World) (h :
  Q (.bool false) w) :
N_l12_DiskFails.j4 Q w := Nd_fold K_l12_DiskFails (by kernel_rfl) h
theorem N_l12_DiskFails.j9_eq (Q : Value → World → Prop) (s0 : Option Addr) (s0n : Nat) (s0c : Nat) (s3 : Addr) (s5 : Option Addr) (s6 : Option Addr) (s7 : Int) (s8 : Int) (w : World) (h :
  C_p_disk_Disk_Fail #[.pointer s5, .int .i64 s7, .int .i64 s8] w fun v1 w2 =>
  opnI .i64 (some v1) fun x3 =>
  cond (x3 != 0)
  (N_l12_DiskFails.j10 Q w2)
  (N_l12_DiskFails.j11 Q s0 s0n s0c s3 s5 s6 s7 s8 w2)) :
N_l12_DiskFails.j9 Q s0 s0n s0c s3 s5 s6 s7 s8 w := Nd_fold K_l12_DiskFails (by kernel_rfl) h
theorem N_l12_DiskFails.j10_eq (Q : Value → World → Prop) (w : World) (h :
  Q (.bool false) w) :
N_l12_DiskFails.j10 Q w := Nd_fold K_l12_DiskFails (by kernel_rfl) h
theorem N_l12_DiskFails.j11_eq (Q : Value → World → Prop) (s0 : Option Addr) (s0n : Nat) (s0c : Nat) (s3 : Addr) (s5 : Option Addr) (s6 : Option Addr) (s7 : Int) (s8 : Int) (w : World) (h :
  N_l12_DiskFails.j12 Q s0 s0n s0c s3 s5 s6 s7 s8 0 w) :
N_l12_DiskFails.j11 Q s0 s0n s0c s3 s5 s6 s7 s8 w := Nd_fold K_l12_DiskFails (by kernel_rfl) h
theorem N_l12_DiskFails.j12_eq (Q : Value → World → Prop) (s0 : Option Addr) (s0n : Nat) (s0c : Nat) (s3 : Addr) (s5 : Option Addr) (s6 : Option Addr) (s7 : Int) (s8 : Int) (s9 : Int) (w : World) (h :
  N_l12_DiskFails.j13 Q s0 s0n s0c s3 s5 s6 s7 s8 s9 0 w) :
N_l12_DiskFails.j12 Q s0 s0n s0c s3 s5 s6 s7 s8 s9 w := Nd_fold K_l12_DiskFails (by kernel_rfl) h
theorem N_l12_DiskFails.j13_eq (Q : Value → World → Prop) (s0 : Option Addr) (s0n : Nat) (s0c : Nat) (s3 : Addr) (s5 : Option Addr) (s6 : Option Addr) (s7 : Int) (s8 : Int) (s9 : Int) (s10 : Int) (w : World) (h :
  N_l12_DiskFails.j14 Q s0 s0n s0c s3 s5 s6 s7 s8 s9 s10 0 w) :
N_l12_DiskFails.j13 Q s0 s0n s0c s3 s5 s6 s7 s8 s9 s10 w := Nd_fold K_l12_DiskFails (by kernel_rfl) h
theorem N_l12_DiskFails.j14_eq (Q : Value → World → Prop) (s0 : Option Addr) (s0n : Nat) (s0c : Nat) (s3 : Addr) (s5 : Option Addr) (s6 : Option Addr) (s7 : Int) (s8 : Int) (s9 : Int) (s10 : Int) (s11 : Int) (w : World) (h :
  cond (decide (s11 < ((s0n : Nat) : Int)))
  (cond (decide (s11 < 200))
  ((0 : Int) ≤ s11 ∧
  s11 < ((s0n : Nat) : Int) ∧
  opnA s0 fun ad1 =>
  opnI .i64 (w.cell? ((ad1.add (Int.toNat s11 * 9)).add 0)) fun x2 =>
  opnI .i64 (w.cell? ((ad1.add (Int.toNat s11 * 9)).add 1)) fun x3 =>
  opnS (w.cell? ((ad1.add (Int.toNat s11 * 9)).add 2)) fun x4 =>
  opnS (w.cell? ((ad1.add (Int.toNat s11 * 9)).add 3)) fun x5 =>
  opnI .i64 (w.cell? ((ad1.add (Int.toNat s11 * 9)).add 4)) fun x6 =>
  opnI .i64 (w.cell? ((ad1.add (Int.toNat s11 * 9)).add 5)) fun x7 =>
  opnL (w.cell? ((ad1.add (Int.toNat s11 * 9)).add 6)) fun x8 x8n x8c =>
  opnL (w.cell? ((ad1.add (Int.toNat s11 * 9)).add 7)) fun x9 x9n x9c =>
  opnL (w.cell? ((ad1.add (Int.toNat s11 * 9)).add 8)) fun x10 x10n x10c =>
  alC #[.int .i64 0, .int .i64 0, .string (⟨#[]⟩ : ByteArray), .string (⟨#[]⟩ : ByteArray), .int .i64 0, .int .i64 0, .slice none 0 0, .slice none 0 0, .slice none 0 0] 55 w fun p11 w12 =>
  Array.size (#[.int .i64 x2, .int .i64 x3, .string x4, .string x5, .int .i64 x6, .int .i64 x7, .slice x8 x8n x8c, .slice x9 x9n x9c, .slice x10 x10n x10c] : Array Value) = 9 ∧
  stC (p11.add 0) (.int .i64 x2) w12 fun w13 =>
  stC (p11.add 1) (.int .i64 x3) w13 fun w14 =>
  stC (p11.add 2) (.string x4) w14 fun w15 =>
  stC (p11.add 3) (.string x5) w15 fun w16 =>
  stC (p11.add 4) (.int .i64 x6) w16 fun w17 =>
  stC (p11.add 5) (.int .i64 x7) w17 fun w18 =>
  stC (p11.add 6) (.slice x8 x8n x8c) w18 fun w19 =>
  stC (p11.add 7) (.slice x9 x9n x9c) w19 fun w20 =>
  stC (p11.add 8) (.slice x10 x10n x10c) w20 fun w21 =>
  opnI .i64 (w21.cell? (p11.add 0)) fun x22 =>
  opnI .i64 (w21.cell? (p11.add 1)) fun x23 =>
  opnS (w21.cell? (p11.add 2)) fun x24 =>
  opnS (w21.cell? (p11.add 3)) fun x25 =>
  opnI .i64 (w21.cell? (p11.add 4)) fun x26 =>
  opnI .i64 (w21.cell? (p11.add 5)) fun x27 =>
  opnL (w21.cell? (p11.add 6)) fun x28 x28n x28c =>
  opnL (w21.cell? (p11.add 7)) fun x29 x29n x29c =>
  opnL (w21.cell? (p11.add 8)) fun x30 x30n x30c =>
  C_l12_plain #[.agg #[.int .i64 x22, .int .i64 x23, .string x24, .string x25, .int .i64 x26, .int .i64 x27, .slice x28 x28n x28c, .slice x29 x29n x29c, .slice x30 x30n x30c]] w21 fun v31 w32 =>
  opnB (some v31) fun x33 =>
  cond (!x33)
  (N_l12_DiskFails.j15 Q s0 s0n s0c s3 s5 s6 s7 s8 s9 s10 s11 w32)
  (opnI .i64 (w32.cell? (p11.add 0)) fun x34 =>
  opnI .i64 (w32.cell? (p11.add 1)) fun x35 =>
  opnS (w32.cell? (p11.add 2)) fun x36 =>
  opnS (w32.cell? (p11.add 3)) fun x37 =>
  opnI .i64 (w32.cell? (p11.add 4)) fun x38 =>
  opnI .i64 (w32.cell? (p11.add 5)) fun x39 =>
  opnL (w32.cell? (p11.add 6)) fun x40 x40n x40c =>
  opnL (w32.cell? (p11.add 7)) fun x41 x41n x41c =>
  opnL (w32.cell? (p11.add 8)) fun x42 x42n x42c =>
  C_l12_act #[.pointer s5, .agg #[.int .i64 x34, .int .i64 x35, .string x36, .string x37, .int .i64 x38, .int .i64 x39, .slice x40 x40n x40c, .slice x41 x41n x41c, .slice x42 x42n x42c]] w32 fun v43 w44 =>
  opnI .i64 (some v43) fun x45 =>
  cond ((IntKind.wrap .i64 (s9 + 1)) == s7)
  (cond (x45 == s8)
  (N_l12_DiskFails.j15 Q s0 s0n s0c s3 s5 s6 s7 s8 (IntKind.wrap .i64 (s9 + 1)) 1 s11 w44)
  (N_l12_DiskFails.j22 Q s0 s0n s0c s3 s5 s6 s7 s8 (IntKind.wrap .i64 (s9 + 1)) s10 s11 p11 x45 w44))
  (N_l12_DiskFails.j22 Q s0 s0n s0c s3 s5 s6 s7 s8 (IntKind.wrap .i64 (s9 + 1)) s10 s11 p11 x45 w44)))
  (N_l12_DiskFails.j24 Q s3 s5 s6 s9 s10 w))
  (N_l12_DiskFails.j24 Q s3 s5 s6 s9 s10 w)) :
N_l12_DiskFails.j14 Q s0 s0n s0c s3 s5 s6 s7 s8 s9 s10 s11 w := Nd_fold K_l12_DiskFails (by kernel_rfl) h
theorem N_l12_DiskFails.j15_eq (Q : Value → World → Prop) (s0 : Option Addr) (s0n : Nat) (s0c : Nat) (s3 : Addr) (s5 : Option Addr) (s6 : Option Addr) (s7 : Int) (s8 : Int) (s9 : Int) (s10 : Int) (s11 : Int) (w : World) (h :
  N_l12_DiskFails.j14 Q s0 s0n s0c s3 s5 s6 s7 s8 s9 s10 (IntKind.wrap .i64 (s11 + 1)) w) :
N_l12_DiskFails.j15 Q s0 s0n s0c s3 s5 s6 s7 s8 s9 s10 s11 w := Nd_fold K_l12_DiskFails (by kernel_rfl) h
theorem N_l12_DiskFails.j22_eq (Q : Value → World → Prop) (s0 : Option Addr) (s0n : Nat) (s0c : Nat) (s3 : Addr) (s5 : Option Addr) (s6 : Option Addr) (s7 : Int) (s8 : Int) (s9 : Int) (s10 : Int) (s11 : Int) (s12 : Addr) (s13 : Int) (w : World) (h :
  opnI .i64 (w.cell? (s12.add 0)) fun x1 =>
  opnI .i64 (w.cell? (s12.add 1)) fun x2 =>
  opnS (w.cell? (s12.add 2)) fun x3 =>
  opnS (w.cell? (s12.add 3)) fun x4 =>
  opnI .i64 (w.cell? (s12.add 4)) fun x5 =>
  opnI .i64 (w.cell? (s12.add 5)) fun x6 =>
  opnL (w.cell? (s12.add 6)) fun x7 x7n x7c =>
  opnL (w.cell? (s12.add 7)) fun x8 x8n x8c =>
  opnL (w.cell? (s12.add 8)) fun x9 x9n x9c =>
  C_l12_act #[.pointer s6, .agg #[.int .i64 x1, .int .i64 x2, .string x3, .string x4, .int .i64 x5, .int .i64 x6, .slice x7 x7n x7c, .slice x8 x8n x8c, .slice x9 x9n x9c]] w fun v10 w11 =>
  opnI .i64 (some v10) fun x12 =>
  cond (x12 != s13)
  (N_l12_DiskFails.j23 Q w11)
  (cond (s9 == s7)
  (cond (s13 == 0)
  (N_l12_DiskFails.j23 Q w11)
  (cond (s13 == 124)
  (N_l12_DiskFails.j23 Q w11)
  (cond (s13 == 123)
  (N_l12_DiskFails.j23 Q w11)
  (N_l12_DiskFails.j15 Q s0 s0n s0c s3 s5 s6 s7 s8 s9 s10 s11 w11))))
  (cond (s13 == 124)
  (N_l12_DiskFails.j23 Q w11)
  (cond (s13 == 123)
  (N_l12_DiskFails.j23 Q w11)
  (N_l12_DiskFails.j15 Q s0 s0n s0c s3 s5 s6 s7 s8 s9 s10 s11 w11))))) :
N_l12_DiskFails.j22 Q s0 s0n s0c s3 s5 s6 s7 s8 s9 s10 s11 s12 s13 w := Nd_fold K_l12_DiskFails (by kernel_rfl) h
theorem N_l12_DiskFails.j23_eq (Q : Value → World → Prop) (w : World) (h :
  Q (.bool false) w) :
N_l12_DiskFails.j23 Q w := Nd_fold K_l12_DiskFails (by kernel_rfl) h
theorem N_l12_DiskFails.j24_eq (Q : Value → World → Prop) (s3 : Addr) (s5 : Option Addr) (s6 : Option Addr) (s9 : Int) (s10 : Int) (w : World) (h :
  C_p_disk_Disk_Acts #[.pointer s5] w fun v1 w2 =>
  opnI .i64 (some v1) fun x3 =>
  cond (x3 != s9)
  (N_l12_DiskFails.j25 Q w2)
  (C_p_disk_Disk_Acts #[.pointer s6] w2 fun v4 w5 =>
  opnI .i64 (some v4) fun x6 =>
  cond (x6 != (IntKind.wrap .i64 (s9 - s10)))
  (N_l12_DiskFails.j25 Q w5)
  (C_p_disk_Disk_Pending #[.pointer s5] w5 fun v7 w8 =>
  opnI .i64 (some v7) fun x9 =>
  C_p_disk_Disk_Pending #[.pointer s6] w8 fun v10 w11 =>
  opnI .i64 (some v10) fun x12 =>
  cond (x9 != x12)
  (N_l12_DiskFails.j25 Q w11)
  (C_p_disk_Disk_Files #[.pointer s5] w11 fun v13 w14 =>
  opnL (some v13) fun x15 x15n x15c =>
  C_p_disk_Disk_Files #[.pointer s6] w14 fun v16 w17 =>
  opnL (some v16) fun x18 x18n x18c =>
  C_l12_sameFiles #[.slice x15 x15n x15c, .slice x18 x18n x18c] w17 fun v19 w20 =>
  opnB (some v19) fun x21 =>
  cond (!x21)
  (N_l12_DiskFails.j25 Q w20)
  (N_l12_DiskFails.j26 Q s3 s5 s6 w20))))) :
N_l12_DiskFails.j24 Q s3 s5 s6 s9 s10 w := Nd_fold K_l12_DiskFails (by kernel_rfl) h
theorem N_l12_DiskFails.j25_eq (Q : Value → World → Prop) (w : World) (h :
  Q (.bool false) w) :
N_l12_DiskFails.j25 Q w := Nd_fold K_l12_DiskFails (by kernel_rfl) h
theorem N_l12_DiskFails.j26_eq (Q : Value → World → Prop) (s3 : Addr) (s5 : Option Addr) (s6 : Option Addr) (w : World) (h :
  opnL (w.cell? (s3.add 2)) fun x1 x1n x1c =>
  C_l12_after #[.pointer s5, .slice x1 x1n x1c] w fun v2 w3 =>
  opnT (some v2) fun x4 =>
  x4.size = 2 ∧
  opnL (x4[0]?) fun x5 x5n x5c =>
  opnB (x4[1]?) fun x6 =>
  N_l12_DiskFails.j27 Q s3 s6 x5 x5n x5c x6 w3) :
N_l12_DiskFails.j26 Q s3 s5 s6 w := Nd_fold K_l12_DiskFails (by kernel_rfl) h
theorem N_l12_DiskFails.j27_eq (Q : Value → World → Prop) (s3 : Addr) (s6 : Option Addr) (s14 : Option Addr) (s14n : Nat) (s14c : Nat) (s15 : Bool) (w : World) (h :
  opnL (w.cell? (s3.add 2)) fun x1 x1n x1c =>
  C_l12_after #[.pointer s6, .slice x1 x1n x1c] w fun v2 w3 =>
  opnT (some v2) fun x4 =>
  x4.size = 2 ∧
  opnL (x4[0]?) fun x5 x5n x5c =>
  opnB (x4[1]?) fun x6 =>
  N_l12_DiskFails.j28 Q s14 s14n s14c s15 x5 x5n x5c x6 w3) :
N_l12_DiskFails.j27 Q s3 s6 s14 s14n s14c s15 w := Nd_fold K_l12_DiskFails (by kernel_rfl) h
theorem N_l12_DiskFails.j28_eq (Q : Value → World → Prop) (s14 : Option Addr) (s14n : Nat) (s14c : Nat) (s15 : Bool) (s16 : Option Addr) (s16n : Nat) (s16c : Nat) (s17 : Bool) (w : World) (h :
  cond s15
  (cond s17
  (C_l12_sameFiles #[.slice s14 s14n s14c, .slice s16 s16n s16c] w fun v1 w2 =>
  opnB (some v1) fun x3 =>
  Q (.bool x3) w2)
  (Q (.bool false) w))
  (Q (.bool false) w)) :
N_l12_DiskFails.j28 Q s14 s14n s14c s15 s16 s16n s16c s17 w := Nd_fold K_l12_DiskFails (by kernel_rfl) h
noncomputable def B_l12_DiskAll : Code := match Tryz.f6.body with | some c => c | _ => .skip
noncomputable def X_l12_DiskAll : Cx := { P := PP, fn := 6, N := 161, tab := tab, results := [.tmp 2], iter := fun _ => (.none, .none), dyn := fun _ => false, live := fun r => cond (Nat.beq r 3) (some []) (cond (Nat.beq r 7) (some []) (cond (Nat.beq r 10) (some [0, 9, 10]) (cond (Nat.beq r 11) (some [0, 9, 10]) (cond (Nat.beq r 16) (some [0, 9, 10, 11]) (cond (Nat.beq r 18) (some [0, 9, 10, 11, 12]) (cond (Nat.beq r 19) (some [0, 9, 10, 11, 12, 13]) (cond (Nat.beq r 20) (some [0, 9, 10, 11, 12]) (cond (Nat.beq r 21) (some [0, 9, 10, 11, 12, 13]) (cond (Nat.beq r 22) (some [0, 9, 10, 11, 12]) (cond (Nat.beq r 23) (some [0, 9, 10, 11, 12, 14]) (cond (Nat.beq r 24) (some [0, 9, 10, 11, 12, 14]) (cond (Nat.beq r 25) (some [0, 9, 10, 15]) (cond (Nat.beq r 26) (some [0, 9, 10, 13, 15]) (cond (Nat.beq r 27) (some [0, 9, 10, 13]) (cond (Nat.beq r 28) (some []) (none)))))))))))))))) }
theorem K_l12_DiskAll : OkF X_l12_DiskAll B_l12_DiskAll Tryz.f6 := ⟨⟨tab_ok, mix_ok⟩, Tryz.func6, by kernel_rfl, by kernel_rfl, by kernel_rfl, by kernel_rfl⟩
noncomputable def N_l12_DiskAll.j3 (Q : Value → World → Prop) (w : World) : Prop := Nd X_l12_DiskAll Q [] [.code (B_l12_DiskAll.r.r.l.r.l.l), .code (B_l12_DiskAll.r.r.l.r.l.r), .code (B_l12_DiskAll.r.r.r)] w
noncomputable def N_l12_DiskAll.j7 (Q : Value → World → Prop) (w : World) : Prop := Nd X_l12_DiskAll Q [] [.code (B_l12_DiskAll.r.r.r.r.r.l.r.l.l), .code (B_l12_DiskAll.r.r.r.r.r.l.r.l.r), .code (B_l12_DiskAll.r.r.r.r.r.r)] w
noncomputable def N_l12_DiskAll.j10 (Q : Value → World → Prop) (s0 : Option Addr) (s0n : Nat) (s0c : Nat) (s9 : Option Addr) (s9n : Nat) (s9c : Nat) (s10 : Int) (w : World) : Prop := Nd X_l12_DiskAll Q [(0, 0, .slice s0 s0n s0c), (9, 9, .slice s9 s9n s9c), (10, 10, .int .i64 s10)] [.code (B_l12_DiskAll.r.r.r.r.r.r.r.l.r.l.l.l.l), .code (B_l12_DiskAll.r.r.r.r.r.r.r.l.r.l.l.l.r), .code (B_l12_DiskAll.r.r.r.r.r.r.r.l.r.l.l.r), .inLoop (B_l12_DiskAll.r.r.r.r.r.r.r.l.r.l.l), .inBlock 0, .code (B_l12_DiskAll.r.r.r.r.r.r.r.r)] w
noncomputable def N_l12_DiskAll.j11 (Q : Value → World → Prop) (s0 : Option Addr) (s0n : Nat) (s0c : Nat) (s9 : Option Addr) (s9n : Nat) (s9c : Nat) (s10 : Int) (w : World) : Prop := Nd X_l12_DiskAll Q [(0, 0, .slice s0 s0n s0c), (9, 9, .slice s9 s9n s9c), (10, 10, .int .i64 s10)] [.code (B_l12_DiskAll.r.r.r.r.r.r.r.l.r.l.l.r.r), .inLoop (B_l12_DiskAll.r.r.r.r.r.r.r.l.r.l.l), .inBlock 0, .code (B_l12_DiskAll.r.r.r.r.r.r.r.r)] w
noncomputable def N_l12_DiskAll.j16 (Q : Value → World → Prop) (s0 : Option Addr) (s0n : Nat) (s0c : Nat) (s9 : Option Addr) (s9n : Nat) (s9c : Nat) (s10 : Int) (s11 : Addr) (w : World) : Prop := Nd X_l12_DiskAll Q [(0, 0, .slice s0 s0n s0c), (9, 9, .slice s9 s9n s9c), (10, 10, .int .i64 s10), (11, 11, .pointer (some s11))] [.code (B_l12_DiskAll.r.r.r.r.r.r.r.l.r.l.l.r.l.l.r.r.r.l.l.r.l), .inBlock 2, .code (B_l12_DiskAll.r.r.r.r.r.r.r.l.r.l.l.r.l.l.r.r.r.r), .inBlock 1, .code (B_l12_DiskAll.r.r.r.r.r.r.r.l.r.l.l.r.r), .inLoop (B_l12_DiskAll.r.r.r.r.r.r.r.l.r.l.l), .inBlock 0, .code (B_l12_DiskAll.r.r.r.r.r.r.r.r)] w
noncomputable def N_l12_DiskAll.j18 (Q : Value → World → Prop) (s0 : Option Addr) (s0n : Nat) (s0c : Nat) (s9 : Option Addr) (s9n : Nat) (s9c : Nat) (s10 : Int) (s11 : Addr) (s12 : Addr) (w : World) : Prop := Nd X_l12_DiskAll Q [(0, 0, .slice s0 s0n s0c), (9, 9, .slice s9 s9n s9c), (10, 10, .int .i64 s10), (11, 11, .pointer (some s11)), (12, 12, .pointer (some s12))] [.code (B_l12_DiskAll.r.r.r.r.r.r.r.l.r.l.l.r.l.l.r.r.r.l.l.r.r.r.l), .inBlock 2, .code (B_l12_DiskAll.r.r.r.r.r.r.r.l.r.l.l.r.l.l.r.r.r.r), .inBlock 1, .code (B_l12_DiskAll.r.r.r.r.r.r.r.l.r.l.l.r.r), .inLoop (B_l12_DiskAll.r.r.r.r.r.r.r.l.r.l.l), .inBlock 0, .code (B_l12_DiskAll.r.r.r.r.r.r.r.r)] w
noncomputable def N_l12_DiskAll.j19 (Q : Value → World → Prop) (s0 : Option Addr) (s0n : Nat) (s0c : Nat) (s9 : Option Addr) (s9n : Nat) (s9c : Nat) (s10 : Int) (s11 : Addr) (s12 : Addr) (s13 : Bool) (w : World) : Prop := Nd X_l12_DiskAll Q [(0, 0, .slice s0 s0n s0c), (9, 9, .slice s9 s9n s9c), (10, 10, .int .i64 s10), (11, 11, .pointer (some s11)), (12, 12, .pointer (some s12)), (13, 13, .bool s13)] [.code (B_l12_DiskAll.r.r.r.r.r.r.r.l.r.l.l.r.l.l.r.r.r.l.l.r.r.r.r.l), .code (B_l12_DiskAll.r.r.r.r.r.r.r.l.r.l.l.r.l.l.r.r.r.l.l.r.r.r.r.r), .inBlock 2, .code (B_l12_DiskAll.r.r.r.r.r.r.r.l.r.l.l.r.l.l.r.r.r.r), .inBlock 1, .code (B_l12_DiskAll.r.r.r.r.r.r.r.l.r.l.l.r.r), .inLoop (B_l12_DiskAll.r.r.r.r.r.r.r.l.r.l.l), .inBlock 0, .code (B_l12_DiskAll.r.r.r.r.r.r.r.r)] w
noncomputable def N_l12_DiskAll.j20 (Q : Value → World → Prop) (s0 : Option Addr) (s0n : Nat) (s0c : Nat) (s9 : Option Addr) (s9n : Nat) (s9c : Nat) (s10 : Int) (s11 : Addr) (s12 : Addr) (w : World) : Prop := Nd X_l12_DiskAll Q [(0, 0, .slice s0 s0n s0c), (9, 9, .slice s9 s9n s9c), (10, 10, .int .i64 s10), (11, 11, .pointer (some s11)), (12, 12, .pointer (some s12))] [.code (B_l12_DiskAll.r.r.r.r.r.r.r.l.r.l.l.r.l.l.r.r.r.l.l.r.r.r.r.r.l), .inBlock 2, .code (B_l12_DiskAll.r.r.r.r.r.r.r.l.r.l.l.r.l.l.r.r.r.r), .inBlock 1, .code (B_l12_DiskAll.r.r.r.r.r.r.r.l.r.l.l.r.r), .inLoop (B_l12_DiskAll.r.r.r.r.r.r.r.l.r.l.l), .inBlock 0, .code (B_l12_DiskAll.r.r.r.r.r.r.r.r)] w
noncomputable def N_l12_DiskAll.j21 (Q : Value → World → Prop) (s0 : Option Addr) (s0n : Nat) (s0c : Nat) (s9 : Option Addr) (s9n : Nat) (s9c : Nat) (s10 : Int) (s11 : Addr) (s12 : Addr) (s13 : Bool) (w : World) : Prop := Nd X_l12_DiskAll Q [(0, 0, .slice s0 s0n s0c), (9, 9, .slice s9 s9n s9c), (10, 10, .int .i64 s10), (11, 11, .pointer (some s11)), (12, 12, .pointer (some s12)), (13, 13, .bool s13)] [.code (B_l12_DiskAll.r.r.r.r.r.r.r.l.r.l.l.r.l.l.r.r.r.l.l.r.r.r.r.r.r.l), .code (B_l12_DiskAll.r.r.r.r.r.r.r.l.r.l.l.r.l.l.r.r.r.l.l.r.r.r.r.r.r.r), .inBlock 2, .code (B_l12_DiskAll.r.r.r.r.r.r.r.l.r.l.l.r.l.l.r.r.r.r), .inBlock 1, .code (B_l12_DiskAll.r.r.r.r.r.r.r.l.r.l.l.r.r), .inLoop (B_l12_DiskAll.r.r.r.r.r.r.r.l.r.l.l), .inBlock 0, .code (B_l12_DiskAll.r.r.r.r.r.r.r.r)] w
noncomputable def N_l12_DiskAll.j22 (Q : Value → World → Prop) (s0 : Option Addr) (s0n : Nat) (s0c : Nat) (s9 : Option Addr) (s9n : Nat) (s9c : Nat) (s10 : Int) (s11 : Addr) (s12 : Addr) (w : World) : Prop := Nd X_l12_DiskAll Q [(0, 0, .slice s0 s0n s0c), (9, 9, .slice s9 s9n s9c), (10, 10, .int .i64 s10), (11, 11, .pointer (some s11)), (12, 12, .pointer (some s12))] [.code (B_l12_DiskAll.r.r.r.r.r.r.r.l.r.l.l.r.l.l.r.r.r.l.l.r.r.r.r.r.r.r.l.l), .code (B_l12_DiskAll.r.r.r.r.r.r.r.l.r.l.l.r.l.l.r.r.r.l.l.r.r.r.r.r.r.r.l.r), .inBlock 2, .code (B_l12_DiskAll.r.r.r.r.r.r.r.l.r.l.l.r.l.l.r.r.r.r), .inBlock 1, .code (B_l12_DiskAll.r.r.r.r.r.r.r.l.r.l.l.r.r), .inLoop (B_l12_DiskAll.r.r.r.r.r.r.r.l.r.l.l), .inBlock 0, .code (B_l12_DiskAll.r.r.r.r.r.r.r.r)] w
noncomputable def N_l12_DiskAll.j23 (Q : Value → World → Prop) (s0 : Option Addr) (s0n : Nat) (s0c : Nat) (s9 : Option Addr) (s9n : Nat) (s9c : Nat) (s10 : Int) (s11 : Addr) (s12 : Addr) (s14 : Option Addr) (s14n : Nat) (s14c : Nat) (w : World) : Prop := Nd X_l12_DiskAll Q [(0, 0, .slice s0 s0n s0c), (9, 9, .slice s9 s9n s9c), (10, 10, .int .i64 s10), (11, 11, .pointer (some s11)), (12, 12, .pointer (some s12)), (14, 14, .slice s14 s14n s14c)] [.code (B_l12_DiskAll.r.r.r.r.r.r.r.l.r.l.l.r.l.l.r.r.r.l.l.r.r.r.r.r.r.r.l.r.l), .code (B_l12_DiskAll.r.r.r.r.r.r.r.l.r.l.l.r.l.l.r.r.r.l.l.r.r.r.r.r.r.r.l.r.r), .inBlock 2, .code (B_l12_DiskAll.r.r.r.r.r.r.r.l.r.l.l.r.l.l.r.r.r.r), .inBlock 1, .code (B_l12_DiskAll.r.r.r.r.r.r.r.l.r.l.l.r.r), .inLoop (B_l12_DiskAll.r.r.r.r.r.r.r.l.r.l.l), .inBlock 0, .code (B_l12_DiskAll.r.r.r.r.r.r.r.r)] w
noncomputable def N_l12_DiskAll.j24 (Q : Value → World → Prop) (s0 : Option Addr) (s0n : Nat) (s0c : Nat) (s9 : Option Addr) (s9n : Nat) (s9c : Nat) (s10 : Int) (s11 : Addr) (s12 : Addr) (s14 : Option Addr) (s14n : Nat) (s14c : Nat) (w : World) : Prop := Nd X_l12_DiskAll Q [(0, 0, .slice s0 s0n s0c), (9, 9, .slice s9 s9n s9c), (10, 10, .int .i64 s10), (11, 11, .pointer (some s11)), (12, 12, .pointer (some s12)), (14, 14, .slice s14 s14n s14c)] [.code (B_l12_DiskAll.r.r.r.r.r.r.r.l.r.l.l.r.l.l.r.r.r.l.l.r.r.r.r.r.r.r.l.r.r.l), .code (B_l12_DiskAll.r.r.r.r.r.r.r.l.r.l.l.r.l.l.r.r.r.l.l.r.r.r.r.r.r.r.l.r.r.r), .inBlock 2, .code (B_l12_DiskAll.r.r.r.r.r.r.r.l.r.l.l.r.l.l.r.r.r.r), .inBlock 1, .code (B_l12_DiskAll.r.r.r.r.r.r.r.l.r.l.l.r.r), .inLoop (B_l12_DiskAll.r.r.r.r.r.r.r.l.r.l.l), .inBlock 0, .code (B_l12_DiskAll.r.r.r.r.r.r.r.r)] w
noncomputable def N_l12_DiskAll.j25 (Q : Value → World → Prop) (s0 : Option Addr) (s0n : Nat) (s0c : Nat) (s9 : Option Addr) (s9n : Nat) (s9c : Nat) (s10 : Int) (s15 : Addr) (w : World) : Prop := Nd X_l12_DiskAll Q [(0, 0, .slice s0 s0n s0c), (9, 9, .slice s9 s9n s9c), (10, 10, .int .i64 s10), (15, 15, .pointer (some s15))] [.code (B_l12_DiskAll.r.r.r.r.r.r.r.l.r.l.l.r.l.l.r.r.r.l.l.r.r.r.r.r.r.r.l.r.r.r.l), .code (B_l12_DiskAll.r.r.r.r.r.r.r.l.r.l.l.r.l.l.r.r.r.l.l.r.r.r.r.r.r.r.l.r.r.r.r), .inBlock 2, .code (B_l12_DiskAll.r.r.r.r.r.r.r.l.r.l.l.r.l.l.r.r.r.r), .inBlock 1, .code (B_l12_DiskAll.r.r.r.r.r.r.r.l.r.l.l.r.r), .inLoop (B_l12_DiskAll.r.r.r.r.r.r.r.l.r.l.l), .inBlock 0, .code (B_l12_DiskAll.r.r.r.r.r.r.r.r)] w
noncomputable def N_l12_DiskAll.j26 (Q : Value → World → Prop) (s0 : Option Addr) (s0n : Nat) (s0c : Nat) (s9 : Option Addr) (s9n : Nat) (s9c : Nat) (s10 : Int) (s13 : Bool) (s15 : Addr) (w : World) : Prop := Nd X_l12_DiskAll Q [(0, 0, .slice s0 s0n s0c), (9, 9, .slice s9 s9n s9c), (10, 10, .int .i64 s10), (13, 13, .bool s13), (15, 15, .pointer (some s15))] [.code (B_l12_DiskAll.r.r.r.r.r.r.r.l.r.l.l.r.l.l.r.r.r.l.l.r.r.r.r.r.r.r.l.r.r.r.r), .inBlock 2, .code (B_l12_DiskAll.r.r.r.r.r.r.r.l.r.l.l.r.l.l.r.r.r.r), .inBlock 1, .code (B_l12_DiskAll.r.r.r.r.r.r.r.l.r.l.l.r.r), .inLoop (B_l12_DiskAll.r.r.r.r.r.r.r.l.r.l.l), .inBlock 0, .code (B_l12_DiskAll.r.r.r.r.r.r.r.r)] w
noncomputable def N_l12_DiskAll.j27 (Q : Value → World → Prop) (s0 : Option Addr) (s0n : Nat) (s0c : Nat) (s9 : Option Addr) (s9n : Nat) (s9c : Nat) (s10 : Int) (s13 : Bool) (w : World) : Prop := Nd X_l12_DiskAll Q [(0, 0, .slice s0 s0n s0c), (9, 9, .slice s9 s9n s9c), (10, 10, .int .i64 s10), (13, 13, .bool s13)] [.code (B_l12_DiskAll.r.r.r.r.r.r.r.l.r.l.l.r.l.l.r.r.r.r.l), .code (B_l12_DiskAll.r.r.r.r.r.r.r.l.r.l.l.r.l.l.r.r.r.r.r), .inBlock 1, .code (B_l12_DiskAll.r.r.r.r.r.r.r.l.r.l.l.r.r), .inLoop (B_l12_DiskAll.r.r.r.r.r.r.r.l.r.l.l), .inBlock 0, .code (B_l12_DiskAll.r.r.r.r.r.r.r.r)] w
noncomputable def N_l12_DiskAll.j28 (Q : Value → World → Prop) (w : World) : Prop := Nd X_l12_DiskAll Q [] [.code (B_l12_DiskAll.r.r.r.r.r.r.r.l.r.l.l.r.l.l.r.r.r.r.r.l.l), .code (B_l12_DiskAll.r.r.r.r.r.r.r.l.r.l.l.r.l.l.r.r.r.r.r.l.r), .inBlock 1, .code (B_l12_DiskAll.r.r.r.r.r.r.r.l.r.l.l.r.r), .inLoop (B_l12_DiskAll.r.r.r.r.r.r.r.l.r.l.l), .inBlock 0, .code (B_l12_DiskAll.r.r.r.r.r.r.r.r)] w
theorem N_l12_DiskAll.j3_eq (Q : Value → World → Prop) (w : World) (h :
  Q (.bool false) w) :
N_l12_DiskAll.j3 Q w := Nd_fold K_l12_DiskAll (by kernel_rfl) h
theorem N_l12_DiskAll.j7_eq (Q : Value → World → Prop) (w : World) (h :
  Q (.bool false) w) :
N_l12_DiskAll.j7 Q w := Nd_fold K_l12_DiskAll (by kernel_rfl) h
theorem N_l12_DiskAll.j10_eq (Q : Value → World → Prop) (s0 : Option Addr) (s0n : Nat) (s0c : Nat) (s9 : Option Addr) (s9n : Nat) (s9c : Nat) (s10 : Int) (w : World) (h :
  cond (decide (s10 < ((s0n : Nat) : Int)))
  ((0 : Int) ≤ s10 ∧
  s10 < ((s0n : Nat) : Int) ∧
  opnA s0 fun ad1 =>
  opnI .i64 (w.cell? ((ad1.add (Int.toNat s10 * 9)).add 0)) fun x2 =>
  opnI .i64 (w.cell? ((ad1.add (Int.toNat s10 * 9)).add 1)) fun x3 =>
  opnS (w.cell? ((ad1.add (Int.toNat s10 * 9)).add 2)) fun x4 =>
  opnS (w.cell? ((ad1.add (Int.toNat s10 * 9)).add 3)) fun x5 =>
  opnI .i64 (w.cell? ((ad1.add (Int.toNat s10 * 9)).add 4)) fun x6 =>
  opnI .i64 (w.cell? ((ad1.add (Int.toNat s10 * 9)).add 5)) fun x7 =>
  opnL (w.cell? ((ad1.add (Int.toNat s10 * 9)).add 6)) fun x8 x8n x8c =>
  opnL (w.cell? ((ad1.add (Int.toNat s10 * 9)).add 7)) fun x9 x9n x9c =>
  opnL (w.cell? ((ad1.add (Int.toNat s10 * 9)).add 8)) fun x10 x10n x10c =>
  alC #[.int .i64 0, .int .i64 0, .string (⟨#[]⟩ : ByteArray), .string (⟨#[]⟩ : ByteArray), .int .i64 0, .int .i64 0, .slice none 0 0, .slice none 0 0, .slice none 0 0] 55 w fun p11 w12 =>
  Array.size (#[.int .i64 x2, .int .i64 x3, .string x4, .string x5, .int .i64 x6, .int .i64 x7, .slice x8 x8n x8c, .slice x9 x9n x9c, .slice x10 x10n x10c] : Array Value) = 9 ∧
  stC (p11.add 0) (.int .i64 x2) w12 fun w13 =>
  stC (p11.add 1) (.int .i64 x3) w13 fun w14 =>
  stC (p11.add 2) (.string x4) w14 fun w15 =>
  stC (p11.add 3) (.string x5) w15 fun w16 =>
  stC (p11.add 4) (.int .i64 x6) w16 fun w17 =>
  stC (p11.add 5) (.int .i64 x7) w17 fun w18 =>
  stC (p11.add 6) (.slice x8 x8n x8c) w18 fun w19 =>
  stC (p11.add 7) (.slice x9 x9n x9c) w19 fun w20 =>
  stC (p11.add 8) (.slice x10 x10n x10c) w20 fun w21 =>
  opnI .i64 (w21.cell? (p11.add 1)) fun x22 =>
  C_l12_within #[.int .i64 x22, .int .i64 0, .int .i64 (IntKind.wrap .i64 (((s9n : Nat) : Int) - 1))] w21 fun v23 w24 =>
  opnI .i64 (some v23) fun x25 =>
  (0 : Int) ≤ x25 ∧
  x25 < ((s9n : Nat) : Int) ∧
  opnA s9 fun ad26 =>
  opnP (w24.cell? ((ad26.add (Int.toNat x25 * 2)).add 0)) fun x27 =>
  opnP (w24.cell? ((ad26.add (Int.toNat x25 * 2)).add 1)) fun x28 =>
  alC #[.pointer none, .pointer none] 66 w24 fun p29 w30 =>
  Array.size (#[.pointer x27, .pointer x28] : Array Value) = 2 ∧
  stC (p29.add 0) (.pointer x27) w30 fun w31 =>
  stC (p29.add 1) (.pointer x28) w31 fun w32 =>
  opnI .i64 (w32.cell? (p11.add 0)) fun x33 =>
  cond (x33 == 1)
  (N_l12_DiskAll.j16 Q s0 s0n s0c s9 s9n s9c s10 p11 w32)
  (opnI .i64 (w32.cell? (p11.add 0)) fun x34 =>
  cond (x34 == 2)
  (N_l12_DiskAll.j16 Q s0 s0n s0c s9 s9n s9c s10 p11 w32)
  (opnI .i64 (w32.cell? (p11.add 0)) fun x35 =>
  cond (decide (x35 ≥ 3))
  (opnI .i64 (w32.cell? (p11.add 0)) fun x36 =>
  cond (decide (x36 ≤ 8))
  (N_l12_DiskAll.j18 Q s0 s0n s0c s9 s9n s9c s10 p11 p29 w32)
  (opnI .i64 (w32.cell? (p11.add 0)) fun x37 =>
  cond (x37 == 13)
  (N_l12_DiskAll.j18 Q s0 s0n s0c s9 s9n s9c s10 p11 p29 w32)
  (N_l12_DiskAll.j19 Q s0 s0n s0c s9 s9n s9c s10 p11 p29 true w32)))
  (opnI .i64 (w32.cell? (p11.add 0)) fun x38 =>
  cond (x38 == 13)
  (N_l12_DiskAll.j18 Q s0 s0n s0c s9 s9n s9c s10 p11 p29 w32)
  (N_l12_DiskAll.j19 Q s0 s0n s0c s9 s9n s9c s10 p11 p29 true w32)))))
  (Q (.bool true) w)) :
N_l12_DiskAll.j10 Q s0 s0n s0c s9 s9n s9c s10 w := Nd_fold K_l12_DiskAll (by kernel_rfl) h
theorem N_l12_DiskAll.j11_eq (Q : Value → World → Prop) (s0 : Option Addr) (s0n : Nat) (s0c : Nat) (s9 : Option Addr) (s9n : Nat) (s9c : Nat) (s10 : Int) (w : World) (h :
  N_l12_DiskAll.j10 Q s0 s0n s0c s9 s9n s9c (IntKind.wrap .i64 (s10 + 1)) w) :
N_l12_DiskAll.j11 Q s0 s0n s0c s9 s9n s9c s10 w := Nd_fold K_l12_DiskAll (by kernel_rfl) h
theorem N_l12_DiskAll.j16_eq (Q : Value → World → Prop) (s0 : Option Addr) (s0n : Nat) (s0c : Nat) (s9 : Option Addr) (s9n : Nat) (s9c : Nat) (s10 : Int) (s11 : Addr) (w : World) (h :
  opnI .i64 (w.cell? (s11.add 0)) fun x1 =>
  opnI .i64 (w.cell? (s11.add 1)) fun x2 =>
  opnS (w.cell? (s11.add 2)) fun x3 =>
  opnS (w.cell? (s11.add 3)) fun x4 =>
  opnI .i64 (w.cell? (s11.add 4)) fun x5 =>
  opnI .i64 (w.cell? (s11.add 5)) fun x6 =>
  opnL (w.cell? (s11.add 6)) fun x7 x7n x7c =>
  opnL (w.cell? (s11.add 7)) fun x8 x8n x8c =>
  opnL (w.cell? (s11.add 8)) fun x9 x9n x9c =>
  C_l12_made #[.slice s9 s9n s9c, .agg #[.int .i64 x1, .int .i64 x2, .string x3, .string x4, .int .i64 x5, .int .i64 x6, .slice x7 x7n x7c, .slice x8 x8n x8c, .slice x9 x9n x9c]] w fun v10 w11 =>
  opnT (some v10) fun x12 =>
  x12.size = 2 ∧
  opnL (x12[0]?) fun x13 x13n x13c =>
  opnB (x12[1]?) fun x14 =>
  N_l12_DiskAll.j27 Q s0 s0n s0c x13 x13n x13c s10 x14 w11) :
N_l12_DiskAll.j16 Q s0 s0n s0c s9 s9n s9c s10 s11 w := Nd_fold K_l12_DiskAll (by kernel_rfl) h
theorem N_l12_DiskAll.j18_eq (Q : Value → World → Prop) (s0 : Option Addr) (s0n : Nat) (s0c : Nat) (s9 : Option Addr) (s9n : Nat) (s9c : Nat) (s10 : Int) (s11 : Addr) (s12 : Addr) (w : World) (h :
  drw w fun w1 =>
  opnP (w1.cell? (s12.add 0)) fun x2 =>
  opnI .i64 (w1.cell? (s11.add 0)) fun x3 =>
  opnI .i64 (w1.cell? (s11.add 1)) fun x4 =>
  opnS (w1.cell? (s11.add 2)) fun x5 =>
  opnS (w1.cell? (s11.add 3)) fun x6 =>
  opnI .i64 (w1.cell? (s11.add 4)) fun x7 =>
  opnI .i64 (w1.cell? (s11.add 5)) fun x8 =>
  opnL (w1.cell? (s11.add 6)) fun x9 x9n x9c =>
  opnL (w1.cell? (s11.add 7)) fun x10 x10n x10c =>
  opnL (w1.cell? (s11.add 8)) fun x11 x11n x11c =>
  opnP (w1.cell? (s12.add 1)) fun x12 =>
  opnI .i64 (w1.cell? (s11.add 0)) fun x13 =>
  opnI .i64 (w1.cell? (s11.add 1)) fun x14 =>
  opnS (w1.cell? (s11.add 2)) fun x15 =>
  opnS (w1.cell? (s11.add 3)) fun x16 =>
  opnI .i64 (w1.cell? (s11.add 4)) fun x17 =>
  opnI .i64 (w1.cell? (s11.add 5)) fun x18 =>
  opnL (w1.cell? (s11.add 6)) fun x19 x19n x19c =>
  opnL (w1.cell? (s11.add 7)) fun x20 x20n x20c =>
  opnL (w1.cell? (s11.add 8)) fun x21 x21n x21c =>
  C_l12_act #[.pointer x2, .agg #[.int .i64 x3, .int .i64 x4, .string x5, .string x6, .int .i64 x7, .int .i64 x8, .slice x9 x9n x9c, .slice x10 x10n x10c, .slice x11 x11n x11c]] w1 fun v22 w23 =>
  opnI .i64 (some v22) fun x24 =>
  (opnI .i64 (w23.cell? (s11.add 0)) fun x25 =>
  opnI .i64 (w23.cell? (s11.add 1)) fun x26 =>
  opnS (w23.cell? (s11.add 2)) fun x27 =>
  opnS (w23.cell? (s11.add 3)) fun x28 =>
  opnI .i64 (w23.cell? (s11.add 4)) fun x29 =>
  opnI .i64 (w23.cell? (s11.add 5)) fun x30 =>
  opnL (w23.cell? (s11.add 6)) fun x31 x31n x31c =>
  opnL (w23.cell? (s11.add 7)) fun x32 x32n x32c =>
  opnL (w23.cell? (s11.add 8)) fun x33 x33n x33c =>
  ((.agg #[.int .i64 x25, .int .i64 x26, .string x27, .string x28, .int .i64 x29, .int .i64 x30, .slice x31 x31n x31c, .slice x32 x32n x32c, .slice x33 x33n x33c]) : Value) = .agg #[.int .i64 x13, .int .i64 x14, .string x15, .string x16, .int .i64 x17, .int .i64 x18, .slice x19 x19n x19c, .slice x20 x20n x20c, .slice x21 x21n x21c]) ∧
  (opnP (w23.cell? (s12.add 1)) fun x34 =>
  ((.pointer x34) : Value) = .pointer x12) ∧
  C_l12_actOf #[.pointer x12, .agg #[.int .i64 x13, .int .i64 x14, .string x15, .string x16, .int .i64 x17, .int .i64 x18, .slice x19 x19n x19c, .slice x20 x20n x20c, .slice x21 x21n x21c]] w23 fun v35 w36 =>
  opnI .i64 (some v35) fun x37 =>
  N_l12_DiskAll.j27 Q s0 s0n s0c s9 s9n s9c s10 (x24 == x37) w36) :
N_l12_DiskAll.j18 Q s0 s0n s0c s9 s9n s9c s10 s11 s12 w := Nd_fold K_l12_DiskAll (by kernel_rfl) h
theorem N_l12_DiskAll.j19_eq (Q : Value → World → Prop) (s0 : Option Addr) (s0n : Nat) (s0c : Nat) (s9 : Option Addr) (s9n : Nat) (s9c : Nat) (s10 : Int) (s11 : Addr) (s12 : Addr) (s13 : Bool) (w : World) (h :
  opnI .i64 (w.cell? (s11.add 0)) fun x1 =>
  cond (decide (x1 ≥ 9))
  (opnI .i64 (w.cell? (s11.add 0)) fun x2 =>
  cond (decide (x2 ≤ 12))
  (N_l12_DiskAll.j20 Q s0 s0n s0c s9 s9n s9c s10 s11 s12 w)
  (N_l12_DiskAll.j21 Q s0 s0n s0c s9 s9n s9c s10 s11 s12 s13 w))
  (N_l12_DiskAll.j21 Q s0 s0n s0c s9 s9n s9c s10 s11 s12 s13 w)) :
N_l12_DiskAll.j19 Q s0 s0n s0c s9 s9n s9c s10 s11 s12 s13 w := Nd_fold K_l12_DiskAll (by kernel_rfl) h
theorem N_l12_DiskAll.j20_eq (Q : Value → World → Prop) (s0 : Option Addr) (s0n : Nat) (s0c : Nat) (s9 : Option Addr) (s9n : Nat) (s9c : Nat) (s10 : Int) (s11 : Addr) (s12 : Addr) (w : World) (h :
  opnP (w.cell? (s12.add 0)) fun x1 =>
  opnP (w.cell? (s12.add 1)) fun x2 =>
  opnI .i64 (w.cell? (s11.add 0)) fun x3 =>
  opnI .i64 (w.cell? (s11.add 1)) fun x4 =>
  opnS (w.cell? (s11.add 2)) fun x5 =>
  opnS (w.cell? (s11.add 3)) fun x6 =>
  opnI .i64 (w.cell? (s11.add 4)) fun x7 =>
  opnI .i64 (w.cell? (s11.add 5)) fun x8 =>
  opnL (w.cell? (s11.add 6)) fun x9 x9n x9c =>
  opnL (w.cell? (s11.add 7)) fun x10 x10n x10c =>
  opnL (w.cell? (s11.add 8)) fun x11 x11n x11c =>
  C_l12_told #[.agg #[.pointer x1, .pointer x2], .agg #[.int .i64 x3, .int .i64 x4, .string x5, .string x6, .int .i64 x7, .int .i64 x8, .slice x9 x9n x9c, .slice x10 x10n x10c, .slice x11 x11n x11c]] w fun v12 w13 =>
  opnB (some v12) fun x14 =>
  N_l12_DiskAll.j27 Q s0 s0n s0c s9 s9n s9c s10 x14 w13) :
N_l12_DiskAll.j20 Q s0 s0n s0c s9 s9n s9c s10 s11 s12 w := Nd_fold K_l12_DiskAll (by kernel_rfl) h
theorem N_l12_DiskAll.j21_eq (Q : Value → World → Prop) (s0 : Option Addr) (s0n : Nat) (s0c : Nat) (s9 : Option Addr) (s9n : Nat) (s9c : Nat) (s10 : Int) (s11 : Addr) (s12 : Addr) (s13 : Bool) (w : World) (h :
  opnI .i64 (w.cell? (s11.add 0)) fun x1 =>
  cond (x1 == 14)
  (N_l12_DiskAll.j22 Q s0 s0n s0c s9 s9n s9c s10 s11 s12 w)
  (N_l12_DiskAll.j27 Q s0 s0n s0c s9 s9n s9c s10 s13 w)) :
N_l12_DiskAll.j21 Q s0 s0n s0c s9 s9n s9c s10 s11 s12 s13 w := Nd_fold K_l12_DiskAll (by kernel_rfl) h
theorem N_l12_DiskAll.j22_eq (Q : Value → World → Prop) (s0 : Option Addr) (s0n : Nat) (s0c : Nat) (s9 : Option Addr) (s9n : Nat) (s9c : Nat) (s10 : Int) (s11 : Addr) (s12 : Addr) (w : World) (h :
  N_l12_DiskAll.j23 Q s0 s0n s0c s9 s9n s9c s10 s11 s12 none 0 0 w) :
N_l12_DiskAll.j22 Q s0 s0n s0c s9 s9n s9c s10 s11 s12 w := Nd_fold K_l12_DiskAll (by kernel_rfl) h
theorem N_l12_DiskAll.j23_eq (Q : Value → World → Prop) (s0 : Option Addr) (s0n : Nat) (s0c : Nat) (s9 : Option Addr) (s9n : Nat) (s9c : Nat) (s10 : Int) (s11 : Addr) (s12 : Addr) (s14 : Option Addr) (s14n : Nat) (s14c : Nat) (w : World) (h :
  opnL (w.cell? (s11.add 8)) fun x1 x1n x1c =>
  sem PP (Builtin.append_ #[24, 24] 24 #[.slice s14 s14n s14c, .slice x1 x1n x1c]) w fun v2 w3 =>
  opnL (some v2) fun x4 x4n x4c =>
  N_l12_DiskAll.j24 Q s0 s0n s0c s9 s9n s9c s10 s11 s12 x4 x4n x4c w3) :
N_l12_DiskAll.j23 Q s0 s0n s0c s9 s9n s9c s10 s11 s12 s14 s14n s14c w := Nd_fold K_l12_DiskAll (by kernel_rfl) h
theorem N_l12_DiskAll.j24_eq (Q : Value → World → Prop) (s0 : Option Addr) (s0n : Nat) (s0c : Nat) (s9 : Option Addr) (s9n : Nat) (s9c : Nat) (s10 : Int) (s11 : Addr) (s12 : Addr) (s14 : Option Addr) (s14n : Nat) (s14c : Nat) (w : World) (h :
  drw w fun w1 =>
  opnP (w1.cell? (s12.add 0)) fun x2 =>
  opnP (w1.cell? (s12.add 1)) fun x3 =>
  opnL (w1.cell? (s11.add 8)) fun x4 x4n x4c =>
  (C_p_disk_Disk_Crash #[.pointer x2, .slice s14 s14n s14c] w1 fun v5 w6 =>
  opnP (some v5) fun x7 =>
  (opnL (w6.cell? (s11.add 8)) fun x8 x8n x8c =>
  ((.slice x8 x8n x8c) : Value) = .slice x4 x4n x4c) ∧
  (opnP (w6.cell? (s12.add 1)) fun x9 =>
  ((.pointer x9) : Value) = .pointer x3) ∧
  (C_p_r12_Disk_Crash #[.pointer x3, .slice x4 x4n x4c] w6 fun v10 w11 =>
  opnP (some v10) fun x12 =>
  alC #[.pointer none, .pointer none] 66 w11 fun p13 w14 =>
  (opnL (w14.cell? (s11.add 8)) fun x15 x15n x15c =>
  ((.slice x15 x15n x15c) : Value) = .slice x4 x4n x4c) ∧
  (opnP (w14.cell? (s12.add 1)) fun x16 =>
  ((.pointer x16) : Value) = .pointer x3) ∧
  (opnP (w14.cell? (s12.add 0)) fun x17 =>
  ((.pointer x17) : Value) = .pointer x2) ∧
  Array.size (#[.pointer x7, .pointer x12] : Array Value) = 2 ∧
  stC (p13.add 0) (.pointer x7) w14 fun w18 =>
  stC (p13.add 1) (.pointer x12) w18 fun w19 =>
  N_l12_DiskAll.j25 Q s0 s0n s0c s9 s9n s9c s10 p13 w19) ∧
  (alC #[.pointer none, .pointer none] 66 w6 fun p20 w21 =>
  (opnL (w21.cell? (s11.add 8)) fun x22 x22n x22c =>
  ((.slice x22 x22n x22c) : Value) = .slice x4 x4n x4c) ∧
  (opnP (w21.cell? (s12.add 1)) fun x23 =>
  ((.pointer x23) : Value) = .pointer x3) ∧
  (opnP (w21.cell? (s12.add 0)) fun x24 =>
  ((.pointer x24) : Value) = .pointer x2) ∧
  C_p_r12_Disk_Crash #[.pointer x3, .slice x4 x4n x4c] w21 fun v25 w26 =>
  opnP (some v25) fun x27 =>
  Array.size (#[.pointer x7, .pointer x27] : Array Value) = 2 ∧
  stC (p20.add 0) (.pointer x7) w26 fun w28 =>
  stC (p20.add 1) (.pointer x27) w28 fun w29 =>
  N_l12_DiskAll.j25 Q s0 s0n s0c s9 s9n s9c s10 p20 w29)) ∧
  (alC #[.pointer none, .pointer none] 66 w1 fun p30 w31 =>
  (opnL (w31.cell? (s11.add 8)) fun x32 x32n x32c =>
  ((.slice x32 x32n x32c) : Value) = .slice x4 x4n x4c) ∧
  (opnP (w31.cell? (s12.add 1)) fun x33 =>
  ((.pointer x33) : Value) = .pointer x3) ∧
  (opnP (w31.cell? (s12.add 0)) fun x34 =>
  ((.pointer x34) : Value) = .pointer x2) ∧
  C_p_disk_Disk_Crash #[.pointer x2, .slice s14 s14n s14c] w31 fun v35 w36 =>
  opnP (some v35) fun x37 =>
  (opnL (w36.cell? (s11.add 8)) fun x38 x38n x38c =>
  ((.slice x38 x38n x38c) : Value) = .slice x4 x4n x4c) ∧
  (opnP (w36.cell? (s12.add 1)) fun x39 =>
  ((.pointer x39) : Value) = .pointer x3) ∧
  C_p_r12_Disk_Crash #[.pointer x3, .slice x4 x4n x4c] w36 fun v40 w41 =>
  opnP (some v40) fun x42 =>
  Array.size (#[.pointer x37, .pointer x42] : Array Value) = 2 ∧
  stC (p30.add 0) (.pointer x37) w41 fun w43 =>
  stC (p30.add 1) (.pointer x42) w43 fun w44 =>
  N_l12_DiskAll.j25 Q s0 s0n s0c s9 s9n s9c s10 p30 w44)) :
N_l12_DiskAll.j24 Q s0 s0n s0c s9 s9n s9c s10 s11 s12 s14 s14n s14c w := Nd_fold K_l12_DiskAll (by kernel_rfl) h
theorem N_l12_DiskAll.j25_eq (Q : Value → World → Prop) (s0 : Option Addr) (s0n : Nat) (s0c : Nat) (s9 : Option Addr) (s9n : Nat) (s9c : Nat) (s10 : Int) (s15 : Addr) (w : World) (h :
  opnP (w.cell? (s15.add 0)) fun x1 =>
  semR PP (do eqGuard .neq 28 (.tmp 153) (.const (.pointer none)) (.pointer x1) (.pointer none); binOp .neq 28 (.pointer x1) (.pointer none)) w fun x2 =>
  opnB (some x2) fun x3 =>
  N_l12_DiskAll.j26 Q s0 s0n s0c s9 s9n s9c s10 x3 s15 w) :
N_l12_DiskAll.j25 Q s0 s0n s0c s9 s9n s9c s10 s15 w := Nd_fold K_l12_DiskAll (by kernel_rfl) h
theorem N_l12_DiskAll.j26_eq (Q : Value → World → Prop) (s0 : Option Addr) (s0n : Nat) (s0c : Nat) (s9 : Option Addr) (s9n : Nat) (s9c : Nat) (s10 : Int) (s13 : Bool) (s15 : Addr) (w : World) (h :
  opnP (w.cell? (s15.add 0)) fun x1 =>
  opnP (w.cell? (s15.add 1)) fun x2 =>
  alC #[.pointer x1, .pointer x2] 66 w fun p3 w4 =>
  sem PP (Builtin.append_ #[67, 67] 67 #[.slice s9 s9n s9c, .slice (some p3) 1 1]) w4 fun v5 w6 =>
  opnL (some v5) fun x7 x7n x7c =>
  N_l12_DiskAll.j27 Q s0 s0n s0c x7 x7n x7c s10 s13 w6) :
N_l12_DiskAll.j26 Q s0 s0n s0c s9 s9n s9c s10 s13 s15 w := Nd_fold K_l12_DiskAll (by kernel_rfl) h
theorem N_l12_DiskAll.j27_eq (Q : Value → World → Prop) (s0 : Option Addr) (s0n : Nat) (s0c : Nat) (s9 : Option Addr) (s9n : Nat) (s9c : Nat) (s10 : Int) (s13 : Bool) (w : World) (h :
  cond (!s13)
  (N_l12_DiskAll.j28 Q w)
  (N_l12_DiskAll.j11 Q s0 s0n s0c s9 s9n s9c s10 w)) :
N_l12_DiskAll.j27 Q s0 s0n s0c s9 s9n s9c s10 s13 w := Nd_fold K_l12_DiskAll (by kernel_rfl) h
theorem N_l12_DiskAll.j28_eq (Q : Value → World → Prop) (w : World) (h :
  Q (.bool false) w) :
N_l12_DiskAll.j28 Q w := Nd_fold K_l12_DiskAll (by kernel_rfl) h
theorem C_l12_DiskAll_eq (Q : Value → World → Prop) (a0 : Option Addr) (a0n : Nat) (a0c : Nat) (w : World) (h :
  C_disk_New #[.int .i64 3] w fun v1 w2 =>
  opnT (some v1) fun x3 =>
  x3.size = 2 ∧
  opnP (x3[0]?) fun x4 =>
  opnI .i64 (x3[1]?) fun x5 =>
  C_l12_numbers #[] w2 fun v6 w7 =>
  opnB (some v6) fun x8 =>
  cond (!x8)
  (N_l12_DiskAll.j3 Q w7)
  (cond (x5 != 0)
  (N_l12_DiskAll.j3 Q w7)
  (semR PP (do eqGuard .eql 28 (.tmp 27) (.const (.pointer none)) (.pointer x4) (.pointer none); binOp .eql 28 (.pointer x4) (.pointer none)) w7 fun x9 =>
  opnB (some x9) fun x10 =>
  cond x10
  (N_l12_DiskAll.j3 Q w7)
  (C_p_disk_Disk_Create #[.pointer x4, .string (⟨#[97]⟩ : ByteArray)] w7 fun v11 w12 =>
  opnI .i64 (some v11) fun x13 =>
  cond (x13 != 0)
  (N_l12_DiskAll.j3 Q w12)
  (alC #[.int .u8 98, .int .u8 99] 5 w12 fun p14 w15 =>
  sem PP (convert 23 23 (.slice (some p14) 2 2)) w15 fun v16 w17 =>
  opnL (some v16) fun x18 x18n x18c =>
  C_p_disk_Disk_Write #[.pointer x4, .string (⟨#[97]⟩ : ByteArray), .int .i64 1, .slice x18 x18n x18c] w17 fun v19 w20 =>
  opnI .i64 (some v19) fun x21 =>
  cond (x21 != 0)
  (N_l12_DiskAll.j3 Q w20)
  (C_p_disk_Disk_Used #[.pointer x4] w20 fun v22 w23 =>
  opnI .i64 (some v22) fun x24 =>
  cond (x24 != 3)
  (N_l12_DiskAll.j3 Q w23)
  (C_r12_New #[.int .i64 100] w23 fun v25 w26 =>
  opnT (some v25) fun x27 =>
  x27.size = 2 ∧
  opnP (x27[0]?) fun x28 =>
  opnI .i64 (x27[1]?) fun x29 =>
  C_disk_New #[.int .i64 100] w26 fun v30 w31 =>
  opnT (some v30) fun x32 =>
  x32.size = 2 ∧
  opnP (x32[0]?) fun x33 =>
  opnI .i64 (x32[1]?) fun x34 =>
  cond (x34 != 0)
  (N_l12_DiskAll.j7 Q w31)
  (semR PP (do eqGuard .eql 28 (.tmp 58) (.const (.pointer none)) (.pointer x33) (.pointer none); binOp .eql 28 (.pointer x33) (.pointer none)) w31 fun x35 =>
  opnB (some x35) fun x36 =>
  cond x36
  (N_l12_DiskAll.j7 Q w31)
  (alC #[.pointer x33, .pointer x28] 66 w31 fun p37 w38 =>
  N_l12_DiskAll.j10 Q a0 a0n a0c (some p37) 1 1 0 w38))))))))) :
C_l12_DiskAll #[.slice a0 a0n a0c] w Q := C_fold K_l12_DiskAll (by kernel_rfl) h
end Go.Proofs.YtfjhhpoabdpdhaaGreatDoor
set_option maxRecDepth 100000
namespace Go.Proofs.YtfjhhpoabdpdhaaGreatDoor
open Go.Sh
noncomputable def B_l12_DiskWorlds : Code := match Tryz.f8.body with | some c => c | _ => .skip
noncomputable def X_l12_DiskWorlds : Cx := { P := PP, fn := 8, N := 344, tab := tab, results := [.tmp 4], iter := fun _ => (.none, .none), dyn := fun _ => false, live := fun r => cond (Nat.beq r 3) (some []) (cond (Nat.beq r 6) (some [1, 5, 6, 7]) (cond (Nat.beq r 11) (some [1, 5, 6, 8, 9]) (cond (Nat.beq r 16) (some [1, 5, 6, 8, 10]) (cond (Nat.beq r 23) (some []) (cond (Nat.beq r 27) (some [1, 5, 8, 11, 12, 13, 14]) (cond (Nat.beq r 30) (some [1, 5, 8, 11, 12, 13, 14, 15]) (cond (Nat.beq r 36) (some [1, 5, 8, 11, 12, 13, 16, 17]) (cond (Nat.beq r 40) (some [1, 5, 8, 11, 12, 13, 16, 18]) (cond (Nat.beq r 43) (some [1, 5, 8, 11, 12, 13, 16, 18, 19]) (cond (Nat.beq r 44) (some [1, 5, 8, 11, 12, 13, 16, 18, 19]) (cond (Nat.beq r 46) (some []) (cond (Nat.beq r 49) (some [1, 5, 8, 11, 12, 20, 21]) (cond (Nat.beq r 54) (some []) (cond (Nat.beq r 56) (some [1, 5, 8, 11, 12, 20, 22]) (cond (Nat.beq r 59) (some []) (cond (Nat.beq r 64) (some []) (cond (Nat.beq r 68) (some []) (cond (Nat.beq r 70) (some [1, 5, 8, 11, 12, 24, 26]) (cond (Nat.beq r 75) (some []) (none)))))))))))))))))))) }
theorem K_l12_DiskWorlds : OkF X_l12_DiskWorlds B_l12_DiskWorlds Tryz.f8 := ⟨⟨tab_ok, mix_ok⟩, Tryz.func8, by kernel_rfl, by kernel_rfl, by kernel_rfl, by kernel_rfl⟩
noncomputable def N_l12_DiskWorlds.j3 (Q : Value → World → Prop) (w : World) : Prop := Nd X_l12_DiskWorlds Q [] [.code (B_l12_DiskWorlds.r.r.l.r.l.l), .code (B_l12_DiskWorlds.r.r.l.r.l.r), .code (B_l12_DiskWorlds.r.r.r)] w
noncomputable def N_l12_DiskWorlds.j6 (Q : Value → World → Prop) (s1 : Option Addr) (s1n : Nat) (s1c : Nat) (s5 : Option Addr) (s6 : Option Addr) (s6n : Nat) (s6c : Nat) (s7 : Int) (w : World) : Prop := Nd X_l12_DiskWorlds Q [(1, 1, .slice s1 s1n s1c), (5, 5, .pointer s5), (6, 6, .slice s6 s6n s6c), (7, 7, .int .i64 s7)] [.code (B_l12_DiskWorlds.r.r.r.r.l.r.l.l.l.l), .code (B_l12_DiskWorlds.r.r.r.r.l.r.l.l.l.r), .code (B_l12_DiskWorlds.r.r.r.r.l.r.l.l.r), .inLoop (B_l12_DiskWorlds.r.r.r.r.l.r.l.l), .inBlock 0, .code (B_l12_DiskWorlds.r.r.r.r.r)] w
noncomputable def N_l12_DiskWorlds.j11 (Q : Value → World → Prop) (s1 : Option Addr) (s1n : Nat) (s1c : Nat) (s5 : Option Addr) (s6 : Option Addr) (s6n : Nat) (s6c : Nat) (s8 : Option Addr) (s9 : Int) (w : World) : Prop := Nd X_l12_DiskWorlds Q [(1, 1, .slice s1 s1n s1c), (5, 5, .pointer s5), (6, 6, .slice s6 s6n s6c), (8, 8, .pointer s8), (9, 9, .int .i64 s9)] [.code (B_l12_DiskWorlds.r.r.r.r.r.r.l.r.l.l.l.l), .code (B_l12_DiskWorlds.r.r.r.r.r.r.l.r.l.l.l.r), .code (B_l12_DiskWorlds.r.r.r.r.r.r.l.r.l.l.r), .inLoop (B_l12_DiskWorlds.r.r.r.r.r.r.l.r.l.l), .inBlock 2, .code (B_l12_DiskWorlds.r.r.r.r.r.r.r)] w
noncomputable def N_l12_DiskWorlds.j16 (Q : Value → World → Prop) (s1 : Option Addr) (s1n : Nat) (s1c : Nat) (s5 : Option Addr) (s6 : Option Addr) (s6n : Nat) (s6c : Nat) (s8 : Option Addr) (s10 : Int) (w : World) : Prop := Nd X_l12_DiskWorlds Q [(1, 1, .slice s1 s1n s1c), (5, 5, .pointer s5), (6, 6, .slice s6 s6n s6c), (8, 8, .pointer s8), (10, 10, .int .i64 s10)] [.code (B_l12_DiskWorlds.r.r.r.r.r.r.r.l.r.l.l.l.l), .code (B_l12_DiskWorlds.r.r.r.r.r.r.r.l.r.l.l.l.r), .code (B_l12_DiskWorlds.r.r.r.r.r.r.r.l.r.l.l.r), .inLoop (B_l12_DiskWorlds.r.r.r.r.r.r.r.l.r.l.l), .inBlock 4, .code (B_l12_DiskWorlds.r.r.r.r.r.r.r.r)] w
noncomputable def N_l12_DiskWorlds.j23 (Q : Value → World → Prop) (w : World) : Prop := Nd X_l12_DiskWorlds Q [] [.code (B_l12_DiskWorlds.r.r.r.r.r.r.r.r.r.l.r.l.l), .code (B_l12_DiskWorlds.r.r.r.r.r.r.r.r.r.l.r.l.r), .code (B_l12_DiskWorlds.r.r.r.r.r.r.r.r.r.r)] w
noncomputable def N_l12_DiskWorlds.j27 (Q : Value → World → Prop) (s1 : Option Addr) (s1n : Nat) (s1c : Nat) (s5 : Option Addr) (s8 : Option Addr) (s11 : Option Addr) (s12 : Option Addr) (s12n : Nat) (s12c : Nat) (s13 : Option Addr) (s13n : Nat) (s13c : Nat) (s14 : Int) (w : World) : Prop := Nd X_l12_DiskWorlds Q [(1, 1, .slice s1 s1n s1c), (5, 5, .pointer s5), (8, 8, .pointer s8), (11, 11, .pointer s11), (12, 12, .slice s12 s12n s12c), (13, 13, .slice s13 s13n s13c), (14, 14, .int .i64 s14)] [.code (B_l12_DiskWorlds.r.r.r.r.r.r.r.r.r.r.r.r.l.r.l.l.l.l), .code (B_l12_DiskWorlds.r.r.r.r.r.r.r.r.r.r.r.r.l.r.l.l.l.r), .code (B_l12_DiskWorlds.r.r.r.r.r.r.r.r.r.r.r.r.l.r.l.l.r), .inLoop (B_l12_DiskWorlds.r.r.r.r.r.r.r.r.r.r.r.r.l.r.l.l), .inBlock 6, .code (B_l12_DiskWorlds.r.r.r.r.r.r.r.r.r.r.r.r.r)] w
noncomputable def N_l12_DiskWorlds.j30 (Q : Value → World → Prop) (s1 : Option Addr) (s1n : Nat) (s1c : Nat) (s5 : Option Addr) (s8 : Option Addr) (s11 : Option Addr) (s12 : Option Addr) (s12n : Nat) (s12c : Nat) (s13 : Option Addr) (s13n : Nat) (s13c : Nat) (s14 : Int) (s15 : Int) (w : World) : Prop := Nd X_l12_DiskWorlds Q [(1, 1, .slice s1 s1n s1c), (5, 5, .pointer s5), (8, 8, .pointer s8), (11, 11, .pointer s11), (12, 12, .slice s12 s12n s12c), (13, 13, .slice s13 s13n s13c), (14, 14, .int .i64 s14), (15, 15, .int .i64 s15)] [.code (B_l12_DiskWorlds.r.r.r.r.r.r.r.r.r.r.r.r.l.r.l.l.r.l.l.l.r.l.l.l.l), .code (B_l12_DiskWorlds.r.r.r.r.r.r.r.r.r.r.r.r.l.r.l.l.r.l.l.l.r.l.l.l.r), .code (B_l12_DiskWorlds.r.r.r.r.r.r.r.r.r.r.r.r.l.r.l.l.r.l.l.l.r.l.l.r), .inLoop (B_l12_DiskWorlds.r.r.r.r.r.r.r.r.r.r.r.r.l.r.l.l.r.l.l.l.r.l.l), .inBlock 8, .code (B_l12_DiskWorlds.r.r.r.r.r.r.r.r.r.r.r.r.l.r.l.l.r.l.l.r), .inBlock 7, .code (B_l12_DiskWorlds.r.r.r.r.r.r.r.r.r.r.r.r.l.r.l.l.r.r), .inLoop (B_l12_DiskWorlds.r.r.r.r.r.r.r.r.r.r.r.r.l.r.l.l), .inBlock 6, .code (B_l12_DiskWorlds.r.r.r.r.r.r.r.r.r.r.r.r.r)] w
noncomputable def N_l12_DiskWorlds.j36 (Q : Value → World → Prop) (s1 : Option Addr) (s1n : Nat) (s1c : Nat) (s5 : Option Addr) (s8 : Option Addr) (s11 : Option Addr) (s12 : Option Addr) (s12n : Nat) (s12c : Nat) (s13 : Option Addr) (s13n : Nat) (s13c : Nat) (s16 : Option Addr) (s16n : Nat) (s16c : Nat) (s17 : Int) (w : World) : Prop := Nd X_l12_DiskWorlds Q [(1, 1, .slice s1 s1n s1c), (5, 5, .pointer s5), (8, 8, .pointer s8), (11, 11, .pointer s11), (12, 12, .slice s12 s12n s12c), (13, 13, .slice s13 s13n s13c), (16, 16, .slice s16 s16n s16c), (17, 17, .int .i64 s17)] [.code (B_l12_DiskWorlds.r.r.r.r.r.r.r.r.r.r.r.r.r.r.l.r.l.l.l.l), .code (B_l12_DiskWorlds.r.r.r.r.r.r.r.r.r.r.r.r.r.r.l.r.l.l.l.r), .code (B_l12_DiskWorlds.r.r.r.r.r.r.r.r.r.r.r.r.r.r.l.r.l.l.r), .inLoop (B_l12_DiskWorlds.r.r.r.r.r.r.r.r.r.r.r.r.r.r.l.r.l.l), .inBlock 10, .code (B_l12_DiskWorlds.r.r.r.r.r.r.r.r.r.r.r.r.r.r.r)] w
theorem N_l12_DiskWorlds.j3_eq (Q : Value → World → Prop) (w : World) (h :
  Q (.bool false) w) :
N_l12_DiskWorlds.j3 Q w := Nd_fold K_l12_DiskWorlds (by kernel_rfl) h
theorem N_l12_DiskWorlds.j6_eq (Q : Value → World → Prop) (s1 : Option Addr) (s1n : Nat) (s1c : Nat) (s5 : Option Addr) (s6 : Option Addr) (s6n : Nat) (s6c : Nat) (s7 : Int) (w : World) (h :
  cond (decide (s7 < 200))
  (alC #[.int .i64 77] 3 w fun p1 w2 =>
  sem PP (Builtin.append_ #[24, 24] 24 #[.slice s6 s6n s6c, .slice (some p1) 1 1]) w2 fun v3 w4 =>
  opnL (some v3) fun x5 x5n x5c =>
  N_l12_DiskWorlds.j6 Q s1 s1n s1c s5 x5 x5n x5c (IntKind.wrap .i64 (s7 + 1)) w4)
  ((0 : Int) ≤ ((s1n : Nat) : Int) ∧
  ((s1n : Nat) : Int) ≤ ((s6c : Nat) : Int) ∧
  C_p_disk_Disk_Crash #[.pointer s5, .slice (slA s6 0 s6c 1) ((Int.toNat ((s1n : Nat) : Int)) - 0) (s6c - 0)] w fun v6 w7 =>
  opnP (some v6) fun x8 =>
  N_l12_DiskWorlds.j11 Q s1 s1n s1c s5 s6 s6n s6c x8 ((s1n : Nat) : Int) w7)) :
N_l12_DiskWorlds.j6 Q s1 s1n s1c s5 s6 s6n s6c s7 w := Nd_fold K_l12_DiskWorlds (by kernel_rfl) h
theorem N_l12_DiskWorlds.j11_eq (Q : Value → World → Prop) (s1 : Option Addr) (s1n : Nat) (s1c : Nat) (s5 : Option Addr) (s6 : Option Addr) (s6n : Nat) (s6c : Nat) (s8 : Option Addr) (s9 : Int) (w : World) (h :
  cond (decide (s9 < ((s6n : Nat) : Int)))
  ((0 : Int) ≤ s9 ∧
  s9 < ((s6n : Nat) : Int) ∧
  opnA s6 fun ad1 =>
  opnI .i64 (w.cell? (ad1.add (Int.toNat s9 * 1))) fun x2 =>
  cond (x2 != 77)
  (Q (.bool false) w)
  (N_l12_DiskWorlds.j11 Q s1 s1n s1c s5 s6 s6n s6c s8 (IntKind.wrap .i64 (s9 + 1)) w))
  (N_l12_DiskWorlds.j16 Q s1 s1n s1c s5 s6 s6n s6c s8 0 w)) :
N_l12_DiskWorlds.j11 Q s1 s1n s1c s5 s6 s6n s6c s8 s9 w := Nd_fold K_l12_DiskWorlds (by kernel_rfl) h
theorem N_l12_DiskWorlds.j16_eq (Q : Value → World → Prop) (s1 : Option Addr) (s1n : Nat) (s1c : Nat) (s5 : Option Addr) (s6 : Option Addr) (s6n : Nat) (s6c : Nat) (s8 : Option Addr) (s10 : Int) (w : World) (h :
  cond (decide (s10 < ((s1n : Nat) : Int)))
  (drw w fun w1 =>
  (0 : Int) ≤ s10 ∧
  s10 < ((s6n : Nat) : Int) ∧
  opnA s6 fun ad2 =>
  (0 : Int) ≤ s10 ∧
  s10 < ((s1n : Nat) : Int) ∧
  opnA s1 fun ad3 =>
  opnI .i64 (w1.cell? (ad2.add (Int.toNat s10 * 1))) fun x4 =>
  opnI .i64 (w1.cell? (ad3.add (Int.toNat s10 * 1))) fun x5 =>
  cond (x4 != x5)
  (Q (.bool false) w1)
  ((0 : Int) ≤ s10 ∧
  s10 < ((s6n : Nat) : Int) ∧
  opnA s6 fun ad6 =>
  opnI .i64 (w1.cell? (ad6.add (Int.toNat s10 * 1))) fun x7 =>
  (0 : Int) ≤ s10 ∧
  s10 < ((s6n : Nat) : Int) ∧
  opnA s6 fun ad8 =>
  stC (ad8.add (Int.toNat s10 * 1)) (.int .i64 (IntKind.wrap .i64 (x7 + 1))) w1 fun w9 =>
  N_l12_DiskWorlds.j16 Q s1 s1n s1c s5 s6 s6n s6c s8 (IntKind.wrap .i64 (s10 + 1)) w9))
  (C_l12_copiedInts #[.slice s1 s1n s1c] w fun v10 w11 =>
  opnL (some v10) fun x12 x12n x12c =>
  C_p_disk_Disk_Crash #[.pointer s5, .slice x12 x12n x12c] w11 fun v13 w14 =>
  opnP (some v13) fun x15 =>
  semR PP (do eqGuard .eql 28 (.tmp 93) (.const (.pointer none)) (.pointer s8) (.pointer none); binOp .eql 28 (.pointer s8) (.pointer none)) w14 fun x16 =>
  opnB (some x16) fun x17 =>
  cond x17
  (N_l12_DiskWorlds.j23 Q w14)
  (semR PP (do eqGuard .eql 28 (.tmp 96) (.const (.pointer none)) (.pointer x15) (.pointer none); binOp .eql 28 (.pointer x15) (.pointer none)) w14 fun x18 =>
  opnB (some x18) fun x19 =>
  cond x19
  (N_l12_DiskWorlds.j23 Q w14)
  (C_p_disk_Disk_Files #[.pointer s8] w14 fun v20 w21 =>
  opnL (some v20) fun x22 x22n x22c =>
  C_p_disk_Disk_Files #[.pointer x15] w21 fun v23 w24 =>
  opnL (some v23) fun x25 x25n x25c =>
  C_l12_sameFiles #[.slice x22 x22n x22c, .slice x25 x25n x25c] w24 fun v26 w27 =>
  opnB (some v26) fun x28 =>
  cond (!x28)
  (N_l12_DiskWorlds.j23 Q w27)
  (C_p_disk_Disk_Pending #[.pointer s8] w27 fun v29 w30 =>
  opnI .i64 (some v29) fun x31 =>
  cond (x31 != 0)
  (N_l12_DiskWorlds.j23 Q w30)
  (C_p_disk_Disk_Acts #[.pointer x15] w30 fun v32 w33 =>
  opnI .i64 (some v32) fun x34 =>
  cond (x34 != 0)
  (N_l12_DiskWorlds.j23 Q w33)
  (C_p_disk_Disk_Files #[.pointer s8] w33 fun v35 w36 =>
  opnL (some v35) fun x37 x37n x37c =>
  C_l12_copies #[.slice x37 x37n x37c] w36 fun v38 w39 =>
  opnL (some v38) fun x40 x40n x40c =>
  C_p_disk_Disk_Files #[.pointer x15] w39 fun v41 w42 =>
  opnL (some v41) fun x43 x43n x43c =>
  N_l12_DiskWorlds.j27 Q s1 s1n s1c s5 s8 x15 x40 x40n x40c x43 x43n x43c 0 w42))))))) :
N_l12_DiskWorlds.j16 Q s1 s1n s1c s5 s6 s6n s6c s8 s10 w := Nd_fold K_l12_DiskWorlds (by kernel_rfl) h
theorem N_l12_DiskWorlds.j23_eq (Q : Value → World → Prop) (w : World) (h :
  Q (.bool false) w) :
N_l12_DiskWorlds.j23 Q w := Nd_fold K_l12_DiskWorlds (by kernel_rfl) h
theorem N_l12_DiskWorlds.j27_eq (Q : Value → World → Prop) (s1 : Option Addr) (s1n : Nat) (s1c : Nat) (s5 : Option Addr) (s8 : Option Addr) (s11 : Option Addr) (s12 : Option Addr) (s12n : Nat) (s12c : Nat) (s13 : Option Addr) (s13n : Nat) (s13c : Nat) (s14 : Int) (w : World) (h :
  cond (decide (s14 < ((s13n : Nat) : Int)))
  (N_l12_DiskWorlds.j30 Q s1 s1n s1c s5 s8 s11 s12 s12n s12c s13 s13n s13c s14 0 w)
  (N_l12_DiskWorlds.j36 Q s1 s1n s1c s5 s8 s11 s12 s12n s12c s13 s13n s13c none 0 0 0 w)) :
N_l12_DiskWorlds.j27 Q s1 s1n s1c s5 s8 s11 s12 s12n s12c s13 s13n s13c s14 w := Nd_fold K_l12_DiskWorlds (by kernel_rfl) h
noncomputable def B_l12_short : Code := match Tryz.f9.body with | some c => c | _ => .skip
noncomputable def X_l12_short : Cx := { P := PP, fn := 9, N := 10, tab := tab, results := [.tmp 2], iter := fun _ => (.none, .none), dyn := fun _ => false, live := fun r => cond (Nat.beq r 3) (some [0]) (none) }
theorem K_l12_short : OkF X_l12_short B_l12_short Tryz.f9 := ⟨⟨tab_ok, mix_ok⟩, Tryz.func9, by kernel_rfl, by kernel_rfl, by kernel_rfl, by kernel_rfl⟩
noncomputable def N_l12_short.j3 (Q : Value → World → Prop) (s0 : Option Addr) (s0n : Nat) (s0c : Nat) (w : World) : Prop := Nd X_l12_short Q [(0, 0, .slice s0 s0n s0c)] [.code (B_l12_short.r.r.l), .code (B_l12_short.r.r.r)] w
theorem N_l12_short.j3_eq (Q : Value → World → Prop) (s0 : Option Addr) (s0n : Nat) (s0c : Nat) (w : World) (h :
  C_l12_copied #[.slice s0 s0n s0c] w fun v1 w2 =>
  opnL (some v1) fun x3 x3n x3c =>
  Q (.slice x3 x3n x3c) w2) :
N_l12_short.j3 Q s0 s0n s0c w := Nd_fold K_l12_short (by kernel_rfl) h
noncomputable def B_l12_begun : Code := match Tryz.f10.body with | some c => c | _ => .skip
noncomputable def X_l12_begun : Cx := { P := PP, fn := 10, N := 47, tab := tab, results := [.tmp 2], iter := fun _ => (.none, .none), dyn := fun _ => false, live := fun r => cond (Nat.beq r 3) (some []) (cond (Nat.beq r 5) (some [0, 3, 5]) (cond (Nat.beq r 6) (some [0, 3, 5]) (cond (Nat.beq r 9) (some [0, 3, 5, 6]) (cond (Nat.beq r 10) (some [3]) (none))))) }
theorem K_l12_begun : OkF X_l12_begun B_l12_begun Tryz.f10 := ⟨⟨tab_ok, mix_ok⟩, Tryz.func10, by kernel_rfl, by kernel_rfl, by kernel_rfl, by kernel_rfl⟩
noncomputable def N_l12_begun.j3 (Q : Value → World → Prop) (w : World) : Prop := Nd X_l12_begun Q [] [.code (B_l12_begun.r.r.l.r.l.l), .code (B_l12_begun.r.r.l.r.l.r), .code (B_l12_begun.r.r.r)] w
noncomputable def N_l12_begun.j5 (Q : Value → World → Prop) (s0 : Option Addr) (s0n : Nat) (s0c : Nat) (s3 : Option Addr) (s5 : Int) (w : World) : Prop := Nd X_l12_begun Q [(0, 0, .slice s0 s0n s0c), (3, 3, .pointer s3), (5, 5, .int .i64 s5)] [.code (B_l12_begun.r.r.r.l.r.l.l.l.l), .code (B_l12_begun.r.r.r.l.r.l.l.l.r), .code (B_l12_begun.r.r.r.l.r.l.l.r), .inLoop (B_l12_begun.r.r.r.l.r.l.l), .inBlock 0, .code (B_l12_begun.r.r.r.r)] w
noncomputable def N_l12_begun.j6 (Q : Value → World → Prop) (s0 : Option Addr) (s0n : Nat) (s0c : Nat) (s3 : Option Addr) (s5 : Int) (w : World) : Prop := Nd X_l12_begun Q [(0, 0, .slice s0 s0n s0c), (3, 3, .pointer s3), (5, 5, .int .i64 s5)] [.code (B_l12_begun.r.r.r.l.r.l.l.r.r), .inLoop (B_l12_begun.r.r.r.l.r.l.l), .inBlock 0, .code (B_l12_begun.r.r.r.r)] w
noncomputable def N_l12_begun.j9 (Q : Value → World → Prop) (s0 : Option Addr) (s0n : Nat) (s0c : Nat) (s3 : Option Addr) (s5 : Int) (s6 : Addr) (w : World) : Prop := Nd X_l12_begun Q [(0, 0, .slice s0 s0n s0c), (3, 3, .pointer s3), (5, 5, .int .i64 s5), (6, 6, .pointer (some s6))] [.code (B_l12_begun.r.r.r.l.r.l.l.r.l.l.r.r.l), .inBlock 1, .code (B_l12_begun.r.r.r.l.r.l.l.r.r), .inLoop (B_l12_begun.r.r.r.l.r.l.l), .inBlock 0, .code (B_l12_begun.r.r.r.r)] w
noncomputable def N_l12_begun.j10 (Q : Value → World → Prop) (s3 : Option Addr) (w : World) : Prop := Nd X_l12_begun Q [(3, 3, .pointer s3)] [.code (B_l12_begun.r.r.r.r.l), .code (B_l12_begun.r.r.r.r.r)] w
theorem N_l12_begun.j3_eq (Q : Value → World → Prop) (w : World) (h :
  Q (.pointer none) w) :
N_l12_begun.j3 Q w := Nd_fold K_l12_begun (by kernel_rfl) h
theorem N_l12_begun.j5_eq (Q : Value → World → Prop) (s0 : Option Addr) (s0n : Nat) (s0c : Nat) (s3 : Option Addr) (s5 : Int) (w : World) (h :
  cond (decide (s5 < ((s0n : Nat) : Int)))
  (cond (decide (s5 < 200))
  ((0 : Int) ≤ s5 ∧
  s5 < ((s0n : Nat) : Int) ∧
  opnA s0 fun ad1 =>
  opnI .i64 (w.cell? ((ad1.add (Int.toNat s5 * 9)).add 0)) fun x2 =>
  opnI .i64 (w.cell? ((ad1.add (Int.toNat s5 * 9)).add 1)) fun x3 =>
  opnS (w.cell? ((ad1.add (Int.toNat s5 * 9)).add 2)) fun x4 =>
  opnS (w.cell? ((ad1.add (Int.toNat s5 * 9)).add 3)) fun x5 =>
  opnI .i64 (w.cell? ((ad1.add (Int.toNat s5 * 9)).add 4)) fun x6 =>
  opnI .i64 (w.cell? ((ad1.add (Int.toNat s5 * 9)).add 5)) fun x7 =>
  opnL (w.cell? ((ad1.add (Int.toNat s5 * 9)).add 6)) fun x8 x8n x8c =>
  opnL (w.cell? ((ad1.add (Int.toNat s5 * 9)).add 7)) fun x9 x9n x9c =>
  opnL (w.cell? ((ad1.add (Int.toNat s5 * 9)).add 8)) fun x10 x10n x10c =>
  alC #[.int .i64 0, .int .i64 0, .string (⟨#[]⟩ : ByteArray), .string (⟨#[]⟩ : ByteArray), .int .i64 0, .int .i64 0, .slice none 0 0, .slice none 0 0, .slice none 0 0] 55 w fun p11 w12 =>
  Array.size (#[.int .i64 x2, .int .i64 x3, .string x4, .string x5, .int .i64 x6, .int .i64 x7, .slice x8 x8n x8c, .slice x9 x9n x9c, .slice x10 x10n x10c] : Array Value) = 9 ∧
  stC (p11.add 0) (.int .i64 x2) w12 fun w13 =>
  stC (p11.add 1) (.int .i64 x3) w13 fun w14 =>
  stC (p11.add 2) (.string x4) w14 fun w15 =>
  stC (p11.add 3) (.string x5) w15 fun w16 =>
  stC (p11.add 4) (.int .i64 x6) w16 fun w17 =>
  stC (p11.add 5) (.int .i64 x7) w17 fun w18 =>
  stC (p11.add 6) (.slice x8 x8n x8c) w18 fun w19 =>
  stC (p11.add 7) (.slice x9 x9n x9c) w19 fun w20 =>
  stC (p11.add 8) (.slice x10 x10n x10c) w20 fun w21 =>
  opnI .i64 (w21.cell? (p11.add 0)) fun x22 =>
  opnI .i64 (w21.cell? (p11.add 1)) fun x23 =>
  opnS (w21.cell? (p11.add 2)) fun x24 =>
  opnS (w21.cell? (p11.add 3)) fun x25 =>
  opnI .i64 (w21.cell? (p11.add 4)) fun x26 =>
  opnI .i64 (w21.cell? (p11.add 5)) fun x27 =>
  opnL (w21.cell? (p11.add 6)) fun x28 x28n x28c =>
  opnL (w21.cell? (p11.add 7)) fun x29 x29n x29c =>
  opnL (w21.cell? (p11.add 8)) fun x30 x30n x30c =>
  C_l12_plain #[.agg #[.int .i64 x22, .int .i64 x23, .string x24, .string x25, .int .i64 x26, .int .i64 x27, .slice x28 x28n x28c, .slice x29 x29n x29c, .slice x30 x30n x30c]] w21 fun v31 w32 =>
  opnB (some v31) fun x33 =>
  cond x33
  (N_l12_begun.j9 Q s0 s0n s0c s3 s5 p11 w32)
  (opnI .i64 (w32.cell? (p11.add 0)) fun x34 =>
  cond (x34 == 13)
  (opnI .i64 (w32.cell? (p11.add 5)) fun x35 =>
  cond (x35 != 125)
  (N_l12_begun.j9 Q s0 s0n s0c s3 s5 p11 w32)
  (N_l12_begun.j6 Q s0 s0n s0c s3 s5 w32))
  (N_l12_begun.j6 Q s0 s0n s0c s3 s5 w32)))
  (N_l12_begun.j10 Q s3 w))
  (N_l12_begun.j10 Q s3 w)) :
N_l12_begun.j5 Q s0 s0n s0c s3 s5 w := Nd_fold K_l12_begun (by kernel_rfl) h
theorem N_l12_begun.j6_eq (Q : Value → World → Prop) (s0 : Option Addr) (s0n : Nat) (s0c : Nat) (s3 : Option Addr) (s5 : Int) (w : World) (h :
  N_l12_begun.j5 Q s0 s0n s0c s3 (IntKind.wrap .i64 (s5 + 1)) w) :
N_l12_begun.j6 Q s0 s0n s0c s3 s5 w := Nd_fold K_l12_begun (by kernel_rfl) h
theorem N_l12_begun.j9_eq (Q : Value → World → Prop) (s0 : Option Addr) (s0n : Nat) (s0c : Nat) (s3 : Option Addr) (s5 : Int) (s6 : Addr) (w : World) (h :
  opnI .i64 (w.cell? (s6.add 0)) fun x1 =>
  opnI .i64 (w.cell? (s6.add 1)) fun x2 =>
  opnS (w.cell? (s6.add 2)) fun x3 =>
  opnS (w.cell? (s6.add 3)) fun x4 =>
  opnI .i64 (w.cell? (s6.add 4)) fun x5 =>
  opnI .i64 (w.cell? (s6.add 5)) fun x6 =>
  opnL (w.cell? (s6.add 6)) fun x7 x7n x7c =>
  opnL (w.cell? (s6.add 7)) fun x8 x8n x8c =>
  opnL (w.cell? (s6.add 8)) fun x9 x9n x9c =>
  C_l12_act #[.pointer s3, .agg #[.int .i64 x1, .int .i64 x2, .string x3, .string x4, .int .i64 x5, .int .i64 x6, .slice x7 x7n x7c, .slice x8 x8n x8c, .slice x9 x9n x9c]] w fun v10 w11 =>
  opnI .i64 (some v10) fun x12 =>
  N_l12_begun.j6 Q s0 s0n s0c s3 s5 w11) :
N_l12_begun.j9 Q s0 s0n s0c s3 s5 s6 w := Nd_fold K_l12_begun (by kernel_rfl) h
theorem N_l12_begun.j10_eq (Q : Value → World → Prop) (s3 : Option Addr) (w : World) (h :
  Q (.pointer s3) w) :
N_l12_begun.j10 Q s3 w := Nd_fold K_l12_begun (by kernel_rfl) h
noncomputable def B_l12_head : Code := match Tryz.f11.body with | some c => c | _ => .skip
noncomputable def X_l12_head : Cx := { P := PP, fn := 11, N := 62, tab := tab, results := [.tmp 0], iter := fun _ => (.none, .none), dyn := fun _ => false, live := fun r => cond (Nat.beq r 3) (some []) (none) }
theorem K_l12_head : OkF X_l12_head B_l12_head Tryz.f11 := ⟨⟨tab_ok, mix_ok⟩, Tryz.func11, by kernel_rfl, by kernel_rfl, by kernel_rfl, by kernel_rfl⟩
noncomputable def N_l12_head.j3 (Q : Value → World → Prop) (w : World) : Prop := Nd X_l12_head Q [] [.code (B_l12_head.r.r.l.r.l.l), .code (B_l12_head.r.r.l.r.l.r), .code (B_l12_head.r.r.r)] w
theorem N_l12_head.j3_eq (Q : Value → World → Prop) (w : World) (h :
  Q (.bool false) w) :
N_l12_head.j3 Q w := Nd_fold K_l12_head (by kernel_rfl) h
noncomputable def B_p_disk_Disk_Fail : Code := match Tryz.f12.body with | some c => c | _ => .skip
noncomputable def X_p_disk_Disk_Fail : Cx := { P := PP, fn := 12, N := 30, tab := tab, results := [.tmp 6], iter := fun _ => (.none, .none), dyn := fun _ => false, live := fun r => cond (Nat.beq r 3) (some [0, 1, 2]) (cond (Nat.beq r 4) (some []) (cond (Nat.beq r 5) (some [0, 1, 2]) (cond (Nat.beq r 6) (some []) (none)))) }
theorem K_p_disk_Disk_Fail : OkF X_p_disk_Disk_Fail B_p_disk_Disk_Fail Tryz.f12 := ⟨⟨tab_ok, mix_ok⟩, Tryz.func12, by kernel_rfl, by kernel_rfl, by kernel_rfl, by kernel_rfl⟩
noncomputable def N_p_disk_Disk_Fail.j3 (Q : Value → World → Prop) (s0 : Option Addr) (s1 : Int) (s2 : Int) (w : World) : Prop := Nd X_p_disk_Disk_Fail Q [(0, 0, .pointer s0), (1, 1, .int .i64 s1), (2, 2, .int .i64 s2)] [.code (B_p_disk_Disk_Fail.r.r.l.l), .code (B_p_disk_Disk_Fail.r.r.l.r), .code (B_p_disk_Disk_Fail.r.r.r)] w
noncomputable def N_p_disk_Disk_Fail.j4 (Q : Value → World → Prop) (w : World) : Prop := Nd X_p_disk_Disk_Fail Q [] [.code (B_p_disk_Disk_Fail.r.r.l.r.l.l), .code (B_p_disk_Disk_Fail.r.r.l.r.l.r), .code (B_p_disk_Disk_Fail.r.r.r)] w
noncomputable def N_p_disk_Disk_Fail.j5 (Q : Value → World → Prop) (s0 : Option Addr) (s1 : Int) (s2 : Int) (w : World) : Prop := Nd X_p_disk_Disk_Fail Q [(0, 0, .pointer s0), (1, 1, .int .i64 s1), (2, 2, .int .i64 s2)] [.code (B_p_disk_Disk_Fail.r.r.r.l), .code (B_p_disk_Disk_Fail.r.r.r.r)] w
noncomputable def N_p_disk_Disk_Fail.j6 (Q : Value → World → Prop) (w : World) : Prop := Nd X_p_disk_Disk_Fail Q [] [.code (B_p_disk_Disk_Fail.r.r.r.r.l), .code (B_p_disk_Disk_Fail.r.r.r.r.r)] w
theorem N_p_disk_Disk_Fail.j3_eq (Q : Value → World → Prop) (s0 : Option Addr) (s1 : Int) (s2 : Int) (w : World) (h :
  opnA s0 fun ad1 =>
  opnB (w.cell? (ad1.add 8)) fun x2 =>
  cond x2
  (N_p_disk_Disk_Fail.j4 Q w)
  (N_p_disk_Disk_Fail.j5 Q s0 s1 s2 w)) :
N_p_disk_Disk_Fail.j3 Q s0 s1 s2 w := Nd_fold K_p_disk_Disk_Fail (by kernel_rfl) h
theorem N_p_disk_Disk_Fail.j4_eq (Q : Value → World → Prop) (w : World) (h :
  Q (.int .i64 125) w) :
N_p_disk_Disk_Fail.j4 Q w := Nd_fold K_p_disk_Disk_Fail (by kernel_rfl) h
theorem N_p_disk_Disk_Fail.j5_eq (Q : Value → World → Prop) (s0 : Option Addr) (s1 : Int) (s2 : Int) (w : World) (h :
  opnA s0 fun ad1 =>
  stC (ad1.add 6) (.int .i64 (if s1 > 0 then s1 else 0)) w fun w2 =>
  opnA s0 fun ad3 =>
  stC (ad3.add 7) (.int .i64 s2) w2 fun w4 =>
  N_p_disk_Disk_Fail.j6 Q w4) :
N_p_disk_Disk_Fail.j5 Q s0 s1 s2 w := Nd_fold K_p_disk_Disk_Fail (by kernel_rfl) h
theorem N_p_disk_Disk_Fail.j6_eq (Q : Value → World → Prop) (w : World) (h :
  Q (.int .i64 0) w) :
N_p_disk_Disk_Fail.j6 Q w := Nd_fold K_p_disk_Disk_Fail (by kernel_rfl) h
theorem C_p_disk_Disk_Fail_eq (Q : Value → World → Prop) (a0 : Option Addr) (a1 : Int) (a2 : Int) (w : World) (h :
  cond (a2 != 124)
  (cond (a2 != 123)
  (cond (a2 != 125)
  (Q (.int .i64 1) w)
  (N_p_disk_Disk_Fail.j3 Q a0 a1 a2 w))
  (N_p_disk_Disk_Fail.j3 Q a0 a1 a2 w))
  (N_p_disk_Disk_Fail.j3 Q a0 a1 a2 w)) :
C_p_disk_Disk_Fail #[.pointer a0, .int .i64 a1, .int .i64 a2] w Q := C_fold K_p_disk_Disk_Fail (by kernel_rfl) h
noncomputable def B_p_disk_Disk_Create : Code := match Tryz.f13.body with | some c => c | _ => .skip
noncomputable def X_p_disk_Disk_Create : Cx := { P := PP, fn := 13, N := 9, tab := tab, results := [.tmp 4], iter := fun _ => (.none, .none), dyn := fun _ => false, live := fun _ => none }
theorem K_p_disk_Disk_Create : OkF X_p_disk_Disk_Create B_p_disk_Disk_Create Tryz.f13 := ⟨⟨tab_ok, mix_ok⟩, Tryz.func13, by kernel_rfl, by kernel_rfl, by kernel_rfl, by kernel_rfl⟩
theorem C_p_disk_Disk_Create_eq (Q : Value → World → Prop) (a0 : Option Addr) (a1 : ByteArray) (w : World) (h :
  alC #[.pointer a0] 28 w fun p1 w2 =>
  alC #[.string a1] 9 w2 fun p3 w4 =>
  opnP (w4.cell? p1) fun x5 =>
  C_p_disk_Disk_act #[.pointer x5, .func (.func 43) #[] #[.pointer (some p3)], .func (.func 45) #[] #[.pointer (some p1), .pointer (some p3)]] w4 fun v6 w7 =>
  opnI .i64 (some v6) fun x8 =>
  Q (.int .i64 x8) w7) :
C_p_disk_Disk_Create #[.pointer a0, .string a1] w Q := C_fold K_p_disk_Disk_Create (by kernel_rfl) h
noncomputable def B_p_disk_Disk_Write : Code := match Tryz.f14.body with | some c => c | _ => .skip
noncomputable def X_p_disk_Disk_Write : Cx := { P := PP, fn := 14, N := 13, tab := tab, results := [.tmp 8], iter := fun _ => (.none, .none), dyn := fun _ => false, live := fun _ => none }
theorem K_p_disk_Disk_Write : OkF X_p_disk_Disk_Write B_p_disk_Disk_Write Tryz.f14 := ⟨⟨tab_ok, mix_ok⟩, Tryz.func14, by kernel_rfl, by kernel_rfl, by kernel_rfl, by kernel_rfl⟩
theorem C_p_disk_Disk_Write_eq (Q : Value → World → Prop) (a0 : Option Addr) (a1 : ByteArray) (a2 : Int) (a3 : Option Addr) (a3n : Nat) (a3c : Nat) (w : World) (h :
  alC #[.pointer a0] 28 w fun p1 w2 =>
  alC #[.string a1] 9 w2 fun p3 w4 =>
  alC #[.int .i64 a2] 3 w4 fun p5 w6 =>
  alC #[.slice a3 a3n a3c] 23 w6 fun p7 w8 =>
  opnP (w8.cell? p1) fun x9 =>
  C_p_disk_Disk_act #[.pointer x9, .func (.func 48) #[] #[.pointer (some p1), .pointer (some p3), .pointer (some p5), .pointer (some p7)], .func (.func 50) #[] #[.pointer (some p7), .pointer (some p1), .pointer (some p3), .pointer (some p5)]] w8 fun v10 w11 =>
  opnI .i64 (some v10) fun x12 =>
  Q (.int .i64 x12) w11) :
C_p_disk_Disk_Write #[.pointer a0, .string a1, .int .i64 a2, .slice a3 a3n a3c] w Q := C_fold K_p_disk_Disk_Write (by kernel_rfl) h
noncomputable def B_l12_copied : Code := match Tryz.f15.body with | some c => c | _ => .skip
noncomputable def X_l12_copied : Cx := { P := PP, fn := 15, N := 8, tab := tab, results := [.tmp 2], iter := fun _ => (.none, .none), dyn := fun _ => false, live := fun _ => none }
theorem K_l12_copied : OkF X_l12_copied B_l12_copied Tryz.f15 := ⟨⟨tab_ok, mix_ok⟩, Tryz.func15, by kernel_rfl, by kernel_rfl, by kernel_rfl, by kernel_rfl⟩
theorem C_l12_copied_eq (Q : Value → World → Prop) (a0 : Option Addr) (a0n : Nat) (a0c : Nat) (w : World) (h :
  sem PP (Builtin.append_ #[23, 23] 23 #[.slice none 0 0, .slice a0 a0n a0c]) w fun v1 w2 =>
  opnL (some v1) fun x3 x3n x3c =>
  Q (.slice x3 x3n x3c) w2) :
C_l12_copied #[.slice a0 a0n a0c] w Q := C_fold K_l12_copied (by kernel_rfl) h
noncomputable def B_p_disk_Disk_Sync : Code := match Tryz.f16.body with | some c => c | _ => .skip
noncomputable def X_p_disk_Disk_Sync : Cx := { P := PP, fn := 16, N := 9, tab := tab, results := [.tmp 4], iter := fun _ => (.none, .none), dyn := fun _ => false, live := fun _ => none }
theorem K_p_disk_Disk_Sync : OkF X_p_disk_Disk_Sync B_p_disk_Disk_Sync Tryz.f16 := ⟨⟨tab_ok, mix_ok⟩, Tryz.func16, by kernel_rfl, by kernel_rfl, by kernel_rfl, by kernel_rfl⟩
theorem C_p_disk_Disk_Sync_eq (Q : Value → World → Prop) (a0 : Option Addr) (a1 : ByteArray) (w : World) (h :
  alC #[.pointer a0] 28 w fun p1 w2 =>
  alC #[.string a1] 9 w2 fun p3 w4 =>
  opnP (w4.cell? p1) fun x5 =>
  C_p_disk_Disk_act #[.pointer x5, .func (.func 53) #[] #[.pointer (some p1), .pointer (some p3)], .func (.func 54) #[] #[.pointer (some p1), .pointer (some p3)]] w4 fun v6 w7 =>
  opnI .i64 (some v6) fun x8 =>
  Q (.int .i64 x8) w7) :
C_p_disk_Disk_Sync #[.pointer a0, .string a1] w Q := C_fold K_p_disk_Disk_Sync (by kernel_rfl) h
noncomputable def B_p_disk_Disk_SyncNames : Code := match Tryz.f17.body with | some c => c | _ => .skip
noncomputable def X_p_disk_Disk_SyncNames : Cx := { P := PP, fn := 17, N := 6, tab := tab, results := [.tmp 2], iter := fun _ => (.none, .none), dyn := fun _ => false, live := fun _ => none }
theorem K_p_disk_Disk_SyncNames : OkF X_p_disk_Disk_SyncNames B_p_disk_Disk_SyncNames Tryz.f17 := ⟨⟨tab_ok, mix_ok⟩, Tryz.func17, by kernel_rfl, by kernel_rfl, by kernel_rfl, by kernel_rfl⟩
theorem C_p_disk_Disk_SyncNames_eq (Q : Value → World → Prop) (a0 : Option Addr) (w : World) (h :
  alC #[.pointer a0] 28 w fun p1 w2 =>
  opnP (w2.cell? p1) fun x3 =>
  C_p_disk_Disk_act #[.pointer x3, .func (.func 55) #[] #[], .func (.func 56) #[] #[.pointer (some p1)]] w2 fun v4 w5 =>
  opnI .i64 (some v4) fun x6 =>
  Q (.int .i64 x6) w5) :
C_p_disk_Disk_SyncNames #[.pointer a0] w Q := C_fold K_p_disk_Disk_SyncNames (by kernel_rfl) h
noncomputable def B_l12_within : Code := match Tryz.f18.body with | some c => c | _ => .skip
noncomputable def X_l12_within : Cx := { P := PP, fn := 18, N := 25, tab := tab, results := [.tmp 6], iter := fun _ => (.none, .none), dyn := fun _ => false, live := fun r => cond (Nat.beq r 4) (some [1, 7]) (none) }
theorem K_l12_within : OkF X_l12_within B_l12_within Tryz.f18 := ⟨⟨tab_ok, mix_ok⟩, Tryz.func18, by kernel_rfl, by kernel_rfl, by kernel_rfl, by kernel_rfl⟩
noncomputable def N_l12_within.j4 (Q : Value → World → Prop) (s1 : Int) (s7 : Int) (w : World) : Prop := Nd X_l12_within Q [(1, 1, .int .i64 s1), (7, 7, .int .i64 s7)] [.code (B_l12_within.r.r.r.l), .code (B_l12_within.r.r.r.r)] w
theorem N_l12_within.j4_eq (Q : Value → World → Prop) (s1 : Int) (s7 : Int) (w : World) (h :
  Q (.int .i64 (IntKind.wrap .i64 (s1 + s7))) w) :
N_l12_within.j4 Q s1 s7 w := Nd_fold K_l12_within (by kernel_rfl) h
theorem C_l12_within_eq (Q : Value → World → Prop) (a0 : Int) (a1 : Int) (a2 : Int) (w : World) (h :
  IntKind.wrap .i64 ((IntKind.wrap .i64 (a2 - a1)) + 1) ≠ (0 : Int) ∧
  cond (decide ((Int.tmod a0 (IntKind.wrap .i64 ((IntKind.wrap .i64 (a2 - a1)) + 1))) < 0))
  (N_l12_within.j4 Q a1 (IntKind.wrap .i64 ((IntKind.wrap .i64 ((IntKind.wrap .i64 ((Int.tmod a0 (IntKind.wrap .i64 ((IntKind.wrap .i64 (a2 - a1)) + 1))) + a2)) - a1)) + 1)) w)
  (N_l12_within.j4 Q a1 (Int.tmod a0 (IntKind.wrap .i64 ((IntKind.wrap .i64 (a2 - a1)) + 1))) w)) :
C_l12_within #[.int .i64 a0, .int .i64 a1, .int .i64 a2] w Q := C_fold K_l12_within (by kernel_rfl) h
noncomputable def B_p_disk_Disk_Rename : Code := match Tryz.f19.body with | some c => c | _ => .skip
noncomputable def X_p_disk_Disk_Rename : Cx := { P := PP, fn := 19, N := 11, tab := tab, results := [.tmp 6], iter := fun _ => (.none, .none), dyn := fun _ => false, live := fun _ => none }
theorem K_p_disk_Disk_Rename : OkF X_p_disk_Disk_Rename B_p_disk_Disk_Rename Tryz.f19 := ⟨⟨tab_ok, mix_ok⟩, Tryz.func19, by kernel_rfl, by kernel_rfl, by kernel_rfl, by kernel_rfl⟩
theorem C_p_disk_Disk_Rename_eq (Q : Value → World → Prop) (a0 : Option Addr) (a1 : ByteArray) (a2 : ByteArray) (w : World) (h :
  alC #[.pointer a0] 28 w fun p1 w2 =>
  alC #[.string a1] 9 w2 fun p3 w4 =>
  alC #[.string a2] 9 w4 fun p5 w6 =>
  opnP (w6.cell? p1) fun x7 =>
  C_p_disk_Disk_act #[.pointer x7, .func (.func 58) #[] #[.pointer (some p5), .pointer (some p1), .pointer (some p3)], .func (.func 59) #[] #[.pointer (some p1), .pointer (some p3), .pointer (some p5)]] w6 fun v8 w9 =>
  opnI .i64 (some v8) fun x10 =>
  Q (.int .i64 x10) w9) :
C_p_disk_Disk_Rename #[.pointer a0, .string a1, .string a2] w Q := C_fold K_p_disk_Disk_Rename (by kernel_rfl) h
noncomputable def B_l12_after : Code := match Tryz.f20.body with | some c => c | _ => .skip
noncomputable def X_l12_after : Cx := { P := PP, fn := 20, N := 35, tab := tab, results := [.tmp 4, .tmp 5], iter := fun _ => (.none, .none), dyn := fun _ => false, live := fun r => cond (Nat.beq r 9) (some []) (none) }
theorem K_l12_after : OkF X_l12_after B_l12_after Tryz.f20 := ⟨⟨tab_ok, mix_ok⟩, Tryz.func20, by kernel_rfl, by kernel_rfl, by kernel_rfl, by kernel_rfl⟩
noncomputable def N_l12_after.j9 (Q : Value → World → Prop) (w : World) : Prop := Nd X_l12_after Q [] [.code (B_l12_after.r.r.r.r.r.r.r.l.r.l.l), .code (B_l12_after.r.r.r.r.r.r.r.l.r.l.r), .code (B_l12_after.r.r.r.r.r.r.r.r)] w
theorem N_l12_after.j9_eq (Q : Value → World → Prop) (w : World) (h :
  Q (.tuple #[.slice none 0 0, .bool false]) w) :
N_l12_after.j9 Q w := Nd_fold K_l12_after (by kernel_rfl) h
noncomputable def B_p_disk_Disk_List : Code := match Tryz.f21.body with | some c => c | _ => .skip
noncomputable def X_p_disk_Disk_List : Cx := { P := PP, fn := 21, N := 30, tab := tab, results := [.tmp 4], iter := fun r => cond (Nat.beq r 15) (.one .str, .one .ptr) ((.none, .none)), dyn := fun _ => false, live := fun r => cond (Nat.beq r 5) (some [1, 5, 15]) (none) }
theorem K_p_disk_Disk_List : OkF X_p_disk_Disk_List B_p_disk_Disk_List Tryz.f21 := ⟨⟨tab_ok, mix_ok⟩, Tryz.func21, by kernel_rfl, by kernel_rfl, by kernel_rfl, by kernel_rfl⟩
noncomputable def N_p_disk_Disk_List.j5 (Q : Value → World → Prop) (s1 : ByteArray) (s5 : Option Addr) (s5n : Nat) (s5c : Nat) (s15 : Addr) (w : World) : Prop := Nd X_p_disk_Disk_List Q [(1, 1, .string s1), (5, 5, .slice s5 s5n s5c), (15, 15, .pointer (some s15))] [.code (B_p_disk_Disk_List.r.r.r.l.r.l.l.l), .code (B_p_disk_Disk_List.r.r.r.l.r.l.l.r), .inLoop (B_p_disk_Disk_List.r.r.r.l.r.l.l), .inBlock 0, .code (B_p_disk_Disk_List.r.r.r.r)] w
theorem N_p_disk_Disk_List.j5_eq (Q : Value → World → Prop) (s1 : ByteArray) (s5 : Option Addr) (s5n : Nat) (s5c : Nat) (s15 : Addr) (w : World) (h :
  sem PP (Instr.next (.pointer (some s15)) false 0) w fun v1 w2 =>
  opnN v1
  (C_slices_Sort_string_string #[.slice s5 s5n s5c] w2 fun v5 w6 =>
  opnT (some v5) fun x7 =>
  x7.size = 0 ∧
  Q (.slice s5 s5n s5c) w6)
  fun k3 x4 =>
  opnS (some k3) fun x8 =>
  opnP (some x4) fun x9 =>
  sem PP (Instr.entry (.pointer (some s15))) w2 fun v10 w11 =>
  opnT (some v10) fun x12 =>
  x12.size = 2 ∧
  opnS (x12[0]?) fun x13 =>
  opnP (x12[1]?) fun x14 =>
  C_strings_HasPrefix #[.string x13, .string s1] w11 fun v15 w16 =>
  opnB (some v15) fun x17 =>
  cond x17
  (alC #[.string x13] 9 w16 fun p18 w19 =>
  sem PP (Builtin.append_ #[44, 44] 44 #[.slice s5 s5n s5c, .slice (some p18) 1 1]) w19 fun v20 w21 =>
  opnL (some v20) fun x22 x22n x22c =>
  N_p_disk_Disk_List.j5 Q s1 x22 x22n x22c s15 w21)
  (N_p_disk_Disk_List.j5 Q s1 s5 s5n s5c s15 w16)) :
N_p_disk_Disk_List.j5 Q s1 s5 s5n s5c s15 w := Nd_fold K_p_disk_Disk_List (by kernel_rfl) h
theorem C_p_disk_Disk_List_eq (Q : Value → World → Prop) (a0 : Option Addr) (a1 : ByteArray) (w : World) (h :
  opnA a0 fun ad1 =>
  opnB (w.cell? (ad1.add 8)) fun x2 =>
  cond x2
  (Q (.slice none 0 0) w)
  (opnA a0 fun ad3 =>
  opnM (w.cell? (ad3.add 1)) fun x4 =>
  sem PP (Instr.range 80 (.map x4)) w fun v5 w6 =>
  opnP (some v5) fun x7 =>
  opnA x7 fun ad8 =>
  N_p_disk_Disk_List.j5 Q a1 none 0 0 ad8 w6)) :
C_p_disk_Disk_List #[.pointer a0, .string a1] w Q := C_fold K_p_disk_Disk_List (by kernel_rfl) h
noncomputable def B_l12_copies : Code := match Tryz.f22.body with | some c => c | _ => .skip
noncomputable def X_l12_copies : Cx := { P := PP, fn := 22, N := 27, tab := tab, results := [.tmp 2], iter := fun _ => (.none, .none), dyn := fun _ => false, live := fun r => cond (Nat.beq r 3) (some [0, 3, 4]) (none) }
theorem K_l12_copies : OkF X_l12_copies B_l12_copies Tryz.f22 := ⟨⟨tab_ok, mix_ok⟩, Tryz.func22, by kernel_rfl, by kernel_rfl, by kernel_rfl, by kernel_rfl⟩
noncomputable def N_l12_copies.j3 (Q : Value → World → Prop) (s0 : Option Addr) (s0n : Nat) (s0c : Nat) (s3 : Option Addr) (s3n : Nat) (s3c : Nat) (s4 : Int) (w : World) : Prop := Nd X_l12_copies Q [(0, 0, .slice s0 s0n s0c), (3, 3, .slice s3 s3n s3c), (4, 4, .int .i64 s4)] [.code (B_l12_copies.r.r.l.r.l.l.l.l), .code (B_l12_copies.r.r.l.r.l.l.l.r), .code (B_l12_copies.r.r.l.r.l.l.r), .inLoop (B_l12_copies.r.r.l.r.l.l), .inBlock 0, .code (B_l12_copies.r.r.r)] w
theorem N_l12_copies.j3_eq (Q : Value → World → Prop) (s0 : Option Addr) (s0n : Nat) (s0c : Nat) (s3 : Option Addr) (s3n : Nat) (s3c : Nat) (s4 : Int) (w : World) (h :
  cond (decide (s4 < ((s0n : Nat) : Int)))
  (drw w fun w1 =>
  (0 : Int) ≤ s4 ∧
  s4 < ((s0n : Nat) : Int) ∧
  opnA s0 fun ad2 =>
  (0 : Int) ≤ s4 ∧
  s4 < ((s0n : Nat) : Int) ∧
  opnA s0 fun ad3 =>
  opnS (w1.cell? ((ad2.add (Int.toNat s4 * 2)).add 0)) fun x4 =>
  opnL (w1.cell? ((ad3.add (Int.toNat s4 * 2)).add 1)) fun x5 x5n x5c =>
  C_l12_copied #[.slice x5 x5n x5c] w1 fun v6 w7 =>
  opnL (some v6) fun x8 x8n x8c =>
  (opnS (w7.cell? ((ad2.add (Int.toNat s4 * 2)).add 0)) fun x9 =>
  ((.string x9) : Value) = .string x4) ∧
  alC #[.string x4, .slice x8 x8n x8c] 42 w7 fun p10 w11 =>
  sem PP (Builtin.append_ #[38, 38] 38 #[.slice s3 s3n s3c, .slice (some p10) 1 1]) w11 fun v12 w13 =>
  opnL (some v12) fun x14 x14n x14c =>
  N_l12_copies.j3 Q s0 s0n s0c x14 x14n x14c (IntKind.wrap .i64 (s4 + 1)) w13)
  (Q (.slice s3 s3n s3c) w)) :
N_l12_copies.j3 Q s0 s0n s0c s3 s3n s3c s4 w := Nd_fold K_l12_copies (by kernel_rfl) h
noncomputable def B_p_disk_Disk_Files : Code := match Tryz.f23.body with | some c => c | _ => .skip
noncomputable def X_p_disk_Disk_Files : Cx := { P := PP, fn := 23, N := 30, tab := tab, results := [.tmp 2], iter := fun _ => (.none, .none), dyn := fun _ => false, live := fun r => cond (Nat.beq r 3) (some [0, 3, 7, 8, 9]) (none) }
theorem K_p_disk_Disk_Files : OkF X_p_disk_Disk_Files B_p_disk_Disk_Files Tryz.f23 := ⟨⟨tab_ok, mix_ok⟩, Tryz.func23, by kernel_rfl, by kernel_rfl, by kernel_rfl, by kernel_rfl⟩
noncomputable def N_p_disk_Disk_Files.j3 (Q : Value → World → Prop) (s0 : Option Addr) (s3 : Option Addr) (s3n : Nat) (s3c : Nat) (s7 : Option Addr) (s7n : Nat) (s7c : Nat) (s8 : Int) (s9 : Int) (w : World) : Prop := Nd X_p_disk_Disk_Files Q [(0, 0, .pointer s0), (3, 3, .slice s3 s3n s3c), (7, 7, .slice s7 s7n s7c), (8, 8, .int .i64 s8), (9, 9, .int .i64 s9)] [.code (B_p_disk_Disk_Files.r.r.l.r.l.l.l), .code (B_p_disk_Disk_Files.r.r.l.r.l.l.r), .inLoop (B_p_disk_Disk_Files.r.r.l.r.l.l), .inBlock 0, .code (B_p_disk_Disk_Files.r.r.r)] w
theorem N_p_disk_Disk_Files.j3_eq (Q : Value → World → Prop) (s0 : Option Addr) (s3 : Option Addr) (s3n : Nat) (s3c : Nat) (s7 : Option Addr) (s7n : Nat) (s7c : Nat) (s8 : Int) (s9 : Int) (w : World) (h :
  cond (decide (s9 < s8))
  ((0 : Int) ≤ s9 ∧
  s9 < ((s7n : Nat) : Int) ∧
  opnA s7 fun ad1 =>
  opnS (w.cell? (ad1.add (Int.toNat s9 * 1))) fun x2 =>
  opnA s0 fun ad3 =>
  opnM (w.cell? (ad3.add 1)) fun x4 =>
  semR PP (Instr.lookup 80 (.map x4) (.string x2) false) w fun x5 =>
  opnP (some x5) fun x6 =>
  opnA x6 fun ad7 =>
  opnL (w.cell? (ad7.add 0)) fun x8 x8n x8c =>
  C_slices_Clone_byte_byte #[.slice x8 x8n x8c] w fun v9 w10 =>
  opnL (some v9) fun x11 x11n x11c =>
  alC #[.string x2, .slice x11 x11n x11c] 42 w10 fun p12 w13 =>
  sem PP (Builtin.append_ #[38, 38] 38 #[.slice s3 s3n s3c, .slice (some p12) 1 1]) w13 fun v14 w15 =>
  opnL (some v14) fun x16 x16n x16c =>
  N_p_disk_Disk_Files.j3 Q s0 x16 x16n x16c s7 s7n s7c s8 (IntKind.wrap .i64 (s9 + 1)) w15)
  (Q (.slice s3 s3n s3c) w)) :
N_p_disk_Disk_Files.j3 Q s0 s3 s3n s3c s7 s7n s7c s8 s9 w := Nd_fold K_p_disk_Disk_Files (by kernel_rfl) h
theorem C_p_disk_Disk_Files_eq (Q : Value → World → Prop) (a0 : Option Addr) (w : World) (h :
  C_p_disk_Disk_List #[.pointer a0, .string (⟨#[]⟩ : ByteArray)] w fun v1 w2 =>
  opnL (some v1) fun x3 x3n x3c =>
  N_p_disk_Disk_Files.j3 Q a0 none 0 0 x3 x3n x3c ((x3n : Nat) : Int) 0 w2) :
C_p_disk_Disk_Files #[.pointer a0] w Q := C_fold K_p_disk_Disk_Files (by kernel_rfl) h
end Go.Proofs.YtfjhhpoabdpdhaaGreatDoor
set_option maxRecDepth 100000
namespace Go.Proofs.YtfjhhpoabdpdhaaGreatDoor
open Go.Sh
noncomputable def B_p_disk_Disk_Pending : Code := match Tryz.f24.body with | some c => c | _ => .skip
noncomputable def X_p_disk_Disk_Pending : Cx := { P := PP, fn := 24, N := 51, tab := tab, results := [.tmp 2], iter := fun r => cond (Nat.beq r 42) (.one .ptr, .one (.int .i64)) ((.none, .none)), dyn := fun r => cond (Nat.beq r 30) true (false), live := fun r => cond (Nat.beq r 6) (some [0, 3, 4, 5, 23, 24, 25]) (cond (Nat.beq r 13) (some [8, 42]) (none)) }
theorem K_p_disk_Disk_Pending : OkF X_p_disk_Disk_Pending B_p_disk_Disk_Pending Tryz.f24 := ⟨⟨tab_ok, mix_ok⟩, Tryz.func24, by kernel_rfl, by kernel_rfl, by kernel_rfl, by kernel_rfl⟩
noncomputable def N_p_disk_Disk_Pending.j6 (Q : Value → World → Prop) (s0 : Option Addr) (s3 : Addr) (s4 : Addr) (s5c0 : Addr) (s5c1 : Addr) (s23 : Option Addr) (s23n : Nat) (s23c : Nat) (s24 : Int) (s25 : Int) (w : World) : Prop := Nd X_p_disk_Disk_Pending Q [(0, 0, .pointer s0), (3, 3, .pointer (some s3)), (4, 4, .pointer (some s4)), (5, 5, .func (.func 64) #[] #[.pointer (some s5c0), .pointer (some s5c1)]), (23, 23, .slice s23 s23n s23c), (24, 24, .int .i64 s24), (25, 25, .int .i64 s25)] [.code (B_p_disk_Disk_Pending.r.r.r.r.r.l.r.l.l.l), .code (B_p_disk_Disk_Pending.r.r.r.r.r.l.r.l.l.r), .inLoop (B_p_disk_Disk_Pending.r.r.r.r.r.l.r.l.l), .inBlock 0, .code (B_p_disk_Disk_Pending.r.r.r.r.r.r)] w
noncomputable def N_p_disk_Disk_Pending.j13 (Q : Value → World → Prop) (s8 : Int) (s42 : Addr) (w : World) : Prop := Nd X_p_disk_Disk_Pending Q [(8, 8, .int .i64 s8), (42, 42, .pointer (some s42))] [.code (B_p_disk_Disk_Pending.r.r.r.r.r.r.r.l.r.l.l.l), .code (B_p_disk_Disk_Pending.r.r.r.r.r.r.r.l.r.l.l.r), .inLoop (B_p_disk_Disk_Pending.r.r.r.r.r.r.r.l.r.l.l), .inBlock 2, .code (B_p_disk_Disk_Pending.r.r.r.r.r.r.r.r)] w
theorem N_p_disk_Disk_Pending.j6_eq (Q : Value → World → Prop) (s0 : Option Addr) (s3 : Addr) (s4 : Addr) (s5c0 : Addr) (s5c1 : Addr) (s23 : Option Addr) (s23n : Nat) (s23c : Nat) (s24 : Int) (s25 : Int) (w : World) (h :
  cond (decide (s25 < s24))
  ((0 : Int) ≤ s25 ∧
  s25 < ((s23n : Nat) : Int) ∧
  opnA s23 fun ad1 =>
  opnV (w.cell? ((ad1.add (Int.toNat s25 * 1)).add 0)) fun x2 =>
  alZ PP 101 w fun p3 w4 =>
  Array.size (#[x2] : Array Value) = 1 ∧
  stC (p3.add 0) x2 w4 fun w5 =>
  opnV (w5.cell? (p3.add 0)) fun x6 =>
  opnM (w5.cell? s3) fun x7 =>
  invk PP x6 #[.map x7] w5 fun v8 w9 =>
  opnT (some v8) fun x10 =>
  x10.size = 0 ∧
  C_p_disk_Disk_Pending_S1 #[.pointer (some s5c0), .pointer (some s5c1)] w9 fun v11 w12 =>
  opnT (some v11) fun x13 =>
  x13.size = 0 ∧
  N_p_disk_Disk_Pending.j6 Q s0 s3 s4 s5c0 s5c1 s23 s23n s23c s24 (IntKind.wrap .i64 (s25 + 1)) w12)
  (opnA s0 fun ad14 =>
  opnL (w.cell? (ad14.add 3)) fun x15 x15n x15c =>
  opnM (w.cell? s4) fun x16 =>
  sem PP (Instr.range 99 (.map x16)) w fun v17 w18 =>
  opnP (some v17) fun x19 =>
  opnA x19 fun ad20 =>
  N_p_disk_Disk_Pending.j13 Q ((x15n : Nat) : Int) ad20 w18)) :
N_p_disk_Disk_Pending.j6 Q s0 s3 s4 s5c0 s5c1 s23 s23n s23c s24 s25 w := Nd_fold K_p_disk_Disk_Pending (by kernel_rfl) h
theorem N_p_disk_Disk_Pending.j13_eq (Q : Value → World → Prop) (s8 : Int) (s42 : Addr) (w : World) (h :
  sem PP (Instr.next (.pointer (some s42)) false 0) w fun v1 w2 =>
  opnN v1
  (Q (.int .i64 s8) w2)
  fun k3 x4 =>
  opnP (some k3) fun x5 =>
  opnI .i64 (some x4) fun x6 =>
  sem PP (Instr.entry (.pointer (some s42))) w2 fun v7 w8 =>
  opnT (some v7) fun x9 =>
  x9.size = 2 ∧
  opnP (x9[0]?) fun x10 =>
  opnI .i64 (x9[1]?) fun x11 =>
  N_p_disk_Disk_Pending.j13 Q (IntKind.wrap .i64 (s8 + x11)) s42 w8) :
N_p_disk_Disk_Pending.j13 Q s8 s42 w := Nd_fold K_p_disk_Disk_Pending (by kernel_rfl) h
theorem C_p_disk_Disk_Pending_eq (Q : Value → World → Prop) (a0 : Option Addr) (w : World) (h :
  opnA a0 fun ad1 =>
  opnM (w.cell? (ad1.add 2)) fun x2 =>
  C_maps_Clone_map_string_disk_content_string_disk_content #[.map x2] w fun v3 w4 =>
  opnM (some v3) fun x5 =>
  alC #[.map none] 80 w4 fun p6 w7 =>
  stC p6 (.map x5) w7 fun w8 =>
  alM w8 fun r9 w10 =>
  alC #[.map none] 99 w10 fun p11 w12 =>
  stC p11 (.map (some r9)) w12 fun w13 =>
  C_p_disk_Disk_Pending_S1 #[.pointer (some p6), .pointer (some p11)] w13 fun v14 w15 =>
  opnT (some v14) fun x16 =>
  x16.size = 0 ∧
  opnA a0 fun ad17 =>
  opnL (w15.cell? (ad17.add 3)) fun x18 x18n x18c =>
  N_p_disk_Disk_Pending.j6 Q a0 p6 p11 p6 p11 x18 x18n x18c ((x18n : Nat) : Int) 0 w15) :
C_p_disk_Disk_Pending #[.pointer a0] w Q := C_fold K_p_disk_Disk_Pending (by kernel_rfl) h
noncomputable def B_l12_sameFiles : Code := match Tryz.f25.body with | some c => c | _ => .skip
noncomputable def X_l12_sameFiles : Cx := { P := PP, fn := 25, N := 43, tab := tab, results := [.tmp 4], iter := fun _ => (.none, .none), dyn := fun _ => false, live := fun r => cond (Nat.beq r 4) (some [0, 1, 5]) (cond (Nat.beq r 7) (some []) (none)) }
theorem K_l12_sameFiles : OkF X_l12_sameFiles B_l12_sameFiles Tryz.f25 := ⟨⟨tab_ok, mix_ok⟩, Tryz.func25, by kernel_rfl, by kernel_rfl, by kernel_rfl, by kernel_rfl⟩
noncomputable def N_l12_sameFiles.j4 (Q : Value → World → Prop) (s0 : Option Addr) (s0n : Nat) (s0c : Nat) (s1 : Option Addr) (s1n : Nat) (s1c : Nat) (s5 : Int) (w : World) : Prop := Nd X_l12_sameFiles Q [(0, 0, .slice s0 s0n s0c), (1, 1, .slice s1 s1n s1c), (5, 5, .int .i64 s5)] [.code (B_l12_sameFiles.r.r.l.r.l.l.l.l), .code (B_l12_sameFiles.r.r.l.r.l.l.l.r), .code (B_l12_sameFiles.r.r.l.r.l.l.r), .inLoop (B_l12_sameFiles.r.r.l.r.l.l), .inBlock 0, .code (B_l12_sameFiles.r.r.r)] w
noncomputable def N_l12_sameFiles.j7 (Q : Value → World → Prop) (w : World) : Prop := Nd X_l12_sameFiles Q [] [.code (B_l12_sameFiles.r.r.l.r.l.l.r.l.l.r.l.l), .code (B_l12_sameFiles.r.r.l.r.l.l.r.l.l.r.l.r), .inBlock 1, .code (B_l12_sameFiles.r.r.l.r.l.l.r.r), .inLoop (B_l12_sameFiles.r.r.l.r.l.l), .inBlock 0, .code (B_l12_sameFiles.r.r.r)] w
theorem N_l12_sameFiles.j4_eq (Q : Value → World → Prop) (s0 : Option Addr) (s0n : Nat) (s0c : Nat) (s1 : Option Addr) (s1n : Nat) (s1c : Nat) (s5 : Int) (w : World) (h :
  cond (decide (s5 < ((s0n : Nat) : Int)))
  (drw w fun w1 =>
  (0 : Int) ≤ s5 ∧
  s5 < ((s0n : Nat) : Int) ∧
  opnA s0 fun ad2 =>
  (0 : Int) ≤ s5 ∧
  s5 < ((s1n : Nat) : Int) ∧
  opnA s1 fun ad3 =>
  opnS (w1.cell? ((ad2.add (Int.toNat s5 * 2)).add 0)) fun x4 =>
  opnS (w1.cell? ((ad3.add (Int.toNat s5 * 2)).add 0)) fun x5 =>
  cond (!(x4.toList == x5.toList))
  (N_l12_sameFiles.j7 Q w1)
  ((0 : Int) ≤ s5 ∧
  s5 < ((s0n : Nat) : Int) ∧
  opnA s0 fun ad6 =>
  (0 : Int) ≤ s5 ∧
  s5 < ((s1n : Nat) : Int) ∧
  opnA s1 fun ad7 =>
  opnL (w1.cell? ((ad6.add (Int.toNat s5 * 2)).add 1)) fun x8 x8n x8c =>
  semR PP (convert 23 9 (.slice x8 x8n x8c)) w1 fun x9 =>
  opnS (some x9) fun x10 =>
  opnL (w1.cell? ((ad7.add (Int.toNat s5 * 2)).add 1)) fun x11 x11n x11c =>
  semR PP (convert 23 9 (.slice x11 x11n x11c)) w1 fun x12 =>
  opnS (some x12) fun x13 =>
  cond (!(x10.toList == x13.toList))
  (N_l12_sameFiles.j7 Q w1)
  (N_l12_sameFiles.j4 Q s0 s0n s0c s1 s1n s1c (IntKind.wrap .i64 (s5 + 1)) w1)))
  (Q (.bool true) w)) :
N_l12_sameFiles.j4 Q s0 s0n s0c s1 s1n s1c s5 w := Nd_fold K_l12_sameFiles (by kernel_rfl) h
theorem N_l12_sameFiles.j7_eq (Q : Value → World → Prop) (w : World) (h :
  Q (.bool false) w) :
N_l12_sameFiles.j7 Q w := Nd_fold K_l12_sameFiles (by kernel_rfl) h
noncomputable def B_l12_act : Code := match Tryz.f27.body with | some c => c | _ => .skip
noncomputable def X_l12_act : Cx := { P := PP, fn := 27, N := 54, tab := tab, results := [.tmp 4], iter := fun _ => (.none, .none), dyn := fun _ => false, live := fun _ => none }
theorem K_l12_act : OkF X_l12_act B_l12_act Tryz.f27 := ⟨⟨tab_ok, mix_ok⟩, Tryz.func27, by kernel_rfl, by kernel_rfl, by kernel_rfl, by kernel_rfl⟩
theorem C_l12_act_eq (Q : Value → World → Prop) (a0 : Option Addr) (a1_0 : Int) (a1_1 : Int) (a1_2 : ByteArray) (a1_3 : ByteArray) (a1_4 : Int) (a1_5 : Int) (a1_6 : Option Addr) (a1_6n : Nat) (a1_6c : Nat) (a1_7 : Option Addr) (a1_7n : Nat) (a1_7c : Nat) (a1_8 : Option Addr) (a1_8n : Nat) (a1_8c : Nat) (w : World) (h :
  alC #[.int .i64 a1_0, .int .i64 a1_1, .string a1_2, .string a1_3, .int .i64 a1_4, .int .i64 a1_5, .slice a1_6 a1_6n a1_6c, .slice a1_7 a1_7n a1_7c, .slice a1_8 a1_8n a1_8c] 55 w fun p1 w2 =>
  opnI .i64 (w2.cell? (p1.add 0)) fun x3 =>
  cond (x3 == 3)
  (opnS (w2.cell? (p1.add 2)) fun x4 =>
  C_p_disk_Disk_Create #[.pointer a0, .string x4] w2 fun v5 w6 =>
  opnI .i64 (some v5) fun x7 =>
  Q (.int .i64 x7) w6)
  (cond (x3 == 4)
  (drw w2 fun w8 =>
  opnS (w8.cell? (p1.add 2)) fun x9 =>
  opnI .i64 (w8.cell? (p1.add 4)) fun x10 =>
  opnL (w8.cell? (p1.add 6)) fun x11 x11n x11c =>
  C_l12_copied #[.slice x11 x11n x11c] w8 fun v12 w13 =>
  opnL (some v12) fun x14 x14n x14c =>
  (opnI .i64 (w13.cell? (p1.add 4)) fun x15 =>
  ((.int .i64 x15) : Value) = .int .i64 x10) ∧
  (opnS (w13.cell? (p1.add 2)) fun x16 =>
  ((.string x16) : Value) = .string x9) ∧
  C_p_disk_Disk_Write #[.pointer a0, .string x9, .int .i64 x10, .slice x14 x14n x14c] w13 fun v17 w18 =>
  opnI .i64 (some v17) fun x19 =>
  Q (.int .i64 x19) w18)
  (cond (x3 == 5)
  (opnS (w2.cell? (p1.add 2)) fun x20 =>
  C_p_disk_Disk_Sync #[.pointer a0, .string x20] w2 fun v21 w22 =>
  opnI .i64 (some v21) fun x23 =>
  Q (.int .i64 x23) w22)
  (cond (x3 == 6)
  (C_p_disk_Disk_SyncNames #[.pointer a0] w2 fun v24 w25 =>
  opnI .i64 (some v24) fun x26 =>
  Q (.int .i64 x26) w25)
  (cond (x3 == 7)
  (opnS (w2.cell? (p1.add 2)) fun x27 =>
  opnS (w2.cell? (p1.add 3)) fun x28 =>
  C_p_disk_Disk_Rename #[.pointer a0, .string x27, .string x28] w2 fun v29 w30 =>
  opnI .i64 (some v29) fun x31 =>
  Q (.int .i64 x31) w30)
  (cond (x3 == 8)
  (opnS (w2.cell? (p1.add 2)) fun x32 =>
  C_p_disk_Disk_Remove #[.pointer a0, .string x32] w2 fun v33 w34 =>
  opnI .i64 (some v33) fun x35 =>
  Q (.int .i64 x35) w34)
  (opnI .i64 (w2.cell? (p1.add 4)) fun x36 =>
  opnI .i64 (w2.cell? (p1.add 5)) fun x37 =>
  C_p_disk_Disk_Fail #[.pointer a0, .int .i64 x36, .int .i64 x37] w2 fun v38 w39 =>
  opnI .i64 (some v38) fun x40 =>
  Q (.int .i64 x40) w39))))))) :
C_l12_act #[.pointer a0, .agg #[.int .i64 a1_0, .int .i64 a1_1, .string a1_2, .string a1_3, .int .i64 a1_4, .int .i64 a1_5, .slice a1_6 a1_6n a1_6c, .slice a1_7 a1_7n a1_7c, .slice a1_8 a1_8n a1_8c]] w Q := C_fold K_l12_act (by kernel_rfl) h
noncomputable def B_p_disk_Disk_Acts : Code := match Tryz.f28.body with | some c => c | _ => .skip
noncomputable def X_p_disk_Disk_Acts : Cx := { P := PP, fn := 28, N := 7, tab := tab, results := [.tmp 2], iter := fun _ => (.none, .none), dyn := fun _ => false, live := fun _ => none }
theorem K_p_disk_Disk_Acts : OkF X_p_disk_Disk_Acts B_p_disk_Disk_Acts Tryz.f28 := ⟨⟨tab_ok, mix_ok⟩, Tryz.func28, by kernel_rfl, by kernel_rfl, by kernel_rfl, by kernel_rfl⟩
theorem C_p_disk_Disk_Acts_eq (Q : Value → World → Prop) (a0 : Option Addr) (w : World) (h :
  opnA a0 fun ad1 =>
  opnI .i64 (w.cell? (ad1.add 5)) fun x2 =>
  Q (.int .i64 x2) w) :
C_p_disk_Disk_Acts #[.pointer a0] w Q := C_fold K_p_disk_Disk_Acts (by kernel_rfl) h
noncomputable def B_disk_New : Code := match Tryz.f29.body with | some c => c | _ => .skip
noncomputable def X_disk_New : Cx := { P := PP, fn := 29, N := 12, tab := tab, results := [.tmp 2, .tmp 3], iter := fun _ => (.none, .none), dyn := fun _ => false, live := fun _ => none }
theorem K_disk_New : OkF X_disk_New B_disk_New Tryz.f29 := ⟨⟨tab_ok, mix_ok⟩, Tryz.func29, by kernel_rfl, by kernel_rfl, by kernel_rfl, by kernel_rfl⟩
theorem C_disk_New_eq (Q : Value → World → Prop) (a0 : Int) (w : World) (h :
  C_disk_bounded #[.int .i64 a0] w fun v1 w2 =>
  opnB (some v1) fun x3 =>
  cond (!x3)
  (Q (.tuple #[.pointer none, .int .i64 1]) w2)
  (alM w2 fun r4 w5 =>
  alM w5 fun r6 w7 =>
  alC #[.int .i64 a0, .map (some r4), .map (some r6), .slice none 0 0, .int .i64 0, .int .i64 0, .int .i64 0, .int .i64 0, .bool false] 83 w7 fun p8 w9 =>
  Q (.tuple #[.pointer (some p8), .int .i64 0]) w9)) :
C_disk_New #[.int .i64 a0] w Q := C_fold K_disk_New (by kernel_rfl) h
noncomputable def B_l12_numbers : Code := match Tryz.f30.body with | some c => c | _ => .skip
noncomputable def X_l12_numbers : Cx := { P := PP, fn := 30, N := 13, tab := tab, results := [.tmp 0], iter := fun _ => (.none, .none), dyn := fun _ => false, live := fun _ => none }
theorem K_l12_numbers : OkF X_l12_numbers B_l12_numbers Tryz.f30 := ⟨⟨tab_ok, mix_ok⟩, Tryz.func30, by kernel_rfl, by kernel_rfl, by kernel_rfl, by kernel_rfl⟩
theorem C_l12_numbers_eq (Q : Value → World → Prop) (w : World) (h :
  Q (.bool true) w) :
C_l12_numbers #[] w Q := C_fold K_l12_numbers (by kernel_rfl) h
noncomputable def B_p_disk_Disk_Used : Code := match Tryz.f31.body with | some c => c | _ => .skip
noncomputable def X_p_disk_Disk_Used : Cx := { P := PP, fn := 31, N := 27, tab := tab, results := [.tmp 2], iter := fun r => cond (Nat.beq r 14) (.one .str, .one .ptr) ((.none, .none)), dyn := fun _ => false, live := fun r => cond (Nat.beq r 5) (some [3, 14]) (none) }
theorem K_p_disk_Disk_Used : OkF X_p_disk_Disk_Used B_p_disk_Disk_Used Tryz.f31 := ⟨⟨tab_ok, mix_ok⟩, Tryz.func31, by kernel_rfl, by kernel_rfl, by kernel_rfl, by kernel_rfl⟩
noncomputable def N_p_disk_Disk_Used.j5 (Q : Value → World → Prop) (s3 : Int) (s14 : Addr) (w : World) : Prop := Nd X_p_disk_Disk_Used Q [(3, 3, .int .i64 s3), (14, 14, .pointer (some s14))] [.code (B_p_disk_Disk_Used.r.r.r.l.r.l.l.l), .code (B_p_disk_Disk_Used.r.r.r.l.r.l.l.r), .inLoop (B_p_disk_Disk_Used.r.r.r.l.r.l.l), .inBlock 0, .code (B_p_disk_Disk_Used.r.r.r.r)] w
theorem N_p_disk_Disk_Used.j5_eq (Q : Value → World → Prop) (s3 : Int) (s14 : Addr) (w : World) (h :
  sem PP (Instr.next (.pointer (some s14)) false 0) w fun v1 w2 =>
  opnN v1
  (Q (.int .i64 s3) w2)
  fun k3 x4 =>
  opnS (some k3) fun x5 =>
  opnP (some x4) fun x6 =>
  sem PP (Instr.entry (.pointer (some s14))) w2 fun v7 w8 =>
  opnT (some v7) fun x9 =>
  x9.size = 2 ∧
  opnS (x9[0]?) fun x10 =>
  opnP (x9[1]?) fun x11 =>
  opnA x11 fun ad12 =>
  opnL (w8.cell? (ad12.add 0)) fun x13 x13n x13c =>
  N_p_disk_Disk_Used.j5 Q (IntKind.wrap .i64 (s3 + ((x13n : Nat) : Int))) s14 w8) :
N_p_disk_Disk_Used.j5 Q s3 s14 w := Nd_fold K_p_disk_Disk_Used (by kernel_rfl) h
theorem C_p_disk_Disk_Used_eq (Q : Value → World → Prop) (a0 : Option Addr) (w : World) (h :
  opnA a0 fun ad1 =>
  opnB (w.cell? (ad1.add 8)) fun x2 =>
  cond x2
  (Q (.int .i64 0) w)
  (opnA a0 fun ad3 =>
  opnM (w.cell? (ad3.add 1)) fun x4 =>
  sem PP (Instr.range 80 (.map x4)) w fun v5 w6 =>
  opnP (some v5) fun x7 =>
  opnA x7 fun ad8 =>
  N_p_disk_Disk_Used.j5 Q 0 ad8 w6)) :
C_p_disk_Disk_Used #[.pointer a0] w Q := C_fold K_p_disk_Disk_Used (by kernel_rfl) h
noncomputable def B_r12_New : Code := match Tryz.f32.body with | some c => c | _ => .skip
noncomputable def X_r12_New : Cx := { P := PP, fn := 32, N := 13, tab := tab, results := [.tmp 2, .tmp 3], iter := fun _ => (.none, .none), dyn := fun _ => false, live := fun r => cond (Nat.beq r 2) (some []) (none) }
theorem K_r12_New : OkF X_r12_New B_r12_New Tryz.f32 := ⟨⟨tab_ok, mix_ok⟩, Tryz.func32, by kernel_rfl, by kernel_rfl, by kernel_rfl, by kernel_rfl⟩
noncomputable def N_r12_New.j2 (Q : Value → World → Prop) (w : World) : Prop := Nd X_r12_New Q [] [.code (B_r12_New.r.l.r.l.l), .code (B_r12_New.r.l.r.l.r), .code (B_r12_New.r.r)] w
theorem N_r12_New.j2_eq (Q : Value → World → Prop) (w : World) (h :
  Q (.tuple #[.pointer none, .int .i64 1]) w) :
N_r12_New.j2 Q w := Nd_fold K_r12_New (by kernel_rfl) h
theorem C_r12_New_eq (Q : Value → World → Prop) (a0 : Int) (w : World) (h :
  cond (decide (a0 < 0))
  (N_r12_New.j2 Q w)
  (cond (decide (a0 > 1099511627776))
  (N_r12_New.j2 Q w)
  (alC #[.int .i64 a0, .bool false, .int .i64 0, .int .i64 0, .int .i64 0, .slice none 0 0, .slice none 0 0, .slice none 0 0, .slice none 0 0, .slice none 0 0, .slice none 0 0] 107 w fun p1 w2 =>
  Q (.tuple #[.pointer (some p1), .int .i64 0]) w2))) :
C_r12_New #[.int .i64 a0] w Q := C_fold K_r12_New (by kernel_rfl) h
noncomputable def B_l12_made : Code := match Tryz.f33.body with | some c => c | _ => .skip
noncomputable def X_l12_made : Cx := { P := PP, fn := 33, N := 87, tab := tab, results := [.tmp 4, .tmp 5], iter := fun _ => (.none, .none), dyn := fun _ => false, live := fun r => cond (Nat.beq r 5) (some [0]) (cond (Nat.beq r 8) (some [0]) (cond (Nat.beq r 12) (some [0]) (cond (Nat.beq r 15) (some [0]) (none)))) }
theorem K_l12_made : OkF X_l12_made B_l12_made Tryz.f33 := ⟨⟨tab_ok, mix_ok⟩, Tryz.func33, by kernel_rfl, by kernel_rfl, by kernel_rfl, by kernel_rfl⟩
noncomputable def N_l12_made.j5 (Q : Value → World → Prop) (s0 : Option Addr) (s0n : Nat) (s0c : Nat) (w : World) : Prop := Nd X_l12_made Q [(0, 0, .slice s0 s0n s0c)] [.code (B_l12_made.r.l.r.l.r.r.l.r.l.l), .code (B_l12_made.r.l.r.l.r.r.l.r.l.r), .code (B_l12_made.r.l.r.l.r.r.r), .code (B_l12_made.r.r)] w
noncomputable def N_l12_made.j8 (Q : Value → World → Prop) (s0 : Option Addr) (s0n : Nat) (s0c : Nat) (w : World) : Prop := Nd X_l12_made Q [(0, 0, .slice s0 s0n s0c)] [.code (B_l12_made.r.l.r.l.r.r.r.r.l), .code (B_l12_made.r.l.r.l.r.r.r.r.r), .code (B_l12_made.r.r)] w
noncomputable def N_l12_made.j12 (Q : Value → World → Prop) (s0 : Option Addr) (s0n : Nat) (s0c : Nat) (w : World) : Prop := Nd X_l12_made Q [(0, 0, .slice s0 s0n s0c)] [.code (B_l12_made.r.r.r.r.l.r.l.l), .code (B_l12_made.r.r.r.r.l.r.l.r), .code (B_l12_made.r.r.r.r.r)] w
noncomputable def N_l12_made.j15 (Q : Value → World → Prop) (s0 : Option Addr) (s0n : Nat) (s0c : Nat) (w : World) : Prop := Nd X_l12_made Q [(0, 0, .slice s0 s0n s0c)] [.code (B_l12_made.r.r.r.r.r.r.l), .code (B_l12_made.r.r.r.r.r.r.r)] w
theorem N_l12_made.j5_eq (Q : Value → World → Prop) (s0 : Option Addr) (s0n : Nat) (s0c : Nat) (w : World) (h :
  Q (.tuple #[.slice s0 s0n s0c, .bool false]) w) :
N_l12_made.j5 Q s0 s0n s0c w := Nd_fold K_l12_made (by kernel_rfl) h
theorem N_l12_made.j8_eq (Q : Value → World → Prop) (s0 : Option Addr) (s0n : Nat) (s0c : Nat) (w : World) (h :
  Q (.tuple #[.slice s0 s0n s0c, .bool true]) w) :
N_l12_made.j8 Q s0 s0n s0c w := Nd_fold K_l12_made (by kernel_rfl) h
theorem N_l12_made.j12_eq (Q : Value → World → Prop) (s0 : Option Addr) (s0n : Nat) (s0c : Nat) (w : World) (h :
  Q (.tuple #[.slice s0 s0n s0c, .bool false]) w) :
N_l12_made.j12 Q s0 s0n s0c w := Nd_fold K_l12_made (by kernel_rfl) h
theorem N_l12_made.j15_eq (Q : Value → World → Prop) (s0 : Option Addr) (s0n : Nat) (s0c : Nat) (w : World) (h :
  Q (.tuple #[.slice s0 s0n s0c, .bool true]) w) :
N_l12_made.j15 Q s0 s0n s0c w := Nd_fold K_l12_made (by kernel_rfl) h
theorem C_l12_made_eq (Q : Value → World → Prop) (a0 : Option Addr) (a0n : Nat) (a0c : Nat) (a1_0 : Int) (a1_1 : Int) (a1_2 : ByteArray) (a1_3 : ByteArray) (a1_4 : Int) (a1_5 : Int) (a1_6 : Option Addr) (a1_6n : Nat) (a1_6c : Nat) (a1_7 : Option Addr) (a1_7n : Nat) (a1_7c : Nat) (a1_8 : Option Addr) (a1_8n : Nat) (a1_8c : Nat) (w : World) (h :
  alC #[.int .i64 a1_0, .int .i64 a1_1, .string a1_2, .string a1_3, .int .i64 a1_4, .int .i64 a1_5, .slice a1_6 a1_6n a1_6c, .slice a1_7 a1_7n a1_7c, .slice a1_8 a1_8n a1_8c] 55 w fun p1 w2 =>
  opnI .i64 (w2.cell? (p1.add 0)) fun x3 =>
  cond (x3 == 1)
  (opnI .i64 (w2.cell? (p1.add 4)) fun x4 =>
  C_disk_New #[.int .i64 x4] w2 fun v5 w6 =>
  opnT (some v5) fun x7 =>
  x7.size = 2 ∧
  opnP (x7[0]?) fun x8 =>
  opnI .i64 (x7[1]?) fun x9 =>
  opnI .i64 (w6.cell? (p1.add 4)) fun x10 =>
  C_r12_New #[.int .i64 x10] w6 fun v11 w12 =>
  opnT (some v11) fun x13 =>
  x13.size = 2 ∧
  opnP (x13[0]?) fun x14 =>
  opnI .i64 (x13[1]?) fun x15 =>
  cond (x9 != x15)
  (N_l12_made.j5 Q a0 a0n a0c w12)
  (semR PP (do eqGuard .eql 28 (.tmp 33) (.const (.pointer none)) (.pointer x8) (.pointer none); binOp .eql 28 (.pointer x8) (.pointer none)) w12 fun x16 =>
  opnB (some x16) fun x17 =>
  semR PP (do eqGuard .eql 62 (.tmp 35) (.const (.pointer none)) (.pointer x14) (.pointer none); binOp .eql 62 (.pointer x14) (.pointer none)) w12 fun x18 =>
  opnB (some x18) fun x19 =>
  cond (!(x17 == x19))
  (N_l12_made.j5 Q a0 a0n a0c w12)
  (semR PP (do eqGuard .neq 62 (.tmp 40) (.const (.pointer none)) (.pointer x14) (.pointer none); binOp .neq 62 (.pointer x14) (.pointer none)) w12 fun x20 =>
  opnB (some x20) fun x21 =>
  cond x21
  (alC #[.pointer x8, .pointer x14] 66 w12 fun p22 w23 =>
  sem PP (Builtin.append_ #[67, 67] 67 #[.slice a0 a0n a0c, .slice (some p22) 1 1]) w23 fun v24 w25 =>
  opnL (some v24) fun x26 x26n x26c =>
  N_l12_made.j8 Q x26 x26n x26c w25)
  (N_l12_made.j8 Q a0 a0n a0c w12))))
  (drw w2 fun w27 =>
  opnI .i64 (w27.cell? (p1.add 4)) fun x28 =>
  opnL (w27.cell? (p1.add 7)) fun x29 x29n x29c =>
  C_l12_files #[.slice x29 x29n x29c] w27 fun v30 w31 =>
  opnL (some v30) fun x32 x32n x32c =>
  (opnI .i64 (w31.cell? (p1.add 4)) fun x33 =>
  ((.int .i64 x33) : Value) = .int .i64 x28) ∧
  C_disk_Load #[.int .i64 x28, .slice x32 x32n x32c] w31 fun v34 w35 =>
  opnT (some v34) fun x36 =>
  x36.size = 2 ∧
  opnP (x36[0]?) fun x37 =>
  opnI .i64 (x36[1]?) fun x38 =>
  drw w35 fun w39 =>
  opnI .i64 (w39.cell? (p1.add 4)) fun x40 =>
  opnL (w39.cell? (p1.add 7)) fun x41 x41n x41c =>
  C_l12_reference #[.slice x41 x41n x41c] w39 fun v42 w43 =>
  opnL (some v42) fun x44 x44n x44c =>
  (opnI .i64 (w43.cell? (p1.add 4)) fun x45 =>
  ((.int .i64 x45) : Value) = .int .i64 x40) ∧
  C_r12_Load #[.int .i64 x40, .slice x44 x44n x44c] w43 fun v46 w47 =>
  opnT (some v46) fun x48 =>
  x48.size = 2 ∧
  opnP (x48[0]?) fun x49 =>
  opnI .i64 (x48[1]?) fun x50 =>
  cond (x38 != x50)
  (N_l12_made.j12 Q a0 a0n a0c w47)
  (semR PP (do eqGuard .eql 28 (.tmp 71) (.const (.pointer none)) (.pointer x37) (.pointer none); binOp .eql 28 (.pointer x37) (.pointer none)) w47 fun x51 =>
  opnB (some x51) fun x52 =>
  semR PP (do eqGuard .eql 62 (.tmp 73) (.const (.pointer none)) (.pointer x49) (.pointer none); binOp .eql 62 (.pointer x49) (.pointer none)) w47 fun x53 =>
  opnB (some x53) fun x54 =>
  cond (!(x52 == x54))
  (N_l12_made.j12 Q a0 a0n a0c w47)
  (semR PP (do eqGuard .neq 62 (.tmp 78) (.const (.pointer none)) (.pointer x49) (.pointer none); binOp .neq 62 (.pointer x49) (.pointer none)) w47 fun x55 =>
  opnB (some x55) fun x56 =>
  cond x56
  (alC #[.pointer x37, .pointer x49] 66 w47 fun p57 w58 =>
  sem PP (Builtin.append_ #[67, 67] 67 #[.slice a0 a0n a0c, .slice (some p57) 1 1]) w58 fun v59 w60 =>
  opnL (some v59) fun x61 x61n x61c =>
  N_l12_made.j15 Q x61 x61n x61c w60)
  (N_l12_made.j15 Q a0 a0n a0c w47))))) :
C_l12_made #[.slice a0 a0n a0c, .agg #[.int .i64 a1_0, .int .i64 a1_1, .string a1_2, .string a1_3, .int .i64 a1_4, .int .i64 a1_5, .slice a1_6 a1_6n a1_6c, .slice a1_7 a1_7n a1_7c, .slice a1_8 a1_8n a1_8c]] w Q := C_fold K_l12_made (by kernel_rfl) h
noncomputable def B_l12_actOf : Code := match Tryz.f34.body with | some c => c | _ => .skip
noncomputable def X_l12_actOf : Cx := { P := PP, fn := 34, N := 53, tab := tab, results := [.tmp 4], iter := fun _ => (.none, .none), dyn := fun _ => false, live := fun _ => none }
theorem K_l12_actOf : OkF X_l12_actOf B_l12_actOf Tryz.f34 := ⟨⟨tab_ok, mix_ok⟩, Tryz.func34, by kernel_rfl, by kernel_rfl, by kernel_rfl, by kernel_rfl⟩
theorem C_l12_actOf_eq (Q : Value → World → Prop) (a0 : Option Addr) (a1_0 : Int) (a1_1 : Int) (a1_2 : ByteArray) (a1_3 : ByteArray) (a1_4 : Int) (a1_5 : Int) (a1_6 : Option Addr) (a1_6n : Nat) (a1_6c : Nat) (a1_7 : Option Addr) (a1_7n : Nat) (a1_7c : Nat) (a1_8 : Option Addr) (a1_8n : Nat) (a1_8c : Nat) (w : World) (h :
  alC #[.int .i64 a1_0, .int .i64 a1_1, .string a1_2, .string a1_3, .int .i64 a1_4, .int .i64 a1_5, .slice a1_6 a1_6n a1_6c, .slice a1_7 a1_7n a1_7c, .slice a1_8 a1_8n a1_8c] 55 w fun p1 w2 =>
  opnI .i64 (w2.cell? (p1.add 0)) fun x3 =>
  cond (x3 == 3)
  (opnS (w2.cell? (p1.add 2)) fun x4 =>
  C_p_r12_Disk_Create #[.pointer a0, .string x4] w2 fun v5 w6 =>
  opnI .i64 (some v5) fun x7 =>
  Q (.int .i64 x7) w6)
  (cond (x3 == 4)
  (opnS (w2.cell? (p1.add 2)) fun x8 =>
  opnI .i64 (w2.cell? (p1.add 4)) fun x9 =>
  opnL (w2.cell? (p1.add 6)) fun x10 x10n x10c =>
  C_p_r12_Disk_Write #[.pointer a0, .string x8, .int .i64 x9, .slice x10 x10n x10c] w2 fun v11 w12 =>
  opnI .i64 (some v11) fun x13 =>
  Q (.int .i64 x13) w12)
  (cond (x3 == 5)
  (opnS (w2.cell? (p1.add 2)) fun x14 =>
  C_p_r12_Disk_Sync #[.pointer a0, .string x14] w2 fun v15 w16 =>
  opnI .i64 (some v15) fun x17 =>
  Q (.int .i64 x17) w16)
  (cond (x3 == 6)
  (C_p_r12_Disk_SyncNames #[.pointer a0] w2 fun v18 w19 =>
  opnI .i64 (some v18) fun x20 =>
  Q (.int .i64 x20) w19)
  (cond (x3 == 7)
  (opnS (w2.cell? (p1.add 2)) fun x21 =>
  opnS (w2.cell? (p1.add 3)) fun x22 =>
  C_p_r12_Disk_Rename #[.pointer a0, .string x21, .string x22] w2 fun v23 w24 =>
  opnI .i64 (some v23) fun x25 =>
  Q (.int .i64 x25) w24)
  (cond (x3 == 8)
  (opnS (w2.cell? (p1.add 2)) fun x26 =>
  C_p_r12_Disk_Remove #[.pointer a0, .string x26] w2 fun v27 w28 =>
  opnI .i64 (some v27) fun x29 =>
  Q (.int .i64 x29) w28)
  (opnI .i64 (w2.cell? (p1.add 4)) fun x30 =>
  opnI .i64 (w2.cell? (p1.add 5)) fun x31 =>
  C_p_r12_Disk_Fail #[.pointer a0, .int .i64 x30, .int .i64 x31] w2 fun v32 w33 =>
  opnI .i64 (some v32) fun x34 =>
  Q (.int .i64 x34) w33))))))) :
C_l12_actOf #[.pointer a0, .agg #[.int .i64 a1_0, .int .i64 a1_1, .string a1_2, .string a1_3, .int .i64 a1_4, .int .i64 a1_5, .slice a1_6 a1_6n a1_6c, .slice a1_7 a1_7n a1_7c, .slice a1_8 a1_8n a1_8c]] w Q := C_fold K_l12_actOf (by kernel_rfl) h
noncomputable def B_l12_told : Code := match Tryz.f35.body with | some c => c | _ => .skip
noncomputable def X_l12_told : Cx := { P := PP, fn := 35, N := 86, tab := tab, results := [.tmp 4], iter := fun _ => (.none, .none), dyn := fun _ => false, live := fun _ => none }
theorem K_l12_told : OkF X_l12_told B_l12_told Tryz.f35 := ⟨⟨tab_ok, mix_ok⟩, Tryz.func35, by kernel_rfl, by kernel_rfl, by kernel_rfl, by kernel_rfl⟩
theorem C_l12_told_eq (Q : Value → World → Prop) (a0_0 : Option Addr) (a0_1 : Option Addr) (a1_0 : Int) (a1_1 : Int) (a1_2 : ByteArray) (a1_3 : ByteArray) (a1_4 : Int) (a1_5 : Int) (a1_6 : Option Addr) (a1_6n : Nat) (a1_6c : Nat) (a1_7 : Option Addr) (a1_7n : Nat) (a1_7c : Nat) (a1_8 : Option Addr) (a1_8n : Nat) (a1_8c : Nat) (w : World) (h :
  alC #[.pointer a0_0, .pointer a0_1] 66 w fun p1 w2 =>
  alC #[.int .i64 a1_0, .int .i64 a1_1, .string a1_2, .string a1_3, .int .i64 a1_4, .int .i64 a1_5, .slice a1_6 a1_6n a1_6c, .slice a1_7 a1_7n a1_7c, .slice a1_8 a1_8n a1_8c] 55 w2 fun p3 w4 =>
  opnI .i64 (w4.cell? (p3.add 0)) fun x5 =>
  cond (x5 == 9)
  (opnP (w4.cell? (p1.add 0)) fun x6 =>
  opnS (w4.cell? (p3.add 2)) fun x7 =>
  C_p_disk_Disk_Read #[.pointer x6, .string x7] w4 fun v8 w9 =>
  opnT (some v8) fun x10 =>
  x10.size = 2 ∧
  opnL (x10[0]?) fun x11 x11n x11c =>
  opnI .i64 (x10[1]?) fun x12 =>
  opnP (w9.cell? (p1.add 1)) fun x13 =>
  opnS (w9.cell? (p3.add 2)) fun x14 =>
  C_p_r12_Disk_Read #[.pointer x13, .string x14] w9 fun v15 w16 =>
  opnT (some v15) fun x17 =>
  x17.size = 2 ∧
  opnL (x17[0]?) fun x18 x18n x18c =>
  opnI .i64 (x17[1]?) fun x19 =>
  semR PP (convert 23 9 (.slice x11 x11n x11c)) w16 fun x20 =>
  opnS (some x20) fun x21 =>
  semR PP (convert 23 9 (.slice x18 x18n x18c)) w16 fun x22 =>
  opnS (some x22) fun x23 =>
  cond (x21.toList == x23.toList)
  (Q (.bool (x12 == x19)) w16)
  (Q (.bool false) w16))
  (cond (x5 == 10)
  (drw w4 fun w24 =>
  opnP (w24.cell? (p1.add 0)) fun x25 =>
  opnS (w24.cell? (p3.add 3)) fun x26 =>
  opnP (w24.cell? (p1.add 1)) fun x27 =>
  opnS (w24.cell? (p3.add 3)) fun x28 =>
  C_p_disk_Disk_List #[.pointer x25, .string x26] w24 fun v29 w30 =>
  opnL (some v29) fun x31 x31n x31c =>
  (opnS (w30.cell? (p3.add 3)) fun x32 =>
  ((.string x32) : Value) = .string x28) ∧
  (opnP (w30.cell? (p1.add 1)) fun x33 =>
  ((.pointer x33) : Value) = .pointer x27) ∧
  C_p_r12_Disk_List #[.pointer x27, .string x28] w30 fun v34 w35 =>
  opnL (some v34) fun x36 x36n x36c =>
  C_l12_sameNames #[.slice x31 x31n x31c, .slice x36 x36n x36c] w35 fun v37 w38 =>
  opnB (some v37) fun x39 =>
  Q (.bool x39) w38)
  (cond (x5 == 11)
  (drw w4 fun w40 =>
  opnP (w40.cell? (p1.add 0)) fun x41 =>
  opnP (w40.cell? (p1.add 1)) fun x42 =>
  C_p_disk_Disk_Files #[.pointer x41] w40 fun v43 w44 =>
  opnL (some v43) fun x45 x45n x45c =>
  (opnP (w44.cell? (p1.add 1)) fun x46 =>
  ((.pointer x46) : Value) = .pointer x42) ∧
  C_p_r12_Disk_Files #[.pointer x42] w44 fun v47 w48 =>
  opnL (some v47) fun x49 x49n x49c =>
  C_l12_sameAsReference #[.slice x45 x45n x45c, .slice x49 x49n x49c] w48 fun v50 w51 =>
  opnB (some v50) fun x52 =>
  Q (.bool x52) w51)
  (drw w4 fun w53 =>
  opnP (w53.cell? (p1.add 0)) fun x54 =>
  opnP (w53.cell? (p1.add 1)) fun x55 =>
  C_p_disk_Disk_Used #[.pointer x54] w53 fun v56 w57 =>
  opnI .i64 (some v56) fun x58 =>
  (opnP (w57.cell? (p1.add 1)) fun x59 =>
  ((.pointer x59) : Value) = .pointer x55) ∧
  C_p_r12_Disk_Used #[.pointer x55] w57 fun v60 w61 =>
  opnI .i64 (some v60) fun x62 =>
  cond (x58 == x62)
  (opnP (w61.cell? (p1.add 0)) fun x63 =>
  opnP (w61.cell? (p1.add 1)) fun x64 =>
  C_p_disk_Disk_Acts #[.pointer x63] w61 fun v65 w66 =>
  opnI .i64 (some v65) fun x67 =>
  (opnP (w66.cell? (p1.add 1)) fun x68 =>
  ((.pointer x68) : Value) = .pointer x64) ∧
  C_p_r12_Disk_Acts #[.pointer x64] w66 fun v69 w70 =>
  opnI .i64 (some v69) fun x71 =>
  cond (x67 == x71)
  (opnP (w70.cell? (p1.add 0)) fun x72 =>
  opnP (w70.cell? (p1.add 1)) fun x73 =>
  C_p_disk_Disk_Pending #[.pointer x72] w70 fun v74 w75 =>
  opnI .i64 (some v74) fun x76 =>
  (opnP (w75.cell? (p1.add 1)) fun x77 =>
  ((.pointer x77) : Value) = .pointer x73) ∧
  C_p_r12_Disk_Pending #[.pointer x73] w75 fun v78 w79 =>
  opnI .i64 (some v78) fun x80 =>
  Q (.bool (x76 == x80)) w79)
  (Q (.bool false) w70))
  (Q (.bool false) w61))))) :
C_l12_told #[.agg #[.pointer a0_0, .pointer a0_1], .agg #[.int .i64 a1_0, .int .i64 a1_1, .string a1_2, .string a1_3, .int .i64 a1_4, .int .i64 a1_5, .slice a1_6 a1_6n a1_6c, .slice a1_7 a1_7n a1_7c, .slice a1_8 a1_8n a1_8c]] w Q := C_fold K_l12_told (by kernel_rfl) h
noncomputable def B_p_disk_Disk_Crash : Code := match Tryz.f36.body with | some c => c | _ => .skip
noncomputable def X_p_disk_Disk_Crash : Cx := { P := PP, fn := 36, N := 162, tab := tab, results := [.tmp 4], iter := fun r => cond (Nat.beq r 54) (.one .str, .one .ptr) (cond (Nat.beq r 126) (.one .str, .one .ptr) ((.none, .none))), dyn := fun r => cond (Nat.beq r 48) true (false), live := fun r => cond (Nat.beq r 5) (some [0, 5, 6, 41, 42, 43]) (cond (Nat.beq r 12) (some [0, 5, 6, 9, 10, 54]) (cond (Nat.beq r 16) (some [0, 5, 6, 9, 10, 12, 54, 71, 72, 73]) (cond (Nat.beq r 22) (some [0, 5, 6, 10, 86, 87, 88]) (cond (Nat.beq r 29) (some [6, 10, 18, 126]) (none))))) }
theorem K_p_disk_Disk_Crash : OkF X_p_disk_Disk_Crash B_p_disk_Disk_Crash Tryz.f36 := ⟨⟨tab_ok, mix_ok⟩, Tryz.func36, by kernel_rfl, by kernel_rfl, by kernel_rfl, by kernel_rfl⟩
noncomputable def N_p_disk_Disk_Crash.j5 (Q : Value → World → Prop) (s0 : Option Addr) (s5c0 : Addr) (s6 : Option Nat) (s41 : Option Addr) (s41n : Nat) (s41c : Nat) (s42 : Int) (s43 : Int) (w : World) : Prop := Nd X_p_disk_Disk_Crash Q [(0, 0, .pointer s0), (5, 5, .func (.func 85) #[] #[.pointer (some s5c0)]), (6, 6, .map s6), (41, 41, .slice s41 s41n s41c), (42, 42, .int .i64 s42), (43, 43, .int .i64 s43)] [.code (B_p_disk_Disk_Crash.r.r.r.r.l.r.l.l.l), .code (B_p_disk_Disk_Crash.r.r.r.r.l.r.l.l.r), .inLoop (B_p_disk_Disk_Crash.r.r.r.r.l.r.l.l), .inBlock 0, .code (B_p_disk_Disk_Crash.r.r.r.r.r)] w
noncomputable def N_p_disk_Disk_Crash.j12 (Q : Value → World → Prop) (s0 : Option Addr) (s5c0 : Addr) (s6 : Option Nat) (s9 : Option Addr) (s9n : Nat) (s9c : Nat) (s10 : Option Nat) (s54 : Addr) (w : World) : Prop := Nd X_p_disk_Disk_Crash Q [(0, 0, .pointer s0), (5, 5, .func (.func 85) #[] #[.pointer (some s5c0)]), (6, 6, .map s6), (9, 9, .slice s9 s9n s9c), (10, 10, .map s10), (54, 54, .pointer (some s54))] [.code (B_p_disk_Disk_Crash.r.r.r.r.r.r.r.l.r.l.l.l), .code (B_p_disk_Disk_Crash.r.r.r.r.r.r.r.l.r.l.l.r), .inLoop (B_p_disk_Disk_Crash.r.r.r.r.r.r.r.l.r.l.l), .inBlock 2, .code (B_p_disk_Disk_Crash.r.r.r.r.r.r.r.r)] w
noncomputable def N_p_disk_Disk_Crash.j16 (Q : Value → World → Prop) (s0 : Option Addr) (s5c0 : Addr) (s6 : Option Nat) (s9 : Option Addr) (s9n : Nat) (s9c : Nat) (s10 : Option Nat) (s12 : Option Addr) (s54 : Addr) (s71 : Option Addr) (s71n : Nat) (s71c : Nat) (s72 : Int) (s73 : Int) (w : World) : Prop := Nd X_p_disk_Disk_Crash Q [(0, 0, .pointer s0), (5, 5, .func (.func 85) #[] #[.pointer (some s5c0)]), (6, 6, .map s6), (9, 9, .slice s9 s9n s9c), (10, 10, .map s10), (12, 12, .pointer s12), (54, 54, .pointer (some s54)), (71, 71, .slice s71 s71n s71c), (72, 72, .int .i64 s72), (73, 73, .int .i64 s73)] [.code (B_p_disk_Disk_Crash.r.r.r.r.r.r.r.l.r.l.l.r.r.l.r.r.r.l.l.l), .code (B_p_disk_Disk_Crash.r.r.r.r.r.r.r.l.r.l.l.r.r.l.r.r.r.l.l.r), .inLoop (B_p_disk_Disk_Crash.r.r.r.r.r.r.r.l.r.l.l.r.r.l.r.r.r.l.l), .inBlock 4, .inBlock 3, .inLoop (B_p_disk_Disk_Crash.r.r.r.r.r.r.r.l.r.l.l), .inBlock 2, .code (B_p_disk_Disk_Crash.r.r.r.r.r.r.r.r)] w
noncomputable def N_p_disk_Disk_Crash.j22 (Q : Value → World → Prop) (s0 : Option Addr) (s5c0 : Addr) (s6 : Option Nat) (s10 : Option Nat) (s86 : Option Addr) (s86n : Nat) (s86c : Nat) (s87 : Int) (s88 : Int) (w : World) : Prop := Nd X_p_disk_Disk_Crash Q [(0, 0, .pointer s0), (5, 5, .func (.func 85) #[] #[.pointer (some s5c0)]), (6, 6, .map s6), (10, 10, .map s10), (86, 86, .slice s86 s86n s86c), (87, 87, .int .i64 s87), (88, 88, .int .i64 s88)] [.code (B_p_disk_Disk_Crash.r.r.r.r.r.r.r.r.r.l.r.l.l.l), .code (B_p_disk_Disk_Crash.r.r.r.r.r.r.r.r.r.l.r.l.l.r), .inLoop (B_p_disk_Disk_Crash.r.r.r.r.r.r.r.r.r.l.r.l.l), .inBlock 6, .code (B_p_disk_Disk_Crash.r.r.r.r.r.r.r.r.r.r)] w
noncomputable def N_p_disk_Disk_Crash.j29 (Q : Value → World → Prop) (s6 : Option Nat) (s10 : Option Nat) (s18 : Addr) (s126 : Addr) (w : World) : Prop := Nd X_p_disk_Disk_Crash Q [(6, 6, .map s6), (10, 10, .map s10), (18, 18, .pointer (some s18)), (126, 126, .pointer (some s126))] [.code (B_p_disk_Disk_Crash.r.r.r.r.r.r.r.r.r.r.r.l.r.l.l.l), .code (B_p_disk_Disk_Crash.r.r.r.r.r.r.r.r.r.r.r.l.r.l.l.r), .inLoop (B_p_disk_Disk_Crash.r.r.r.r.r.r.r.r.r.r.r.l.r.l.l), .inBlock 8, .code (B_p_disk_Disk_Crash.r.r.r.r.r.r.r.r.r.r.r.r)] w
theorem N_p_disk_Disk_Crash.j5_eq (Q : Value → World → Prop) (s0 : Option Addr) (s5c0 : Addr) (s6 : Option Nat) (s41 : Option Addr) (s41n : Nat) (s41c : Nat) (s42 : Int) (s43 : Int) (w : World) (h :
  cond (decide (s43 < s42))
  ((0 : Int) ≤ s43 ∧
  s43 < ((s41n : Nat) : Int) ∧
  opnA s41 fun ad1 =>
  opnV (w.cell? ((ad1.add (Int.toNat s43 * 1)).add 0)) fun x2 =>
  alZ PP 101 w fun p3 w4 =>
  Array.size (#[x2] : Array Value) = 1 ∧
  stC (p3.add 0) x2 w4 fun w5 =>
  opnV (w5.cell? (p3.add 0)) fun x6 =>
  invk PP x6 #[.map s6] w5 fun v7 w8 =>
  opnT (some v7) fun x9 =>
  x9.size = 0 ∧
  N_p_disk_Disk_Crash.j5 Q s0 s5c0 s6 s41 s41n s41c s42 (IntKind.wrap .i64 (s43 + 1)) w8)
  (alM w fun r10 w11 =>
  sem PP (Instr.range 80 (.map s6)) w11 fun v12 w13 =>
  opnP (some v12) fun x14 =>
  opnA x14 fun ad15 =>
  N_p_disk_Disk_Crash.j12 Q s0 s5c0 s6 none 0 0 (some r10) ad15 w13)) :
N_p_disk_Disk_Crash.j5 Q s0 s5c0 s6 s41 s41n s41c s42 s43 w := Nd_fold K_p_disk_Disk_Crash (by kernel_rfl) h
theorem N_p_disk_Disk_Crash.j12_eq (Q : Value → World → Prop) (s0 : Option Addr) (s5c0 : Addr) (s6 : Option Nat) (s9 : Option Addr) (s9n : Nat) (s9c : Nat) (s10 : Option Nat) (s54 : Addr) (w : World) (h :
  sem PP (Instr.next (.pointer (some s54)) false 0) w fun v1 w2 =>
  opnN v1
  (C_slices_SortFunc_disk_owned_disk_owned #[.slice s9 s9n s9c, .func (.func 87) #[] #[]] w2 fun v5 w6 =>
  opnT (some v5) fun x7 =>
  x7.size = 0 ∧
  N_p_disk_Disk_Crash.j22 Q s0 s5c0 s6 s10 s9 s9n s9c ((s9n : Nat) : Int) 0 w6)
  fun k3 x4 =>
  opnS (some k3) fun x8 =>
  opnP (some x4) fun x9 =>
  sem PP (Instr.entry (.pointer (some s54))) w2 fun v10 w11 =>
  opnT (some v10) fun x12 =>
  x12.size = 2 ∧
  opnS (x12[0]?) fun x13 =>
  opnP (x12[1]?) fun x14 =>
  opnA x14 fun ad15 =>
  opnL (w11.cell? (ad15.add 1)) fun x16 x16n x16c =>
  C_slices_Clone_byte_byte #[.slice x16 x16n x16c] w11 fun v17 w18 =>
  opnL (some v17) fun x19 x19n x19c =>
  alC #[.slice x19 x19n x19c, .slice none 0 0, .slice none 0 0] 89 w18 fun p20 w21 =>
  semU PP (Instr.mapUpdate 123 (.map s10) (.pointer x14) (.pointer (some p20))) w21 fun w22 =>
  opnA x14 fun ad23 =>
  opnL (w22.cell? (ad23.add 2)) fun x24 x24n x24c =>
  N_p_disk_Disk_Crash.j16 Q s0 s5c0 s6 s9 s9n s9c s10 x14 s54 x24 x24n x24c ((x24n : Nat) : Int) 0 w22) :
N_p_disk_Disk_Crash.j12 Q s0 s5c0 s6 s9 s9n s9c s10 s54 w := Nd_fold K_p_disk_Disk_Crash (by kernel_rfl) h
theorem N_p_disk_Disk_Crash.j16_eq (Q : Value → World → Prop) (s0 : Option Addr) (s5c0 : Addr) (s6 : Option Nat) (s9 : Option Addr) (s9n : Nat) (s9c : Nat) (s10 : Option Nat) (s12 : Option Addr) (s54 : Addr) (s71 : Option Addr) (s71n : Nat) (s71c : Nat) (s72 : Int) (s73 : Int) (w : World) (h :
  cond (decide (s73 < s72))
  ((0 : Int) ≤ s73 ∧
  s73 < ((s71n : Nat) : Int) ∧
  opnA s71 fun ad1 =>
  opnI .i64 (w.cell? ((ad1.add (Int.toNat s73 * 3)).add 0)) fun x2 =>
  opnI .i64 (w.cell? ((ad1.add (Int.toNat s73 * 3)).add 1)) fun x3 =>
  opnL (w.cell? ((ad1.add (Int.toNat s73 * 3)).add 2)) fun x4 x4n x4c =>
  alC #[.int .i64 0, .int .i64 0, .slice none 0 0] 94 w fun p5 w6 =>
  Array.size (#[.int .i64 x2, .int .i64 x3, .slice x4 x4n x4c] : Array Value) = 3 ∧
  stC (p5.add 0) (.int .i64 x2) w6 fun w7 =>
  stC (p5.add 1) (.int .i64 x3) w7 fun w8 =>
  stC (p5.add 2) (.slice x4 x4n x4c) w8 fun w9 =>
  opnI .i64 (w9.cell? (p5.add 0)) fun x10 =>
  opnI .i64 (w9.cell? (p5.add 1)) fun x11 =>
  opnL (w9.cell? (p5.add 2)) fun x12 x12n x12c =>
  alC #[.pointer s12, .int .i64 x10, .int .i64 x11, .slice x12 x12n x12c] 125 w9 fun p13 w14 =>
  sem PP (Builtin.append_ #[122, 122] 122 #[.slice s9 s9n s9c, .slice (some p13) 1 1]) w14 fun v15 w16 =>
  opnL (some v15) fun x17 x17n x17c =>
  N_p_disk_Disk_Crash.j16 Q s0 s5c0 s6 x17 x17n x17c s10 s12 s54 s71 s71n s71c s72 (IntKind.wrap .i64 (s73 + 1)) w16)
  (N_p_disk_Disk_Crash.j12 Q s0 s5c0 s6 s9 s9n s9c s10 s54 w)) :
N_p_disk_Disk_Crash.j16 Q s0 s5c0 s6 s9 s9n s9c s10 s12 s54 s71 s71n s71c s72 s73 w := Nd_fold K_p_disk_Disk_Crash (by kernel_rfl) h
theorem N_p_disk_Disk_Crash.j22_eq (Q : Value → World → Prop) (s0 : Option Addr) (s5c0 : Addr) (s6 : Option Nat) (s10 : Option Nat) (s86 : Option Addr) (s86n : Nat) (s86c : Nat) (s87 : Int) (s88 : Int) (w : World) (h :
  cond (decide (s88 < s87))
  ((0 : Int) ≤ s88 ∧
  s88 < ((s86n : Nat) : Int) ∧
  opnA s86 fun ad1 =>
  opnP (w.cell? ((ad1.add (Int.toNat s88 * 4)).add 0)) fun x2 =>
  opnI .i64 (w.cell? ((ad1.add (Int.toNat s88 * 4)).add 1)) fun x3 =>
  opnI .i64 (w.cell? ((ad1.add (Int.toNat s88 * 4)).add 2)) fun x4 =>
  opnL (w.cell? ((ad1.add (Int.toNat s88 * 4)).add 3)) fun x5 x5n x5c =>
  alC #[.pointer none, .int .i64 0, .int .i64 0, .slice none 0 0] 125 w fun p6 w7 =>
  Array.size (#[.pointer x2, .int .i64 x3, .int .i64 x4, .slice x5 x5n x5c] : Array Value) = 4 ∧
  stC (p6.add 0) (.pointer x2) w7 fun w8 =>
  stC (p6.add 1) (.int .i64 x3) w8 fun w9 =>
  stC (p6.add 2) (.int .i64 x4) w9 fun w10 =>
  stC (p6.add 3) (.slice x5 x5n x5c) w10 fun w11 =>
  opnP (w11.cell? (p6.add 0)) fun x12 =>
  semR PP (Instr.lookup 123 (.map s10) (.pointer x12) false) w11 fun x13 =>
  opnP (some x13) fun x14 =>
  drw w11 fun w15 =>
  opnA x14 fun ad16 =>
  opnL (w15.cell? (ad16.add 0)) fun x17 x17n x17c =>
  opnI .i64 (w15.cell? ((p6.add 1).add 1)) fun x18 =>
  opnL (w15.cell? ((p6.add 1).add 2)) fun x19 x19n x19c =>
  opnL (w15.cell? ((p6.add 1).add 2)) fun x20 x20n x20c =>
  C_p_disk_Disk_Crash_S1 #[.int .i64 ((x20n : Nat) : Int), .pointer (some s5c0)] w15 fun v21 w22 =>
  opnI .i64 (some v21) fun x23 =>
  (opnL (w22.cell? ((p6.add 1).add 2)) fun x24 x24n x24c =>
  ((.slice x24 x24n x24c) : Value) = .slice x19 x19n x19c) ∧
  (opnI .i64 (w22.cell? ((p6.add 1).add 1)) fun x25 =>
  ((.int .i64 x25) : Value) = .int .i64 x18) ∧
  (opnL (w22.cell? (ad16.add 0)) fun x26 x26n x26c =>
  ((.slice x26 x26n x26c) : Value) = .slice x17 x17n x17c) ∧
  (0 : Int) ≤ x23 ∧
  x23 ≤ ((x19c : Nat) : Int) ∧
  C_disk_laid #[.slice x17 x17n x17c, .int .i64 x18, .slice (slA x19 0 x19c 1) ((Int.toNat x23) - 0) (x19c - 0)] w22 fun v27 w28 =>
  opnL (some v27) fun x29 x29n x29c =>
  opnA x14 fun ad30 =>
  stC (ad30.add 0) (.slice x29 x29n x29c) w28 fun w31 =>
  N_p_disk_Disk_Crash.j22 Q s0 s5c0 s6 s10 s86 s86n s86c s87 (IntKind.wrap .i64 (s88 + 1)) w31)
  (opnA s0 fun ad32 =>
  opnI .i64 (w.cell? (ad32.add 0)) fun x33 =>
  alM w fun r34 w35 =>
  alC #[.int .i64 x33, .map (some r34), .map none, .slice none 0 0, .int .i64 0, .int .i64 0, .int .i64 0, .int .i64 0, .bool false] 83 w35 fun p36 w37 =>
  sem PP (Instr.range 80 (.map s6)) w37 fun v38 w39 =>
  opnP (some v38) fun x40 =>
  opnA x40 fun ad41 =>
  N_p_disk_Disk_Crash.j29 Q s6 s10 p36 ad41 w39)) :
N_p_disk_Disk_Crash.j22 Q s0 s5c0 s6 s10 s86 s86n s86c s87 s88 w := Nd_fold K_p_disk_Disk_Crash (by kernel_rfl) h
theorem N_p_disk_Disk_Crash.j29_eq (Q : Value → World → Prop) (s6 : Option Nat) (s10 : Option Nat) (s18 : Addr) (s126 : Addr) (w : World) (h :
  sem PP (Instr.next (.pointer (some s126)) false 0) w fun v1 w2 =>
  opnN v1
  (opnM (w2.cell? (s18.add 1)) fun x5 =>
  C_maps_Clone_map_string_disk_content_string_disk_content #[.map x5] w2 fun v6 w7 =>
  opnM (some v6) fun x8 =>
  stC (s18.add 2) (.map x8) w7 fun w9 =>
  sem PP (Builtin.clear_ #[80] 0 #[.map s6]) w9 fun v10 w11 =>
  Q (.pointer (some s18)) w11)
  fun k3 x4 =>
  opnS (some k3) fun x12 =>
  opnP (some x4) fun x13 =>
  sem PP (Instr.entry (.pointer (some s126))) w2 fun v14 w15 =>
  opnT (some v14) fun x16 =>
  x16.size = 2 ∧
  opnS (x16[0]?) fun x17 =>
  opnP (x16[1]?) fun x18 =>
  drw w15 fun w19 =>
  semR PP (Instr.lookup 123 (.map s10) (.pointer x18) false) w19 fun x20 =>
  opnP (some x20) fun x21 =>
  semR PP (Instr.lookup 123 (.map s10) (.pointer x18) false) w19 fun x22 =>
  opnP (some x22) fun x23 =>
  opnA x23 fun ad24 =>
  opnL (w19.cell? (ad24.add 0)) fun x25 x25n x25c =>
  C_slices_Clone_byte_byte #[.slice x25 x25n x25c] w19 fun v26 w27 =>
  opnL (some v26) fun x28 x28n x28c =>
  (semR PP (Instr.lookup 123 (.map s10) (.pointer x18) false) w27 fun x29 =>
  opnP (some x29) fun x30 =>
  ((.pointer x30) : Value) = .pointer x21) ∧
  opnA x21 fun ad31 =>
  stC (ad31.add 1) (.slice x28 x28n x28c) w27 fun w32 =>
  drw w32 fun w33 =>
  opnM (w33.cell? (s18.add 1)) fun x34 =>
  semR PP (Instr.lookup 123 (.map s10) (.pointer x18) false) w33 fun x35 =>
  opnP (some x35) fun x36 =>
  semU PP (Instr.mapUpdate 80 (.map x34) (.string x17) (.pointer x36)) w33 fun w37 =>
  N_p_disk_Disk_Crash.j29 Q s6 s10 s18 s126 w37) :
N_p_disk_Disk_Crash.j29 Q s6 s10 s18 s126 w := Nd_fold K_p_disk_Disk_Crash (by kernel_rfl) h
theorem C_p_disk_Disk_Crash_eq (Q : Value → World → Prop) (a0 : Option Addr) (a1 : Option Addr) (a1n : Nat) (a1c : Nat) (w : World) (h :
  alC #[.slice a1 a1n a1c] 24 w fun p1 w2 =>
  opnA a0 fun ad3 =>
  stC (ad3.add 8) (.bool true) w2 fun w4 =>
  opnA a0 fun ad5 =>
  opnM (w4.cell? (ad5.add 2)) fun x6 =>
  C_maps_Clone_map_string_disk_content_string_disk_content #[.map x6] w4 fun v7 w8 =>
  opnM (some v7) fun x9 =>
  drw w8 fun w10 =>
  opnA a0 fun ad11 =>
  opnA a0 fun ad12 =>
  opnL (w10.cell? (ad11.add 3)) fun x13 x13n x13c =>
  opnL (w10.cell? (ad12.add 3)) fun x14 x14n x14c =>
  C_p_disk_Disk_Crash_S1 #[.int .i64 ((x14n : Nat) : Int), .pointer (some p1)] w10 fun v15 w16 =>
  opnI .i64 (some v15) fun x17 =>
  (opnL (w16.cell? (ad11.add 3)) fun x18 x18n x18c =>
  ((.slice x18 x18n x18c) : Value) = .slice x13 x13n x13c) ∧
  (0 : Int) ≤ x17 ∧
  x17 ≤ ((x13c : Nat) : Int) ∧
  N_p_disk_Disk_Crash.j5 Q a0 p1 x9 (slA x13 0 x13c 1) ((Int.toNat x17) - 0) (x13c - 0) (((Int.toNat x17) - 0 : Nat) : Int) 0 w16) :
C_p_disk_Disk_Crash #[.pointer a0, .slice a1 a1n a1c] w Q := C_fold K_p_disk_Disk_Crash (by kernel_rfl) h
noncomputable def B_p_r12_Disk_Crash : Code := match Tryz.f37.body with | some c => c | _ => .skip
noncomputable def X_p_r12_Disk_Crash : Cx := { P := PP, fn := 37, N := 165, tab := tab, results := [.tmp 4], iter := fun _ => (.none, .none), dyn := fun _ => false, live := fun r => cond (Nat.beq r 6) (some [0, 1, 5, 7, 8]) (cond (Nat.beq r 11) (some [0, 1, 5, 9, 10]) (cond (Nat.beq r 16) (some [0, 1, 5, 9, 11, 12]) (cond (Nat.beq r 19) (some [0, 1, 5, 9, 11, 12, 13]) (cond (Nat.beq r 20) (some [0, 1, 5, 9, 11, 12, 13]) (cond (Nat.beq r 28) (some [5, 9, 16, 17]) (none)))))) }
theorem K_p_r12_Disk_Crash : OkF X_p_r12_Disk_Crash B_p_r12_Disk_Crash Tryz.f37 := ⟨⟨tab_ok, mix_ok⟩, Tryz.func37, by kernel_rfl, by kernel_rfl, by kernel_rfl, by kernel_rfl⟩
noncomputable def N_p_r12_Disk_Crash.j6 (Q : Value → World → Prop) (s0 : Option Addr) (s1 : Option Addr) (s1n : Nat) (s1c : Nat) (s5 : Option Addr) (s5n : Nat) (s5c : Nat) (s7 : Int) (s8 : Int) (w : World) : Prop := Nd X_p_r12_Disk_Crash Q [(0, 0, .pointer s0), (1, 1, .slice s1 s1n s1c), (5, 5, .slice s5 s5n s5c), (7, 7, .int .i64 s7), (8, 8, .int .i64 s8)] [.code (B_p_r12_Disk_Crash.r.r.r.r.r.l.r.l.l.l.l), .code (B_p_r12_Disk_Crash.r.r.r.r.r.l.r.l.l.l.r), .code (B_p_r12_Disk_Crash.r.r.r.r.r.l.r.l.l.r), .inLoop (B_p_r12_Disk_Crash.r.r.r.r.r.l.r.l.l), .inBlock 0, .code (B_p_r12_Disk_Crash.r.r.r.r.r.r)] w
noncomputable def N_p_r12_Disk_Crash.j11 (Q : Value → World → Prop) (s0 : Option Addr) (s1 : Option Addr) (s1n : Nat) (s1c : Nat) (s5 : Option Addr) (s5n : Nat) (s5c : Nat) (s9 : Option Addr) (s9n : Nat) (s9c : Nat) (s10 : Int) (w : World) : Prop := Nd X_p_r12_Disk_Crash Q [(0, 0, .pointer s0), (1, 1, .slice s1 s1n s1c), (5, 5, .slice s5 s5n s5c), (9, 9, .slice s9 s9n s9c), (10, 10, .int .i64 s10)] [.code (B_p_r12_Disk_Crash.r.r.r.r.r.r.r.l.r.l.l.l.l), .code (B_p_r12_Disk_Crash.r.r.r.r.r.r.r.l.r.l.l.l.r), .code (B_p_r12_Disk_Crash.r.r.r.r.r.r.r.l.r.l.l.r), .inLoop (B_p_r12_Disk_Crash.r.r.r.r.r.r.r.l.r.l.l), .inBlock 2, .code (B_p_r12_Disk_Crash.r.r.r.r.r.r.r.r)] w
noncomputable def N_p_r12_Disk_Crash.j16 (Q : Value → World → Prop) (s0 : Option Addr) (s1 : Option Addr) (s1n : Nat) (s1c : Nat) (s5 : Option Addr) (s5n : Nat) (s5c : Nat) (s9 : Option Addr) (s9n : Nat) (s9c : Nat) (s11 : Int) (s12 : Int) (w : World) : Prop := Nd X_p_r12_Disk_Crash Q [(0, 0, .pointer s0), (1, 1, .slice s1 s1n s1c), (5, 5, .slice s5 s5n s5c), (9, 9, .slice s9 s9n s9c), (11, 11, .int .i64 s11), (12, 12, .int .i64 s12)] [.code (B_p_r12_Disk_Crash.r.r.r.r.r.r.r.r.r.l.r.l.l.l.l), .code (B_p_r12_Disk_Crash.r.r.r.r.r.r.r.r.r.l.r.l.l.l.r), .code (B_p_r12_Disk_Crash.r.r.r.r.r.r.r.r.r.l.r.l.l.r), .inLoop (B_p_r12_Disk_Crash.r.r.r.r.r.r.r.r.r.l.r.l.l), .inBlock 4, .code (B_p_r12_Disk_Crash.r.r.r.r.r.r.r.r.r.r)] w
noncomputable def N_p_r12_Disk_Crash.j19 (Q : Value → World → Prop) (s0 : Option Addr) (s1 : Option Addr) (s1n : Nat) (s1c : Nat) (s5 : Option Addr) (s5n : Nat) (s5c : Nat) (s9 : Option Addr) (s9n : Nat) (s9c : Nat) (s11 : Int) (s12 : Int) (s13 : Int) (w : World) : Prop := Nd X_p_r12_Disk_Crash Q [(0, 0, .pointer s0), (1, 1, .slice s1 s1n s1c), (5, 5, .slice s5 s5n s5c), (9, 9, .slice s9 s9n s9c), (11, 11, .int .i64 s11), (12, 12, .int .i64 s12), (13, 13, .int .i64 s13)] [.code (B_p_r12_Disk_Crash.r.r.r.r.r.r.r.r.r.l.r.l.l.r.l.l.r.l.l.l.l), .code (B_p_r12_Disk_Crash.r.r.r.r.r.r.r.r.r.l.r.l.l.r.l.l.r.l.l.l.r), .code (B_p_r12_Disk_Crash.r.r.r.r.r.r.r.r.r.l.r.l.l.r.l.l.r.l.l.r), .inLoop (B_p_r12_Disk_Crash.r.r.r.r.r.r.r.r.r.l.r.l.l.r.l.l.r.l.l), .inBlock 6, .inBlock 5, .code (B_p_r12_Disk_Crash.r.r.r.r.r.r.r.r.r.l.r.l.l.r.r), .inLoop (B_p_r12_Disk_Crash.r.r.r.r.r.r.r.r.r.l.r.l.l), .inBlock 4, .code (B_p_r12_Disk_Crash.r.r.r.r.r.r.r.r.r.r)] w
noncomputable def N_p_r12_Disk_Crash.j20 (Q : Value → World → Prop) (s0 : Option Addr) (s1 : Option Addr) (s1n : Nat) (s1c : Nat) (s5 : Option Addr) (s5n : Nat) (s5c : Nat) (s9 : Option Addr) (s9n : Nat) (s9c : Nat) (s11 : Int) (s12 : Int) (s13 : Int) (w : World) : Prop := Nd X_p_r12_Disk_Crash Q [(0, 0, .pointer s0), (1, 1, .slice s1 s1n s1c), (5, 5, .slice s5 s5n s5c), (9, 9, .slice s9 s9n s9c), (11, 11, .int .i64 s11), (12, 12, .int .i64 s12), (13, 13, .int .i64 s13)] [.code (B_p_r12_Disk_Crash.r.r.r.r.r.r.r.r.r.l.r.l.l.r.l.l.r.l.l.r.r), .inLoop (B_p_r12_Disk_Crash.r.r.r.r.r.r.r.r.r.l.r.l.l.r.l.l.r.l.l), .inBlock 6, .inBlock 5, .code (B_p_r12_Disk_Crash.r.r.r.r.r.r.r.r.r.l.r.l.l.r.r), .inLoop (B_p_r12_Disk_Crash.r.r.r.r.r.r.r.r.r.l.r.l.l), .inBlock 4, .code (B_p_r12_Disk_Crash.r.r.r.r.r.r.r.r.r.r)] w
noncomputable def N_p_r12_Disk_Crash.j28 (Q : Value → World → Prop) (s5 : Option Addr) (s5n : Nat) (s5c : Nat) (s9 : Option Addr) (s9n : Nat) (s9c : Nat) (s16 : Addr) (s17 : Int) (w : World) : Prop := Nd X_p_r12_Disk_Crash Q [(5, 5, .slice s5 s5n s5c), (9, 9, .slice s9 s9n s9c), (16, 16, .pointer (some s16)), (17, 17, .int .i64 s17)] [.code (B_p_r12_Disk_Crash.r.r.r.r.r.r.r.r.r.r.r.l.r.l.l.l.l), .code (B_p_r12_Disk_Crash.r.r.r.r.r.r.r.r.r.r.r.l.r.l.l.l.r), .code (B_p_r12_Disk_Crash.r.r.r.r.r.r.r.r.r.r.r.l.r.l.l.r), .inLoop (B_p_r12_Disk_Crash.r.r.r.r.r.r.r.r.r.r.r.l.r.l.l), .inBlock 8, .code (B_p_r12_Disk_Crash.r.r.r.r.r.r.r.r.r.r.r.r)] w
theorem N_p_r12_Disk_Crash.j6_eq (Q : Value → World → Prop) (s0 : Option Addr) (s1 : Option Addr) (s1n : Nat) (s1c : Nat) (s5 : Option Addr) (s5n : Nat) (s5c : Nat) (s7 : Int) (s8 : Int) (w : World) (h :
  cond (decide (s8 < s7))
  (opnA s0 fun ad1 =>
  opnL (w.cell? (ad1.add 9)) fun x2 x2n x2c =>
  (0 : Int) ≤ s8 ∧
  s8 < ((x2n : Nat) : Int) ∧
  opnA x2 fun ad3 =>
  opnI .i64 (w.cell? ((ad3.add (Int.toNat s8 * 4)).add 0)) fun x4 =>
  opnS (w.cell? ((ad3.add (Int.toNat s8 * 4)).add 1)) fun x5 =>
  opnS (w.cell? ((ad3.add (Int.toNat s8 * 4)).add 2)) fun x6 =>
  opnI .i64 (w.cell? ((ad3.add (Int.toNat s8 * 4)).add 3)) fun x7 =>
  C_r12_turned #[.slice s5 s5n s5c, .agg #[.int .i64 x4, .string x5, .string x6, .int .i64 x7]] w fun v8 w9 =>
  opnL (some v8) fun x10 x10n x10c =>
  N_p_r12_Disk_Crash.j6 Q s0 s1 s1n s1c x10 x10n x10c s7 (IntKind.wrap .i64 (s8 + 1)) w9)
  (N_p_r12_Disk_Crash.j11 Q s0 s1 s1n s1c s5 s5n s5c none 0 0 0 w)) :
N_p_r12_Disk_Crash.j6 Q s0 s1 s1n s1c s5 s5n s5c s7 s8 w := Nd_fold K_p_r12_Disk_Crash (by kernel_rfl) h
theorem N_p_r12_Disk_Crash.j11_eq (Q : Value → World → Prop) (s0 : Option Addr) (s1 : Option Addr) (s1n : Nat) (s1c : Nat) (s5 : Option Addr) (s5n : Nat) (s5c : Nat) (s9 : Option Addr) (s9n : Nat) (s9c : Nat) (s10 : Int) (w : World) (h :
  cond (decide (s10 < ((s5n : Nat) : Int)))
  (drw w fun w1 =>
  opnA s0 fun ad2 =>
  (0 : Int) ≤ s10 ∧
  s10 < ((s5n : Nat) : Int) ∧
  opnA s5 fun ad3 =>
  opnL (w1.cell? (ad2.add 5)) fun x4 x4n x4c =>
  opnI .i64 (w1.cell? ((ad3.add (Int.toNat s10 * 2)).add 1)) fun x5 =>
  (0 : Int) ≤ x5 ∧
  x5 < ((x4n : Nat) : Int) ∧
  opnA x4 fun ad6 =>
  opnL (w1.cell? (ad6.add (Int.toNat x5 * 1))) fun x7 x7n x7c =>
  alC #[.slice x7 x7n x7c] 23 w1 fun p8 w9 =>
  sem PP (Builtin.append_ #[78, 78] 78 #[.slice s9 s9n s9c, .slice (some p8) 1 1]) w9 fun v10 w11 =>
  opnL (some v10) fun x12 x12n x12c =>
  N_p_r12_Disk_Crash.j11 Q s0 s1 s1n s1c s5 s5n s5c x12 x12n x12c (IntKind.wrap .i64 (s10 + 1)) w11)
  (N_p_r12_Disk_Crash.j16 Q s0 s1 s1n s1c s5 s5n s5c s9 s9n s9c 1 0 w)) :
N_p_r12_Disk_Crash.j11 Q s0 s1 s1n s1c s5 s5n s5c s9 s9n s9c s10 w := Nd_fold K_p_r12_Disk_Crash (by kernel_rfl) h
theorem N_p_r12_Disk_Crash.j16_eq (Q : Value → World → Prop) (s0 : Option Addr) (s1 : Option Addr) (s1n : Nat) (s1c : Nat) (s5 : Option Addr) (s5n : Nat) (s5c : Nat) (s9 : Option Addr) (s9n : Nat) (s9c : Nat) (s11 : Int) (s12 : Int) (w : World) (h :
  opnA s0 fun ad1 =>
  opnL (w.cell? (ad1.add 10)) fun x2 x2n x2c =>
  cond (decide (s12 < ((x2n : Nat) : Int)))
  (N_p_r12_Disk_Crash.j19 Q s0 s1 s1n s1c s5 s5n s5c s9 s9n s9c s11 s12 0 w)
  (opnA s0 fun ad3 =>
  opnI .i64 (w.cell? (ad3.add 0)) fun x4 =>
  alC #[.int .i64 x4, .bool false, .int .i64 0, .int .i64 0, .int .i64 0, .slice none 0 0, .slice none 0 0, .slice none 0 0, .slice none 0 0, .slice none 0 0, .slice none 0 0] 107 w fun p5 w6 =>
  N_p_r12_Disk_Crash.j28 Q s5 s5n s5c s9 s9n s9c p5 0 w6)) :
N_p_r12_Disk_Crash.j16 Q s0 s1 s1n s1c s5 s5n s5c s9 s9n s9c s11 s12 w := Nd_fold K_p_r12_Disk_Crash (by kernel_rfl) h
theorem N_p_r12_Disk_Crash.j19_eq (Q : Value → World → Prop) (s0 : Option Addr) (s1 : Option Addr) (s1n : Nat) (s1c : Nat) (s5 : Option Addr) (s5n : Nat) (s5c : Nat) (s9 : Option Addr) (s9n : Nat) (s9c : Nat) (s11 : Int) (s12 : Int) (s13 : Int) (w : World) (h :
  cond (decide (s13 < ((s5n : Nat) : Int)))
  (drw w fun w1 =>
  (0 : Int) ≤ s13 ∧
  s13 < ((s5n : Nat) : Int) ∧
  opnA s5 fun ad2 =>
  opnA s0 fun ad3 =>
  opnI .i64 (w1.cell? ((ad2.add (Int.toNat s13 * 2)).add 1)) fun x4 =>
  opnL (w1.cell? (ad3.add 10)) fun x5 x5n x5c =>
  (0 : Int) ≤ s12 ∧
  s12 < ((x5n : Nat) : Int) ∧
  opnA x5 fun ad6 =>
  opnI .i64 (w1.cell? ((ad6.add (Int.toNat s12 * 3)).add 0)) fun x7 =>
  cond (x4 == x7)
  (C_r12_choice #[.slice s1 s1n s1c, .int .i64 s11] w1 fun v8 w9 =>
  opnI .i64 (some v8) fun x10 =>
  opnA s0 fun ad11 =>
  opnL (w9.cell? (ad11.add 10)) fun x12 x12n x12c =>
  (0 : Int) ≤ s12 ∧
  s12 < ((x12n : Nat) : Int) ∧
  opnA x12 fun ad13 =>
  opnL (w9.cell? ((ad13.add (Int.toNat s12 * 3)).add 2)) fun x14 x14n x14c =>
  C_r12_modulo #[.int .i64 x10, .int .i64 (IntKind.wrap .i64 (((x14n : Nat) : Int) + 1))] w9 fun v15 w16 =>
  opnI .i64 (some v15) fun x17 =>
  drw w16 fun w18 =>
  (0 : Int) ≤ s13 ∧
  s13 < ((s9n : Nat) : Int) ∧
  opnA s9 fun ad19 =>
  opnA s0 fun ad20 =>
  opnA s0 fun ad21 =>
  opnL (w18.cell? (ad19.add (Int.toNat s13 * 1))) fun x22 x22n x22c =>
  opnL (w18.cell? (ad20.add 10)) fun x23 x23n x23c =>
  (0 : Int) ≤ s12 ∧
  s12 < ((x23n : Nat) : Int) ∧
  opnA x23 fun ad24 =>
  opnI .i64 (w18.cell? ((ad24.add (Int.toNat s12 * 3)).add 1)) fun x25 =>
  opnL (w18.cell? (ad21.add 10)) fun x26 x26n x26c =>
  (0 : Int) ≤ s12 ∧
  s12 < ((x26n : Nat) : Int) ∧
  opnA x26 fun ad27 =>
  opnL (w18.cell? ((ad27.add (Int.toNat s12 * 3)).add 2)) fun x28 x28n x28c =>
  (0 : Int) ≤ x17 ∧
  x17 ≤ ((x28c : Nat) : Int) ∧
  C_r12_laid #[.slice x22 x22n x22c, .int .i64 x25, .slice (slA x28 0 x28c 1) ((Int.toNat x17) - 0) (x28c - 0)] w18 fun v29 w30 =>
  opnL (some v29) fun x31 x31n x31c =>
  (0 : Int) ≤ s13 ∧
  s13 < ((s9n : Nat) : Int) ∧
  opnA s9 fun ad32 =>
  stC (ad32.add (Int.toNat s13 * 1)) (.slice x31 x31n x31c) w30 fun w33 =>
  N_p_r12_Disk_Crash.j20 Q s0 s1 s1n s1c s5 s5n s5c s9 s9n s9c (IntKind.wrap .i64 (s11 + 1)) s12 s13 w33)
  (N_p_r12_Disk_Crash.j20 Q s0 s1 s1n s1c s5 s5n s5c s9 s9n s9c s11 s12 s13 w1))
  (N_p_r12_Disk_Crash.j16 Q s0 s1 s1n s1c s5 s5n s5c s9 s9n s9c s11 (IntKind.wrap .i64 (s12 + 1)) w)) :
N_p_r12_Disk_Crash.j19 Q s0 s1 s1n s1c s5 s5n s5c s9 s9n s9c s11 s12 s13 w := Nd_fold K_p_r12_Disk_Crash (by kernel_rfl) h
theorem N_p_r12_Disk_Crash.j20_eq (Q : Value → World → Prop) (s0 : Option Addr) (s1 : Option Addr) (s1n : Nat) (s1c : Nat) (s5 : Option Addr) (s5n : Nat) (s5c : Nat) (s9 : Option Addr) (s9n : Nat) (s9c : Nat) (s11 : Int) (s12 : Int) (s13 : Int) (w : World) (h :
  N_p_r12_Disk_Crash.j19 Q s0 s1 s1n s1c s5 s5n s5c s9 s9n s9c s11 s12 (IntKind.wrap .i64 (s13 + 1)) w) :
N_p_r12_Disk_Crash.j20 Q s0 s1 s1n s1c s5 s5n s5c s9 s9n s9c s11 s12 s13 w := Nd_fold K_p_r12_Disk_Crash (by kernel_rfl) h
theorem N_p_r12_Disk_Crash.j28_eq (Q : Value → World → Prop) (s5 : Option Addr) (s5n : Nat) (s5c : Nat) (s9 : Option Addr) (s9n : Nat) (s9c : Nat) (s16 : Addr) (s17 : Int) (w : World) (h :
  cond (decide (s17 < ((s5n : Nat) : Int)))
  (drw w fun w1 =>
  (0 : Int) ≤ s17 ∧
  s17 < ((s5n : Nat) : Int) ∧
  opnA s5 fun ad2 =>
  (0 : Int) ≤ s17 ∧
  s17 < ((s9n : Nat) : Int) ∧
  opnA s9 fun ad3 =>
  opnS (w1.cell? ((ad2.add (Int.toNat s17 * 2)).add 0)) fun x4 =>
  opnL (w1.cell? (ad3.add (Int.toNat s17 * 1))) fun x5 x5n x5c =>
  C_p_r12_Disk_add #[.pointer (some s16), .string x4, .slice x5 x5n x5c] w1 fun v6 w7 =>
  opnT (some v6) fun x8 =>
  x8.size = 0 ∧
  N_p_r12_Disk_Crash.j28 Q s5 s5n s5c s9 s9n s9c s16 (IntKind.wrap .i64 (s17 + 1)) w7)
  (Q (.pointer (some s16)) w)) :
N_p_r12_Disk_Crash.j28 Q s5 s5n s5c s9 s9n s9c s16 s17 w := Nd_fold K_p_r12_Disk_Crash (by kernel_rfl) h
theorem C_p_r12_Disk_Crash_eq (Q : Value → World → Prop) (a0 : Option Addr) (a1 : Option Addr) (a1n : Nat) (a1c : Nat) (w : World) (h :
  opnA a0 fun ad1 =>
  stC (ad1.add 1) (.bool true) w fun w2 =>
  opnA a0 fun ad3 =>
  opnL (w2.cell? (ad3.add 7)) fun x4 x4n x4c =>
  C_r12_choice #[.slice a1 a1n a1c, .int .i64 0] w2 fun v5 w6 =>
  opnI .i64 (some v5) fun x7 =>
  opnA a0 fun ad8 =>
  opnL (w6.cell? (ad8.add 9)) fun x9 x9n x9c =>
  C_r12_modulo #[.int .i64 x7, .int .i64 (IntKind.wrap .i64 (((x9n : Nat) : Int) + 1))] w6 fun v10 w11 =>
  opnI .i64 (some v10) fun x12 =>
  N_p_r12_Disk_Crash.j6 Q a0 a1 a1n a1c x4 x4n x4c x12 0 w11) :
C_p_r12_Disk_Crash #[.pointer a0, .slice a1 a1n a1c] w Q := C_fold K_p_r12_Disk_Crash (by kernel_rfl) h
noncomputable def B_p_disk_Disk_Read : Code := match Tryz.f38.body with | some c => c | _ => .skip
noncomputable def X_p_disk_Disk_Read : Cx := { P := PP, fn := 38, N := 27, tab := tab, results := [.tmp 4, .tmp 5], iter := fun _ => (.none, .none), dyn := fun _ => false, live := fun _ => none }
theorem K_p_disk_Disk_Read : OkF X_p_disk_Disk_Read B_p_disk_Disk_Read Tryz.f38 := ⟨⟨tab_ok, mix_ok⟩, Tryz.func38, by kernel_rfl, by kernel_rfl, by kernel_rfl, by kernel_rfl⟩
theorem C_p_disk_Disk_Read_eq (Q : Value → World → Prop) (a0 : Option Addr) (a1 : ByteArray) (w : World) (h :
  opnA a0 fun ad1 =>
  opnB (w.cell? (ad1.add 8)) fun x2 =>
  cond x2
  (Q (.tuple #[.slice none 0 0, .int .i64 125]) w)
  (C_p_disk_Disk_there #[.pointer a0, .string a1] w fun v3 w4 =>
  opnI .i64 (some v3) fun x5 =>
  cond (x5 != 0)
  (Q (.tuple #[.slice none 0 0, .int .i64 x5]) w4)
  (opnA a0 fun ad6 =>
  opnM (w4.cell? (ad6.add 1)) fun x7 =>
  semR PP (Instr.lookup 80 (.map x7) (.string a1) false) w4 fun x8 =>
  opnP (some x8) fun x9 =>
  opnA x9 fun ad10 =>
  opnL (w4.cell? (ad10.add 0)) fun x11 x11n x11c =>
  C_slices_Clone_byte_byte #[.slice x11 x11n x11c] w4 fun v12 w13 =>
  opnL (some v12) fun x14 x14n x14c =>
  Q (.tuple #[.slice x14 x14n x14c, .int .i64 0]) w13))) :
C_p_disk_Disk_Read #[.pointer a0, .string a1] w Q := C_fold K_p_disk_Disk_Read (by kernel_rfl) h
noncomputable def B_l12_spare : Code := match Tryz.f40.body with | some c => c | _ => .skip
noncomputable def X_l12_spare : Cx := { P := PP, fn := 40, N := 15, tab := tab, results := [.tmp 2], iter := fun _ => (.none, .none), dyn := fun _ => false, live := fun r => cond (Nat.beq r 3) (some [3, 4]) (none) }
theorem K_l12_spare : OkF X_l12_spare B_l12_spare Tryz.f40 := ⟨⟨tab_ok, mix_ok⟩, Tryz.func40, by kernel_rfl, by kernel_rfl, by kernel_rfl, by kernel_rfl⟩
noncomputable def N_l12_spare.j3 (Q : Value → World → Prop) (s3 : Option Addr) (s3n : Nat) (s3c : Nat) (s4 : Int) (w : World) : Prop := Nd X_l12_spare Q [(3, 3, .slice s3 s3n s3c), (4, 4, .int .i64 s4)] [.code (B_l12_spare.r.r.l.r.l.l.l.l), .code (B_l12_spare.r.r.l.r.l.l.l.r), .code (B_l12_spare.r.r.l.r.l.l.r), .inLoop (B_l12_spare.r.r.l.r.l.l), .inBlock 0, .code (B_l12_spare.r.r.r)] w
theorem N_l12_spare.j3_eq (Q : Value → World → Prop) (s3 : Option Addr) (s3n : Nat) (s3c : Nat) (s4 : Int) (w : World) (h :
  cond (decide (s4 < 300))
  (alC #[.int .u8 9] 5 w fun p1 w2 =>
  sem PP (Builtin.append_ #[23, 23] 23 #[.slice s3 s3n s3c, .slice (some p1) 1 1]) w2 fun v3 w4 =>
  opnL (some v3) fun x5 x5n x5c =>
  N_l12_spare.j3 Q x5 x5n x5c (IntKind.wrap .i64 (s4 + 1)) w4)
  (Q (.slice s3 s3n s3c) w)) :
N_l12_spare.j3 Q s3 s3n s3c s4 w := Nd_fold K_l12_spare (by kernel_rfl) h
noncomputable def B_l12_spared : Code := match Tryz.f41.body with | some c => c | _ => .skip
noncomputable def X_l12_spared : Cx := { P := PP, fn := 41, N := 26, tab := tab, results := [.tmp 4], iter := fun _ => (.none, .none), dyn := fun _ => false, live := fun r => cond (Nat.beq r 2) (some [0, 1, 5]) (none) }
theorem K_l12_spared : OkF X_l12_spared B_l12_spared Tryz.f41 := ⟨⟨tab_ok, mix_ok⟩, Tryz.func41, by kernel_rfl, by kernel_rfl, by kernel_rfl, by kernel_rfl⟩
noncomputable def N_l12_spared.j2 (Q : Value → World → Prop) (s0 : Option Addr) (s0n : Nat) (s0c : Nat) (s1 : ByteArray) (s5 : Int) (w : World) : Prop := Nd X_l12_spared Q [(0, 0, .slice s0 s0n s0c), (1, 1, .string s1), (5, 5, .int .i64 s5)] [.code (B_l12_spared.r.l.r.l.l.l.l), .code (B_l12_spared.r.l.r.l.l.l.r), .code (B_l12_spared.r.l.r.l.l.r), .inLoop (B_l12_spared.r.l.r.l.l), .inBlock 0, .code (B_l12_spared.r.r)] w
theorem N_l12_spared.j2_eq (Q : Value → World → Prop) (s0 : Option Addr) (s0n : Nat) (s0c : Nat) (s1 : ByteArray) (s5 : Int) (w : World) (h :
  cond (decide (s5 < ((s0n : Nat) : Int)))
  ((0 : Int) ≤ s5 ∧
  s5 < ((s0n : Nat) : Int) ∧
  opnA s0 fun ad1 =>
  opnI .u8 (w.cell? (ad1.add (Int.toNat s5 * 1))) fun x2 =>
  cond (x2 != 9)
  (Q (.bool false) w)
  (N_l12_spared.j2 Q s0 s0n s0c s1 (IntKind.wrap .i64 (s5 + 1)) w))
  ((0 : Int) ≤ ((s1.size : Nat) : Int) ∧
  ((s1.size : Nat) : Int) ≤ ((s0c : Nat) : Int) ∧
  semR PP (convert 23 9 (.slice (slA s0 0 s0c 1) ((Int.toNat ((s1.size : Nat) : Int)) - 0) (s0c - 0))) w fun x3 =>
  opnS (some x3) fun x4 =>
  Q (.bool (x4.toList == s1.toList)) w)) :
N_l12_spared.j2 Q s0 s0n s0c s1 s5 w := Nd_fold K_l12_spared (by kernel_rfl) h
noncomputable def B_p_disk_Disk_act : Code := match Tryz.f42.body with | some c => c | _ => .skip
noncomputable def X_p_disk_Disk_act : Cx := { P := PP, fn := 42, N := 60, tab := tab, results := [.tmp 6], iter := fun _ => (.none, .none), dyn := fun r => cond (Nat.beq r 37) true (cond (Nat.beq r 54) true (false)), live := fun r => cond (Nat.beq r 7) (some [0, 1, 2, 7]) (cond (Nat.beq r 8) (some [0, 2, 7, 8]) (cond (Nat.beq r 9) (some [8]) (cond (Nat.beq r 10) (some [0, 2, 7]) (cond (Nat.beq r 11) (some [0]) (cond (Nat.beq r 12) (some [0, 2, 7]) (cond (Nat.beq r 13) (some [0, 7]) (cond (Nat.beq r 14) (some [0]) (cond (Nat.beq r 15) (some []) (cond (Nat.beq r 16) (some []) (none)))))))))) }
theorem K_p_disk_Disk_act : OkF X_p_disk_Disk_act B_p_disk_Disk_act Tryz.f42 := ⟨⟨tab_ok, mix_ok⟩, Tryz.func42, by kernel_rfl, by kernel_rfl, by kernel_rfl, by kernel_rfl⟩
noncomputable def N_p_disk_Disk_act.j7 (Q : Value → World → Prop) (s0 : Option Addr) (s1 : Value) (s2 : Value) (s7 : Bool) (w : World) : Prop := Nd X_p_disk_Disk_act Q [(0, 0, .pointer s0), (1, 1, s1), (2, 2, s2), (7, 7, .bool s7)] [.code (B_p_disk_Disk_act.r.r.r.r.r.l.l), .code (B_p_disk_Disk_act.r.r.r.r.r.l.r), .code (B_p_disk_Disk_act.r.r.r.r.r.r)] w
noncomputable def N_p_disk_Disk_act.j8 (Q : Value → World → Prop) (s0 : Option Addr) (s2 : Value) (s7 : Bool) (s8 : Int) (w : World) : Prop := Nd X_p_disk_Disk_act Q [(0, 0, .pointer s0), (2, 2, s2), (7, 7, .bool s7), (8, 8, .int .i64 s8)] [.code (B_p_disk_Disk_act.r.r.r.r.r.l.r.l), .code (B_p_disk_Disk_act.r.r.r.r.r.l.r.r), .code (B_p_disk_Disk_act.r.r.r.r.r.r)] w
noncomputable def N_p_disk_Disk_act.j9 (Q : Value → World → Prop) (s8 : Int) (w : World) : Prop := Nd X_p_disk_Disk_act Q [(8, 8, .int .i64 s8)] [.code (B_p_disk_Disk_act.r.r.r.r.r.l.r.r.l.l), .code (B_p_disk_Disk_act.r.r.r.r.r.l.r.r.l.r), .code (B_p_disk_Disk_act.r.r.r.r.r.r)] w
noncomputable def N_p_disk_Disk_act.j10 (Q : Value → World → Prop) (s0 : Option Addr) (s2 : Value) (s7 : Bool) (w : World) : Prop := Nd X_p_disk_Disk_act Q [(0, 0, .pointer s0), (2, 2, s2), (7, 7, .bool s7)] [.code (B_p_disk_Disk_act.r.r.r.r.r.r.l.l), .code (B_p_disk_Disk_act.r.r.r.r.r.r.l.r), .code (B_p_disk_Disk_act.r.r.r.r.r.r.r)] w
noncomputable def N_p_disk_Disk_act.j11 (Q : Value → World → Prop) (s0 : Option Addr) (w : World) : Prop := Nd X_p_disk_Disk_act Q [(0, 0, .pointer s0)] [.code (B_p_disk_Disk_act.r.r.r.r.r.r.l.r.l.l), .code (B_p_disk_Disk_act.r.r.r.r.r.r.l.r.l.r), .code (B_p_disk_Disk_act.r.r.r.r.r.r.r)] w
noncomputable def N_p_disk_Disk_act.j12 (Q : Value → World → Prop) (s0 : Option Addr) (s2 : Value) (s7 : Bool) (w : World) : Prop := Nd X_p_disk_Disk_act Q [(0, 0, .pointer s0), (2, 2, s2), (7, 7, .bool s7)] [.code (B_p_disk_Disk_act.r.r.r.r.r.r.r.l), .code (B_p_disk_Disk_act.r.r.r.r.r.r.r.r)] w
noncomputable def N_p_disk_Disk_act.j13 (Q : Value → World → Prop) (s0 : Option Addr) (s7 : Bool) (w : World) : Prop := Nd X_p_disk_Disk_act Q [(0, 0, .pointer s0), (7, 7, .bool s7)] [.code (B_p_disk_Disk_act.r.r.r.r.r.r.r.r.l.l), .code (B_p_disk_Disk_act.r.r.r.r.r.r.r.r.l.r), .code (B_p_disk_Disk_act.r.r.r.r.r.r.r.r.r)] w
noncomputable def N_p_disk_Disk_act.j14 (Q : Value → World → Prop) (s0 : Option Addr) (w : World) : Prop := Nd X_p_disk_Disk_act Q [(0, 0, .pointer s0)] [.code (B_p_disk_Disk_act.r.r.r.r.r.r.r.r.l.r.l.l), .code (B_p_disk_Disk_act.r.r.r.r.r.r.r.r.l.r.l.r), .code (B_p_disk_Disk_act.r.r.r.r.r.r.r.r.r)] w
noncomputable def N_p_disk_Disk_act.j15 (Q : Value → World → Prop) (w : World) : Prop := Nd X_p_disk_Disk_act Q [] [.code (B_p_disk_Disk_act.r.r.r.r.r.r.r.r.l.r.l.r.l), .code (B_p_disk_Disk_act.r.r.r.r.r.r.r.r.l.r.l.r.r), .code (B_p_disk_Disk_act.r.r.r.r.r.r.r.r.r)] w
noncomputable def N_p_disk_Disk_act.j16 (Q : Value → World → Prop) (w : World) : Prop := Nd X_p_disk_Disk_act Q [] [.code (B_p_disk_Disk_act.r.r.r.r.r.r.r.r.r.l), .code (B_p_disk_Disk_act.r.r.r.r.r.r.r.r.r.r)] w
theorem N_p_disk_Disk_act.j7_eq (Q : Value → World → Prop) (s0 : Option Addr) (s1 : Value) (s2 : Value) (s7 : Bool) (w : World) (h :
  invk PP s1 #[] w fun v1 w2 =>
  opnI .i64 (some v1) fun x3 =>
  N_p_disk_Disk_act.j8 Q s0 s2 s7 x3 w2) :
N_p_disk_Disk_act.j7 Q s0 s1 s2 s7 w := Nd_fold K_p_disk_Disk_act (by kernel_rfl) h
theorem N_p_disk_Disk_act.j8_eq (Q : Value → World → Prop) (s0 : Option Addr) (s2 : Value) (s7 : Bool) (s8 : Int) (w : World) (h :
  cond (s8 != 0)
  (N_p_disk_Disk_act.j9 Q s8 w)
  (N_p_disk_Disk_act.j10 Q s0 s2 s7 w)) :
N_p_disk_Disk_act.j8 Q s0 s2 s7 s8 w := Nd_fold K_p_disk_Disk_act (by kernel_rfl) h
theorem N_p_disk_Disk_act.j9_eq (Q : Value → World → Prop) (s8 : Int) (w : World) (h :
  Q (.int .i64 s8) w) :
N_p_disk_Disk_act.j9 Q s8 w := Nd_fold K_p_disk_Disk_act (by kernel_rfl) h
theorem N_p_disk_Disk_act.j10_eq (Q : Value → World → Prop) (s0 : Option Addr) (s2 : Value) (s7 : Bool) (w : World) (h :
  cond s7
  (opnA s0 fun ad1 =>
  opnI .i64 (w.cell? (ad1.add 7)) fun x2 =>
  cond (x2 != 125)
  (N_p_disk_Disk_act.j11 Q s0 w)
  (N_p_disk_Disk_act.j12 Q s0 s2 true w))
  (N_p_disk_Disk_act.j12 Q s0 s2 false w)) :
N_p_disk_Disk_act.j10 Q s0 s2 s7 w := Nd_fold K_p_disk_Disk_act (by kernel_rfl) h
theorem N_p_disk_Disk_act.j11_eq (Q : Value → World → Prop) (s0 : Option Addr) (w : World) (h :
  opnA s0 fun ad1 =>
  opnI .i64 (w.cell? (ad1.add 7)) fun x2 =>
  Q (.int .i64 x2) w) :
N_p_disk_Disk_act.j11 Q s0 w := Nd_fold K_p_disk_Disk_act (by kernel_rfl) h
theorem N_p_disk_Disk_act.j12_eq (Q : Value → World → Prop) (s0 : Option Addr) (s2 : Value) (s7 : Bool) (w : World) (h :
  invk PP s2 #[] w fun v1 w2 =>
  opnT (some v1) fun x3 =>
  x3.size = 0 ∧
  N_p_disk_Disk_act.j13 Q s0 s7 w2) :
N_p_disk_Disk_act.j12 Q s0 s2 s7 w := Nd_fold K_p_disk_Disk_act (by kernel_rfl) h
theorem N_p_disk_Disk_act.j13_eq (Q : Value → World → Prop) (s0 : Option Addr) (s7 : Bool) (w : World) (h :
  cond s7
  (N_p_disk_Disk_act.j14 Q s0 w)
  (N_p_disk_Disk_act.j16 Q w)) :
N_p_disk_Disk_act.j13 Q s0 s7 w := Nd_fold K_p_disk_Disk_act (by kernel_rfl) h
theorem N_p_disk_Disk_act.j14_eq (Q : Value → World → Prop) (s0 : Option Addr) (w : World) (h :
  opnA s0 fun ad1 =>
  stC (ad1.add 8) (.bool true) w fun w2 =>
  N_p_disk_Disk_act.j15 Q w2) :
N_p_disk_Disk_act.j14 Q s0 w := Nd_fold K_p_disk_Disk_act (by kernel_rfl) h
theorem N_p_disk_Disk_act.j15_eq (Q : Value → World → Prop) (w : World) (h :
  Q (.int .i64 125) w) :
N_p_disk_Disk_act.j15 Q w := Nd_fold K_p_disk_Disk_act (by kernel_rfl) h
theorem N_p_disk_Disk_act.j16_eq (Q : Value → World → Prop) (w : World) (h :
  Q (.int .i64 0) w) :
N_p_disk_Disk_act.j16 Q w := Nd_fold K_p_disk_Disk_act (by kernel_rfl) h
theorem C_p_disk_Disk_act_eq (Q : Value → World → Prop) (a0 : Option Addr) (a1 : Value) (a2 : Value) (w : World) (h :
  opnA a0 fun ad1 =>
  opnB (w.cell? (ad1.add 8)) fun x2 =>
  cond x2
  (Q (.int .i64 125) w)
  (opnA a0 fun ad3 =>
  opnI .i64 (w.cell? (ad3.add 5)) fun x4 =>
  opnA a0 fun ad5 =>
  stC (ad5.add 5) (.int .i64 (IntKind.wrap .i64 (x4 + 1))) w fun w6 =>
  opnA a0 fun ad7 =>
  opnI .i64 (w6.cell? (ad7.add 6)) fun x8 =>
  opnA a0 fun ad9 =>
  opnI .i64 (w6.cell? (ad9.add 6)) fun x10 =>
  cond (decide (x10 > 0))
  (opnA a0 fun ad11 =>
  opnI .i64 (w6.cell? (ad11.add 6)) fun x12 =>
  opnA a0 fun ad13 =>
  stC (ad13.add 6) (.int .i64 (IntKind.wrap .i64 (x12 - 1))) w6 fun w14 =>
  N_p_disk_Disk_act.j7 Q a0 a1 a2 (x8 == 1) w14)
  (N_p_disk_Disk_act.j7 Q a0 a1 a2 (x8 == 1) w6))) :
C_p_disk_Disk_act #[.pointer a0, a1, a2] w Q := C_fold K_p_disk_Disk_act (by kernel_rfl) h
noncomputable def B_p_disk_Disk_Create_S1 : Code := match Tryz.f43.body with | some c => c | _ => .skip
noncomputable def X_p_disk_Disk_Create_S1 : Cx := { P := PP, fn := 43, N := 5, tab := tab, results := [.tmp 1], iter := fun _ => (.none, .none), dyn := fun _ => false, live := fun _ => none }
theorem K_p_disk_Disk_Create_S1 : OkF X_p_disk_Disk_Create_S1 B_p_disk_Disk_Create_S1 Tryz.f43 := ⟨⟨tab_ok, mix_ok⟩, Tryz.func43, by kernel_rfl, by kernel_rfl, by kernel_rfl, by kernel_rfl⟩
theorem C_p_disk_Disk_Create_S1_eq (Q : Value → World → Prop) (f0 : Addr) (w : World) (h :
  opnS (w.cell? f0) fun x1 =>
  C_disk_named #[.string x1] w fun v2 w3 =>
  opnB (some v2) fun x4 =>
  cond (!x4)
  (Q (.int .i64 120) w3)
  (Q (.int .i64 0) w3)) :
C_p_disk_Disk_Create_S1 #[.pointer (some f0)] w Q := C_fold K_p_disk_Disk_Create_S1 (by kernel_rfl) h
noncomputable def B_disk_named : Code := match Tryz.f44.body with | some c => c | _ => .skip
noncomputable def X_disk_named : Cx := { P := PP, fn := 44, N := 48, tab := tab, results := [.tmp 2], iter := fun _ => (.none, .none), dyn := fun _ => false, live := fun r => cond (Nat.beq r 2) (some []) (cond (Nat.beq r 4) (some [0, 15, 16]) (cond (Nat.beq r 7) (some []) (cond (Nat.beq r 10) (some [31, 32, 33]) (cond (Nat.beq r 13) (some []) (none))))) }
theorem K_disk_named : OkF X_disk_named B_disk_named Tryz.f44 := ⟨⟨tab_ok, mix_ok⟩, Tryz.func44, by kernel_rfl, by kernel_rfl, by kernel_rfl, by kernel_rfl⟩
noncomputable def N_disk_named.j2 (Q : Value → World → Prop) (w : World) : Prop := Nd X_disk_named Q [] [.code (B_disk_named.r.l.r.l.l), .code (B_disk_named.r.l.r.l.r), .code (B_disk_named.r.r)] w
noncomputable def N_disk_named.j4 (Q : Value → World → Prop) (s0 : ByteArray) (s15 : Int) (s16 : Int) (w : World) : Prop := Nd X_disk_named Q [(0, 0, .string s0), (15, 15, .int .i64 s15), (16, 16, .int .i64 s16)] [.code (B_disk_named.r.r.l.r.l.l.l), .code (B_disk_named.r.r.l.r.l.l.r), .inLoop (B_disk_named.r.r.l.r.l.l), .inBlock 0, .code (B_disk_named.r.r.r)] w
noncomputable def N_disk_named.j7 (Q : Value → World → Prop) (w : World) : Prop := Nd X_disk_named Q [] [.code (B_disk_named.r.r.l.r.l.l.r.r.l.l.r.r.l.l), .code (B_disk_named.r.r.l.r.l.l.r.r.l.l.r.r.l.r), .inBlock 1, .code (B_disk_named.r.r.l.r.l.l.r.r.r), .inLoop (B_disk_named.r.r.l.r.l.l), .inBlock 0, .code (B_disk_named.r.r.r)] w
noncomputable def N_disk_named.j10 (Q : Value → World → Prop) (s31 : Option Addr) (s31n : Nat) (s31c : Nat) (s32 : Int) (s33 : Int) (w : World) : Prop := Nd X_disk_named Q [(31, 31, .slice s31 s31n s31c), (32, 32, .int .i64 s32), (33, 33, .int .i64 s33)] [.code (B_disk_named.r.r.r.l.r.l.l.l), .code (B_disk_named.r.r.r.l.r.l.l.r), .inLoop (B_disk_named.r.r.r.l.r.l.l), .inBlock 2, .code (B_disk_named.r.r.r.r)] w
noncomputable def N_disk_named.j13 (Q : Value → World → Prop) (w : World) : Prop := Nd X_disk_named Q [] [.code (B_disk_named.r.r.r.l.r.l.l.r.r.l.l.r.r.l.l), .code (B_disk_named.r.r.r.l.r.l.l.r.r.l.l.r.r.l.r), .inBlock 3, .code (B_disk_named.r.r.r.l.r.l.l.r.r.r), .inLoop (B_disk_named.r.r.r.l.r.l.l), .inBlock 2, .code (B_disk_named.r.r.r.r)] w
theorem N_disk_named.j2_eq (Q : Value → World → Prop) (w : World) (h :
  Q (.bool false) w) :
N_disk_named.j2 Q w := Nd_fold K_disk_named (by kernel_rfl) h
theorem N_disk_named.j4_eq (Q : Value → World → Prop) (s0 : ByteArray) (s15 : Int) (s16 : Int) (w : World) (h :
  cond (decide (s16 < s15))
  ((0 : Int) ≤ s16 ∧
  s16 < ((s0.size : Nat) : Int) ∧
  cond (decide ((bt s0 (Int.toNat s16)) < 33))
  (N_disk_named.j7 Q w)
  ((0 : Int) ≤ s16 ∧
  s16 < ((s0.size : Nat) : Int) ∧
  cond (decide ((bt s0 (Int.toNat s16)) > 126))
  (N_disk_named.j7 Q w)
  (N_disk_named.j4 Q s0 s15 (IntKind.wrap .i64 (s16 + 1)) w)))
  (C_strings_Split #[.string s0, .string (⟨#[47]⟩ : ByteArray)] w fun v1 w2 =>
  opnL (some v1) fun x3 x3n x3c =>
  N_disk_named.j10 Q x3 x3n x3c ((x3n : Nat) : Int) 0 w2)) :
N_disk_named.j4 Q s0 s15 s16 w := Nd_fold K_disk_named (by kernel_rfl) h
theorem N_disk_named.j7_eq (Q : Value → World → Prop) (w : World) (h :
  Q (.bool false) w) :
N_disk_named.j7 Q w := Nd_fold K_disk_named (by kernel_rfl) h
theorem N_disk_named.j10_eq (Q : Value → World → Prop) (s31 : Option Addr) (s31n : Nat) (s31c : Nat) (s32 : Int) (s33 : Int) (w : World) (h :
  cond (decide (s33 < s32))
  ((0 : Int) ≤ s33 ∧
  s33 < ((s31n : Nat) : Int) ∧
  opnA s31 fun ad1 =>
  opnS (w.cell? (ad1.add (Int.toNat s33 * 1))) fun x2 =>
  cond (x2.toList == (⟨#[]⟩ : ByteArray).toList)
  (N_disk_named.j13 Q w)
  (cond (x2.toList == (⟨#[46]⟩ : ByteArray).toList)
  (N_disk_named.j13 Q w)
  (cond (x2.toList == (⟨#[46, 46]⟩ : ByteArray).toList)
  (N_disk_named.j13 Q w)
  (N_disk_named.j10 Q s31 s31n s31c s32 (IntKind.wrap .i64 (s33 + 1)) w))))
  (Q (.bool true) w)) :
N_disk_named.j10 Q s31 s31n s31c s32 s33 w := Nd_fold K_disk_named (by kernel_rfl) h
theorem N_disk_named.j13_eq (Q : Value → World → Prop) (w : World) (h :
  Q (.bool false) w) :
N_disk_named.j13 Q w := Nd_fold K_disk_named (by kernel_rfl) h
theorem C_disk_named_eq (Q : Value → World → Prop) (a0 : ByteArray) (w : World) (h :
  cond (decide (((a0.size : Nat) : Int) < 1))
  (N_disk_named.j2 Q w)
  (cond (decide (((a0.size : Nat) : Int) > 255))
  (N_disk_named.j2 Q w)
  (N_disk_named.j4 Q a0 ((a0.size : Nat) : Int) 0 w))) :
C_disk_named #[.string a0] w Q := C_fold K_disk_named (by kernel_rfl) h
noncomputable def B_p_disk_Disk_Create_S2 : Code := match Tryz.f45.body with | some c => c | _ => .skip
noncomputable def X_p_disk_Disk_Create_S2 : Cx := { P := PP, fn := 45, N := 8, tab := tab, results := [], iter := fun _ => (.none, .none), dyn := fun _ => false, live := fun _ => none }
theorem K_p_disk_Disk_Create_S2 : OkF X_p_disk_Disk_Create_S2 B_p_disk_Disk_Create_S2 Tryz.f45 := ⟨⟨tab_ok, mix_ok⟩, Tryz.func45, by kernel_rfl, by kernel_rfl, by kernel_rfl, by kernel_rfl⟩
theorem C_p_disk_Disk_Create_S2_eq (Q : Value → World → Prop) (f0 : Addr) (f1 : Addr) (w : World) (h :
  alC #[.slice none 0 0, .slice none 0 0, .slice none 0 0] 89 w fun p1 w2 =>
  alC #[.pointer none] 86 w2 fun p3 w4 =>
  stC p3 (.pointer (some p1)) w4 fun w5 =>
  opnP (w5.cell? f0) fun x6 =>
  C_p_disk_Disk_rename #[.pointer x6, .func (.func 47) #[] #[.pointer (some p3), .pointer (some f1)]] w5 fun v7 w8 =>
  opnT (some v7) fun x9 =>
  x9.size = 0 ∧
  Q (.tuple #[]) w8) :
C_p_disk_Disk_Create_S2 #[.pointer (some f0), .pointer (some f1)] w Q := C_fold K_p_disk_Disk_Create_S2 (by kernel_rfl) h
noncomputable def B_p_disk_Disk_rename : Code := match Tryz.f46.body with | some c => c | _ => .skip
noncomputable def X_p_disk_Disk_rename : Cx := { P := PP, fn := 46, N := 21, tab := tab, results := [], iter := fun _ => (.none, .none), dyn := fun r => cond (Nat.beq r 15) true (false), live := fun _ => none }
theorem K_p_disk_Disk_rename : OkF X_p_disk_Disk_rename B_p_disk_Disk_rename Tryz.f46 := ⟨⟨tab_ok, mix_ok⟩, Tryz.func46, by kernel_rfl, by kernel_rfl, by kernel_rfl, by kernel_rfl⟩
theorem C_p_disk_Disk_rename_eq (Q : Value → World → Prop) (a0 : Option Addr) (a1 : Value) (w : World) (h :
  opnA a0 fun ad1 =>
  opnL (w.cell? (ad1.add 3)) fun x2 x2n x2c =>
  semP PP (Instr.build 101 #[(0, a1)]) fun v3 =>
  opnG (some v3) fun x5 =>
  x5.size = 1 ∧
  opnV (x5[0]?) fun x6 =>
  alC #[x6] 101 w fun p7 w8 =>
  sem PP (Builtin.append_ #[81, 81] 81 #[.slice x2 x2n x2c, .slice (some p7) 1 1]) w8 fun v9 w10 =>
  opnL (some v9) fun x11 x11n x11c =>
  opnA a0 fun ad12 =>
  stC (ad12.add 3) (.slice x11 x11n x11c) w10 fun w13 =>
  opnA a0 fun ad14 =>
  opnM (w13.cell? (ad14.add 1)) fun x15 =>
  invk PP a1 #[.map x15] w13 fun v16 w17 =>
  opnT (some v16) fun x18 =>
  x18.size = 0 ∧
  Q (.tuple #[]) w17) :
C_p_disk_Disk_rename #[.pointer a0, a1] w Q := C_fold K_p_disk_Disk_rename (by kernel_rfl) h
noncomputable def B_p_disk_Disk_Create_S2_S1 : Code := match Tryz.f47.body with | some c => c | _ => .skip
noncomputable def X_p_disk_Disk_Create_S2_S1 : Cx := { P := PP, fn := 47, N := 7, tab := tab, results := [], iter := fun _ => (.none, .none), dyn := fun _ => false, live := fun _ => none }
theorem K_p_disk_Disk_Create_S2_S1 : OkF X_p_disk_Disk_Create_S2_S1 B_p_disk_Disk_Create_S2_S1 Tryz.f47 := ⟨⟨tab_ok, mix_ok⟩, Tryz.func47, by kernel_rfl, by kernel_rfl, by kernel_rfl, by kernel_rfl⟩
theorem C_p_disk_Disk_Create_S2_S1_eq (Q : Value → World → Prop) (a0 : Option Nat) (f0 : Addr) (f1 : Addr) (w : World) (h :
  opnS (w.cell? f1) fun x1 =>
  opnP (w.cell? f0) fun x2 =>
  semU PP (Instr.mapUpdate 80 (.map a0) (.string x1) (.pointer x2)) w fun w3 =>
  Q (.tuple #[]) w3) :
C_p_disk_Disk_Create_S2_S1 #[.map a0, .pointer (some f0), .pointer (some f1)] w Q := C_fold K_p_disk_Disk_Create_S2_S1 (by kernel_rfl) h
noncomputable def B_p_disk_Disk_Write_S1 : Code := match Tryz.f48.body with | some c => c | _ => .skip
noncomputable def X_p_disk_Disk_Write_S1 : Cx := { P := PP, fn := 48, N := 52, tab := tab, results := [.tmp 4], iter := fun _ => (.none, .none), dyn := fun _ => false, live := fun r => cond (Nat.beq r 5) (some []) (cond (Nat.beq r 9) (some []) (none)) }
theorem K_p_disk_Disk_Write_S1 : OkF X_p_disk_Disk_Write_S1 B_p_disk_Disk_Write_S1 Tryz.f48 := ⟨⟨tab_ok, mix_ok⟩, Tryz.func48, by kernel_rfl, by kernel_rfl, by kernel_rfl, by kernel_rfl⟩
noncomputable def N_p_disk_Disk_Write_S1.j5 (Q : Value → World → Prop) (w : World) : Prop := Nd X_p_disk_Disk_Write_S1 Q [] [.code (B_p_disk_Disk_Write_S1.r.r.l.r.l.l), .code (B_p_disk_Disk_Write_S1.r.r.l.r.l.r), .code (B_p_disk_Disk_Write_S1.r.r.r)] w
noncomputable def N_p_disk_Disk_Write_S1.j9 (Q : Value → World → Prop) (w : World) : Prop := Nd X_p_disk_Disk_Write_S1 Q [] [.code (B_p_disk_Disk_Write_S1.r.r.r.r.r.l), .code (B_p_disk_Disk_Write_S1.r.r.r.r.r.r)] w
theorem N_p_disk_Disk_Write_S1.j5_eq (Q : Value → World → Prop) (w : World) (h :
  Q (.int .i64 1) w) :
N_p_disk_Disk_Write_S1.j5 Q w := Nd_fold K_p_disk_Disk_Write_S1 (by kernel_rfl) h
theorem N_p_disk_Disk_Write_S1.j9_eq (Q : Value → World → Prop) (w : World) (h :
  Q (.int .i64 0) w) :
N_p_disk_Disk_Write_S1.j9 Q w := Nd_fold K_p_disk_Disk_Write_S1 (by kernel_rfl) h
theorem C_p_disk_Disk_Write_S1_eq (Q : Value → World → Prop) (f0 : Addr) (f1 : Addr) (f2 : Addr) (f3 : Addr) (w : World) (h :
  opnP (w.cell? f0) fun x1 =>
  opnS (w.cell? f1) fun x2 =>
  C_p_disk_Disk_there #[.pointer x1, .string x2] w fun v3 w4 =>
  opnI .i64 (some v3) fun x5 =>
  cond (x5 != 0)
  (Q (.int .i64 x5) w4)
  (opnI .i64 (w4.cell? f2) fun x6 =>
  cond (decide (x6 < 0))
  (N_p_disk_Disk_Write_S1.j5 Q w4)
  (opnI .i64 (w4.cell? f2) fun x7 =>
  cond (decide (x7 > 1048576))
  (N_p_disk_Disk_Write_S1.j5 Q w4)
  (drw w4 fun w8 =>
  opnI .i64 (w8.cell? f2) fun x9 =>
  opnL (w8.cell? f3) fun x10 x10n x10c =>
  opnP (w8.cell? f0) fun x11 =>
  opnA x11 fun ad12 =>
  opnM (w8.cell? (ad12.add 1)) fun x13 =>
  opnS (w8.cell? f1) fun x14 =>
  semR PP (Instr.lookup 80 (.map x13) (.string x14) false) w8 fun x15 =>
  opnP (some x15) fun x16 =>
  opnA x16 fun ad17 =>
  opnL (w8.cell? (ad17.add 0)) fun x18 x18n x18c =>
  drw w8 fun w19 =>
  opnL (w19.cell? f3) fun x20 x20n x20c =>
  cond (decide (((x20n : Nat) : Int) > 0))
  (cond (decide ((IntKind.wrap .i64 ((IntKind.wrap .i64 (x9 + ((x10n : Nat) : Int))) - ((x18n : Nat) : Int))) > 0))
  (opnP (w19.cell? f0) fun x21 =>
  opnP (w19.cell? f0) fun x22 =>
  opnA x22 fun ad23 =>
  opnI .i64 (w19.cell? (ad23.add 0)) fun x24 =>
  C_p_disk_Disk_Used #[.pointer x21] w19 fun v25 w26 =>
  opnI .i64 (some v25) fun x27 =>
  (opnI .i64 (w26.cell? (ad23.add 0)) fun x28 =>
  ((.int .i64 x28) : Value) = .int .i64 x24) ∧
  (opnP (w26.cell? f0) fun x29 =>
  ((.pointer x29) : Value) = .pointer x22) ∧
  cond (decide ((IntKind.wrap .i64 (x27 + (IntKind.wrap .i64 ((IntKind.wrap .i64 (x9 + ((x10n : Nat) : Int))) - ((x18n : Nat) : Int))))) > x24))
  (Q (.int .i64 123) w26)
  (N_p_disk_Disk_Write_S1.j9 Q w26))
  (N_p_disk_Disk_Write_S1.j9 Q w19))
  (N_p_disk_Disk_Write_S1.j9 Q w19))))) :
C_p_disk_Disk_Write_S1 #[.pointer (some f0), .pointer (some f1), .pointer (some f2), .pointer (some f3)] w Q := C_fold K_p_disk_Disk_Write_S1 (by kernel_rfl) h
noncomputable def B_p_disk_Disk_there : Code := match Tryz.f49.body with | some c => c | _ => .skip
noncomputable def X_p_disk_Disk_there : Cx := { P := PP, fn := 49, N := 15, tab := tab, results := [.tmp 4], iter := fun _ => (.none, .none), dyn := fun _ => false, live := fun _ => none }
theorem K_p_disk_Disk_there : OkF X_p_disk_Disk_there B_p_disk_Disk_there Tryz.f49 := ⟨⟨tab_ok, mix_ok⟩, Tryz.func49, by kernel_rfl, by kernel_rfl, by kernel_rfl, by kernel_rfl⟩
theorem C_p_disk_Disk_there_eq (Q : Value → World → Prop) (a0 : Option Addr) (a1 : ByteArray) (w : World) (h :
  C_disk_named #[.string a1] w fun v1 w2 =>
  opnB (some v1) fun x3 =>
  cond (!x3)
  (Q (.int .i64 120) w2)
  (opnA a0 fun ad4 =>
  opnM (w2.cell? (ad4.add 1)) fun x5 =>
  semR PP (Instr.lookup 80 (.map x5) (.string a1) false) w2 fun x6 =>
  opnP (some x6) fun x7 =>
  semR PP (do eqGuard .eql 86 (.tmp 13) (.const (.pointer none)) (.pointer x7) (.pointer none); binOp .eql 86 (.pointer x7) (.pointer none)) w2 fun x8 =>
  opnB (some x8) fun x9 =>
  cond x9
  (Q (.int .i64 121) w2)
  (Q (.int .i64 0) w2))) :
C_p_disk_Disk_there #[.pointer a0, .string a1] w Q := C_fold K_p_disk_Disk_there (by kernel_rfl) h
end Go.Proofs.YtfjhhpoabdpdhaaGreatDoor
