/- ShF0, ShF1 -/
import Derived.Test.YtccjncflbbhldaaGreatDoorPkA
/-! ## ShF0 -/
set_option maxRecDepth 100000
namespace Go.Proofs.YtccjncflbbhldaaGreatDoor
open Go.Sh
/-! ### ledger/ledgerlaw10.TileAll -/
noncomputable def B_l10_TileAll : Code := match Tryz.f3.body with | some c => c | _ => .skip
noncomputable def X_l10_TileAll : Cx := { P := PP, fn := 3, N := 190, tab := tab, results := [.tmp 2], iter := fun _ => (.none, .none), dyn := fun _ => false, live := fun r => cond (Nat.beq r 5) (some [1, 3, 4, 5, 6]) (cond (Nat.beq r 11) (some [1, 3, 4, 5, 8]) (cond (Nat.beq r 21) (some []) (cond (Nat.beq r 25) (some []) (cond (Nat.beq r 28) (some [1, 4, 5, 9, 10, 15, 16, 17]) (none))))) }
theorem K_l10_TileAll : OkF X_l10_TileAll B_l10_TileAll Tryz.f3 := ⟨⟨tab_ok, mix_ok⟩, Tryz.func3, by kernel_rfl, by kernel_rfl, by kernel_rfl, by kernel_rfl⟩
noncomputable def N_l10_TileAll.j5 (Q : Value → World → Prop) (s1 : Addr) (s3 : Option Addr) (s3n : Nat) (s3c : Nat) (s4 : Option Addr) (s4n : Nat) (s4c : Nat) (s5 : Option Addr) (s5n : Nat) (s5c : Nat) (s6 : Int) (w : World) : Prop := Nd X_l10_TileAll Q [(1, 1, .pointer (some s1)), (3, 3, .slice s3 s3n s3c), (4, 4, .slice s4 s4n s4c), (5, 5, .slice s5 s5n s5c), (6, 6, .int .i64 s6)] [.code (B_l10_TileAll.r.r.r.r.l.r.l.l.l.l), .code (B_l10_TileAll.r.r.r.r.l.r.l.l.l.r), .code (B_l10_TileAll.r.r.r.r.l.r.l.l.r), .inLoop (B_l10_TileAll.r.r.r.r.l.r.l.l), .inBlock 0, .code (B_l10_TileAll.r.r.r.r.r)] w
noncomputable def N_l10_TileAll.j11 (Q : Value → World → Prop) (s1 : Addr) (s3 : Option Addr) (s3n : Nat) (s3c : Nat) (s4 : Option Addr) (s4n : Nat) (s4c : Nat) (s5 : Option Addr) (s5n : Nat) (s5c : Nat) (s8 : Int) (w : World) : Prop := Nd X_l10_TileAll Q [(1, 1, .pointer (some s1)), (3, 3, .slice s3 s3n s3c), (4, 4, .slice s4 s4n s4c), (5, 5, .slice s5 s5n s5c), (8, 8, .int .i64 s8)] [.code (B_l10_TileAll.r.r.r.r.r.l.r.l.l.l.l), .code (B_l10_TileAll.r.r.r.r.r.l.r.l.l.l.r), .code (B_l10_TileAll.r.r.r.r.r.l.r.l.l.r), .inLoop (B_l10_TileAll.r.r.r.r.r.l.r.l.l), .inBlock 2, .code (B_l10_TileAll.r.r.r.r.r.r)] w
noncomputable def N_l10_TileAll.j21 (Q : Value → World → Prop) (w : World) : Prop := Nd X_l10_TileAll Q [] [.code (B_l10_TileAll.r.r.r.r.r.r.r.r.r.r.r.r.l.r.l.l), .code (B_l10_TileAll.r.r.r.r.r.r.r.r.r.r.r.r.l.r.l.r), .code (B_l10_TileAll.r.r.r.r.r.r.r.r.r.r.r.r.r)] w
noncomputable def N_l10_TileAll.j25 (Q : Value → World → Prop) (w : World) : Prop := Nd X_l10_TileAll Q [] [.code (B_l10_TileAll.r.r.r.r.r.r.r.r.r.r.r.r.r.r.r.l.r.l.l), .code (B_l10_TileAll.r.r.r.r.r.r.r.r.r.r.r.r.r.r.r.l.r.l.r), .code (B_l10_TileAll.r.r.r.r.r.r.r.r.r.r.r.r.r.r.r.r)] w
noncomputable def N_l10_TileAll.j28 (Q : Value → World → Prop) (s1 : Addr) (s4 : Option Addr) (s4n : Nat) (s4c : Nat) (s5 : Option Addr) (s5n : Nat) (s5c : Nat) (s9 : Option Addr) (s9n : Nat) (s9c : Nat) (s10 : Option Addr) (s10n : Nat) (s10c : Nat) (s15 : Option Addr) (s15n : Nat) (s15c : Nat) (s16 : Option Addr) (s16n : Nat) (s16c : Nat) (s17 : Int) (w : World) : Prop := Nd X_l10_TileAll Q [(1, 1, .pointer (some s1)), (4, 4, .slice s4 s4n s4c), (5, 5, .slice s5 s5n s5c), (9, 9, .slice s9 s9n s9c), (10, 10, .slice s10 s10n s10c), (15, 15, .slice s15 s15n s15c), (16, 16, .slice s16 s16n s16c), (17, 17, .int .i64 s17)] [.code (B_l10_TileAll.r.r.r.r.r.r.r.r.r.r.r.r.r.r.r.r.r.l.r.l.l.l.l), .code (B_l10_TileAll.r.r.r.r.r.r.r.r.r.r.r.r.r.r.r.r.r.l.r.l.l.l.r), .code (B_l10_TileAll.r.r.r.r.r.r.r.r.r.r.r.r.r.r.r.r.r.l.r.l.l.r), .inLoop (B_l10_TileAll.r.r.r.r.r.r.r.r.r.r.r.r.r.r.r.r.r.l.r.l.l), .inBlock 4, .code (B_l10_TileAll.r.r.r.r.r.r.r.r.r.r.r.r.r.r.r.r.r.r)] w
theorem N_l10_TileAll.j5_eq (Q : Value → World → Prop) (s1 : Addr) (s3 : Option Addr) (s3n : Nat) (s3c : Nat) (s4 : Option Addr) (s4n : Nat) (s4c : Nat) (s5 : Option Addr) (s5n : Nat) (s5c : Nat) (s6 : Int) (w : World) (h :
  opnL (w.cell? (s1.add 36)) fun x1 x1n x1c =>
  cond (decide (s6 < ((x1n : Nat) : Int)))
  (opnL (w.cell? (s1.add 36)) fun x2 x2n x2c =>
  (0 : Int) ≤ s6 ∧
  s6 < ((x2n : Nat) : Int) ∧
  opnA x2 fun ad3 =>
  opnL (w.cell? (ad3.add (Int.toNat s6 * 1))) fun x4 x4n x4c =>
  C_l10_lent #[.slice x4 x4n x4c] w fun v5 w6 =>
  opnL (some v5) fun x7 x7n x7c =>
  alC #[.slice x7 x7n x7c] 29 w6 fun p8 w9 =>
  sem PP (Builtin.append_ #[24, 24] 24 #[.slice s4 s4n s4c, .slice (some p8) 1 1]) w9 fun v10 w11 =>
  opnL (some v10) fun x12 x12n x12c =>
  opnL (w11.cell? (s1.add 36)) fun x13 x13n x13c =>
  (0 : Int) ≤ s6 ∧
  s6 < ((x13n : Nat) : Int) ∧
  opnA x13 fun ad14 =>
  opnL (w11.cell? (ad14.add (Int.toNat s6 * 1))) fun x15 x15n x15c =>
  (0 : Int) ≤ ((x15n : Nat) : Int) ∧
  ((x15n : Nat) : Int) ≤ ((x7c : Nat) : Int) ∧
  alC #[.slice (slA x7 0 x7c 1) ((Int.toNat ((x15n : Nat) : Int)) - 0) (x7c - 0)] 29 w11 fun p16 w17 =>
  sem PP (Builtin.append_ #[24, 24] 24 #[.slice s3 s3n s3c, .slice (some p16) 1 1]) w17 fun v18 w19 =>
  opnL (some v18) fun x20 x20n x20c =>
  N_l10_TileAll.j5 Q s1 x20 x20n x20c x12 x12n x12c s5 s5n s5c (IntKind.wrap .i64 (s6 + 1)) w19)
  (N_l10_TileAll.j11 Q s1 s3 s3n s3c s4 s4n s4c s5 s5n s5c 0 w)) :
N_l10_TileAll.j5 Q s1 s3 s3n s3c s4 s4n s4c s5 s5n s5c s6 w := Nd_fold K_l10_TileAll (by kernel_rfl) h
theorem N_l10_TileAll.j11_eq (Q : Value → World → Prop) (s1 : Addr) (s3 : Option Addr) (s3n : Nat) (s3c : Nat) (s4 : Option Addr) (s4n : Nat) (s4c : Nat) (s5 : Option Addr) (s5n : Nat) (s5c : Nat) (s8 : Int) (w : World) (h :
  opnL (w.cell? (s1.add 35)) fun x1 x1n x1c =>
  cond (decide (s8 < ((x1n : Nat) : Int)))
  (opnL (w.cell? (s1.add 35)) fun x2 x2n x2c =>
  (0 : Int) ≤ s8 ∧
  s8 < ((x2n : Nat) : Int) ∧
  opnA x2 fun ad3 =>
  opnI .i64 (w.cell? ((ad3.add (Int.toNat s8 * 5)).add 0)) fun x4 =>
  opnI .i64 (w.cell? ((ad3.add (Int.toNat s8 * 5)).add 1)) fun x5 =>
  opnI .i64 (w.cell? ((ad3.add (Int.toNat s8 * 5)).add 2)) fun x6 =>
  opnI .i64 (w.cell? ((ad3.add (Int.toNat s8 * 5)).add 3)) fun x7 =>
  opnB (w.cell? ((ad3.add (Int.toNat s8 * 5)).add 4)) fun x8 =>
  C_l10_doc #[.agg #[.int .i64 x4, .int .i64 x5, .int .i64 x6, .int .i64 x7, .bool x8]] w fun v9 w10 =>
  opnG (some v9) fun x11 =>
  x11.size = 5 ∧
  opnI .i64 (x11[0]?) fun x12 =>
  opnI .i64 (x11[1]?) fun x13 =>
  opnI .i64 (x11[2]?) fun x14 =>
  opnI .i64 (x11[3]?) fun x15 =>
  opnB (x11[4]?) fun x16 =>
  alC #[.int .i64 x12, .int .i64 x13, .int .i64 x14, .int .i64 x15, .bool x16] 32 w10 fun p17 w18 =>
  sem PP (Builtin.append_ #[28, 28] 28 #[.slice s5 s5n s5c, .slice (some p17) 1 1]) w18 fun v19 w20 =>
  opnL (some v19) fun x21 x21n x21c =>
  N_l10_TileAll.j11 Q s1 s3 s3n s3c s4 s4n s4c x21 x21n x21c (IntKind.wrap .i64 (s8 + 1)) w20)
  (opnL (w.cell? (s1.add 37)) fun x22 x22n x22c =>
  sem PP (Builtin.append_ #[25, 25] 25 #[.slice none 0 0, .slice x22 x22n x22c]) w fun v23 w24 =>
  opnL (some v23) fun x25 x25n x25c =>
  alC #[.int .i64 (-77)] 2 w24 fun p26 w27 =>
  sem PP (Builtin.append_ #[25, 25] 25 #[.slice x25 x25n x25c, .slice (some p26) 1 1]) w27 fun v28 w29 =>
  opnL (some v28) fun x30 x30n x30c =>
  opnL (w29.cell? (s1.add 37)) fun x31 x31n x31c =>
  (0 : Int) ≤ ((x31n : Nat) : Int) ∧
  ((x31n : Nat) : Int) ≤ ((x30c : Nat) : Int) ∧
  opnI .i64 (w29.cell? (s1.add 0)) fun x32 =>
  opnI .i64 (w29.cell? (s1.add 1)) fun x33 =>
  opnI .i64 (w29.cell? (s1.add 2)) fun x34 =>
  opnRow w29 (s1.add 3) (32 * 1) fun x35 =>
  opnL (w29.cell? (s1.add 36)) fun x36 x36n x36c =>
  opnL (w29.cell? (s1.add 37)) fun x37 x37n x37c =>
  C_r10_Read #[.int .i64 x32, .int .i64 x33, .int .i64 x34, .agg x35, .slice s5 s5n s5c, .slice x36 x36n x36c, .slice x37 x37n x37c] w29 fun v38 w39 =>
  opnT (some v38) fun x40 =>
  x40.size = 2 ∧
  opnL (x40[0]?) fun x41 x41n x41c =>
  opnI .i64 (x40[1]?) fun x42 =>
  opnI .i64 (w39.cell? (s1.add 0)) fun x43 =>
  opnI .i64 (w39.cell? (s1.add 1)) fun x44 =>
  opnI .i64 (w39.cell? (s1.add 2)) fun x45 =>
  opnRow w39 (s1.add 3) (32 * 1) fun x46 =>
  opnL (w39.cell? (s1.add 35)) fun x47 x47n x47c =>
  C_tile_Read #[.int .i64 x43, .int .i64 x44, .int .i64 x45, .agg x46, .slice x47 x47n x47c, .slice s3 s3n s3c, .slice (slA x30 0 x30c 1) ((Int.toNat ((x31n : Nat) : Int)) - 0) (x30c - 0)] w39 fun v48 w49 =>
  opnT (some v48) fun x50 =>
  x50.size = 2 ∧
  opnL (x50[0]?) fun x51 x51n x51c =>
  opnI .i64 (x50[1]?) fun x52 =>
  C_l10_hashes #[.slice x51 x51n x51c, .slice x41 x41n x41c] w49 fun v53 w54 =>
  opnB (some v53) fun x55 =>
  cond (!x55)
  (N_l10_TileAll.j21 Q w54)
  (C_l10_num #[.int .i64 x52] w54 fun v56 w57 =>
  opnI .i64 (some v56) fun x58 =>
  cond (x58 != x42)
  (N_l10_TileAll.j21 Q w57)
  (C_l10_filled #[.slice x51 x51n x51c, .int .u8 9] w57 fun v59 w60 =>
  opnL (some v59) fun x61 x61n x61c =>
  opnI .i64 (w60.cell? (s1.add 0)) fun x62 =>
  opnI .i64 (w60.cell? (s1.add 1)) fun x63 =>
  opnI .i64 (w60.cell? (s1.add 2)) fun x64 =>
  opnRow w60 (s1.add 3) (32 * 1) fun x65 =>
  opnL (w60.cell? (s1.add 35)) fun x66 x66n x66c =>
  C_tile_Read #[.int .i64 x62, .int .i64 x63, .int .i64 x64, .agg x65, .slice x66 x66n x66c, .slice s3 s3n s3c, .slice (slA x30 0 x30c 1) ((Int.toNat ((x31n : Nat) : Int)) - 0) (x30c - 0)] w60 fun v67 w68 =>
  opnT (some v67) fun x69 =>
  x69.size = 2 ∧
  opnL (x69[0]?) fun x70 x70n x70c =>
  opnI .i64 (x69[1]?) fun x71 =>
  C_l10_hashes #[.slice x70 x70n x70c, .slice x41 x41n x41c] w68 fun v72 w73 =>
  opnB (some v72) fun x74 =>
  cond (!x74)
  (N_l10_TileAll.j25 Q w73)
  (C_l10_num #[.int .i64 x71] w73 fun v75 w76 =>
  opnI .i64 (some v75) fun x77 =>
  cond (x77 != x42)
  (N_l10_TileAll.j25 Q w76)
  (C_l10_filled #[.slice x70 x70n x70c, .int .u8 8] w76 fun v78 w79 =>
  opnL (some v78) fun x80 x80n x80c =>
  N_l10_TileAll.j28 Q s1 s4 s4n s4c s5 s5n s5c x30 x30n x30c (slA x30 0 x30c 1) ((Int.toNat ((x31n : Nat) : Int)) - 0) (x30c - 0) x61 x61n x61c x80 x80n x80c 0 w79)))))) :
N_l10_TileAll.j11 Q s1 s3 s3n s3c s4 s4n s4c s5 s5n s5c s8 w := Nd_fold K_l10_TileAll (by kernel_rfl) h
theorem N_l10_TileAll.j21_eq (Q : Value → World → Prop) (w : World) (h :
  Q (.bool false) w) :
N_l10_TileAll.j21 Q w := Nd_fold K_l10_TileAll (by kernel_rfl) h
theorem N_l10_TileAll.j25_eq (Q : Value → World → Prop) (w : World) (h :
  Q (.bool false) w) :
N_l10_TileAll.j25 Q w := Nd_fold K_l10_TileAll (by kernel_rfl) h
theorem N_l10_TileAll.j28_eq (Q : Value → World → Prop) (s1 : Addr) (s4 : Option Addr) (s4n : Nat) (s4c : Nat) (s5 : Option Addr) (s5n : Nat) (s5c : Nat) (s9 : Option Addr) (s9n : Nat) (s9c : Nat) (s10 : Option Addr) (s10n : Nat) (s10c : Nat) (s15 : Option Addr) (s15n : Nat) (s15c : Nat) (s16 : Option Addr) (s16n : Nat) (s16c : Nat) (s17 : Int) (w : World) (h :
  cond (decide (s17 < ((s10n : Nat) : Int)))
  (drw w fun w1 =>
  (0 : Int) ≤ s17 ∧
  s17 < ((s10n : Nat) : Int) ∧
  opnA s10 fun ad2 =>
  opnI .i64 (w1.cell? (ad2.add (Int.toNat s17 * 1))) fun x3 =>
  opnL (w1.cell? (s1.add 37)) fun x4 x4n x4c =>
  (0 : Int) ≤ s17 ∧
  s17 < ((x4n : Nat) : Int) ∧
  opnA x4 fun ad5 =>
  opnI .i64 (w1.cell? (ad5.add (Int.toNat s17 * 1))) fun x6 =>
  cond (x3 != x6)
  (Q (.bool false) w1)
  (N_l10_TileAll.j28 Q s1 s4 s4n s4c s5 s5n s5c s9 s9n s9c s10 s10n s10c s15 s15n s15c s16 s16n s16c (IntKind.wrap .i64 (s17 + 1)) w1))
  (opnL (w.cell? (s1.add 37)) fun x7 x7n x7c =>
  (0 : Int) ≤ ((x7n : Nat) : Int) ∧
  ((x7n : Nat) : Int) < ((s9n : Nat) : Int) ∧
  opnA s9 fun ad8 =>
  opnI .i64 (w.cell? (ad8.add (Int.toNat ((x7n : Nat) : Int) * 1))) fun x9 =>
  cond (x9 == (-77))
  (C_l10_bears #[.slice s15 s15n s15c, .int .u8 9] w fun v10 w11 =>
  opnB (some v10) fun x12 =>
  cond x12
  (C_l10_bears #[.slice s16 s16n s16c, .int .u8 8] w11 fun v13 w14 =>
  opnB (some v13) fun x15 =>
  cond x15
  (opnL (w14.cell? (s1.add 36)) fun x16 x16n x16c =>
  C_l10_untouched #[.slice s4 s4n s4c, .slice x16 x16n x16c] w14 fun v17 w18 =>
  opnB (some v17) fun x19 =>
  cond x19
  (opnL (w18.cell? (s1.add 35)) fun x20 x20n x20c =>
  C_l10_alike #[.slice x20 x20n x20c, .slice s5 s5n s5c] w18 fun v21 w22 =>
  opnB (some v21) fun x23 =>
  Q (.bool x23) w22)
  (Q (.bool false) w18))
  (Q (.bool false) w14))
  (Q (.bool false) w11))
  (Q (.bool false) w))) :
N_l10_TileAll.j28 Q s1 s4 s4n s4c s5 s5n s5c s9 s9n s9c s10 s10n s10c s15 s15n s15c s16 s16n s16c s17 w := Nd_fold K_l10_TileAll (by kernel_rfl) h
theorem C_l10_TileAll_eq (Q : Value → World → Prop) (a0 : Array Value) (w : World) (h :
  alC a0 27 w fun p1 w2 =>
  N_l10_TileAll.j5 Q p1 none 0 0 none 0 0 none 0 0 0 w2) :
C_l10_TileAll #[.agg a0] w Q := C_fold K_l10_TileAll (by kernel_rfl) h
/-! ### ledger/ledgerlaw10.lent -/
noncomputable def B_l10_lent : Code := match Tryz.f4.body with | some c => c | _ => .skip
noncomputable def X_l10_lent : Cx := { P := PP, fn := 4, N := 41, tab := tab, results := [.tmp 2], iter := fun _ => (.none, .none), dyn := fun _ => false, live := fun r => cond (Nat.beq r 3) (some [0, 3, 4]) (cond (Nat.beq r 7) (some [0, 3, 5]) (none)) }
theorem K_l10_lent : OkF X_l10_lent B_l10_lent Tryz.f4 := ⟨⟨tab_ok, mix_ok⟩, Tryz.func4, by kernel_rfl, by kernel_rfl, by kernel_rfl, by kernel_rfl⟩
noncomputable def N_l10_lent.j3 (Q : Value → World → Prop) (s0 : Option Addr) (s0n : Nat) (s0c : Nat) (s3 : Option Addr) (s3n : Nat) (s3c : Nat) (s4 : Int) (w : World) : Prop := Nd X_l10_lent Q [(0, 0, .slice s0 s0n s0c), (3, 3, .slice s3 s3n s3c), (4, 4, .int .i64 s4)] [.code (B_l10_lent.r.r.l.r.l.l.l.l), .code (B_l10_lent.r.r.l.r.l.l.l.r), .code (B_l10_lent.r.r.l.r.l.l.r), .inLoop (B_l10_lent.r.r.l.r.l.l), .inBlock 0, .code (B_l10_lent.r.r.r)] w
noncomputable def N_l10_lent.j7 (Q : Value → World → Prop) (s0 : Option Addr) (s0n : Nat) (s0c : Nat) (s3 : Option Addr) (s3n : Nat) (s3c : Nat) (s5 : Int) (w : World) : Prop := Nd X_l10_lent Q [(0, 0, .slice s0 s0n s0c), (3, 3, .slice s3 s3n s3c), (5, 5, .int .i64 s5)] [.code (B_l10_lent.r.r.r.l.r.l.l.l.l), .code (B_l10_lent.r.r.r.l.r.l.l.l.r), .code (B_l10_lent.r.r.r.l.r.l.l.r), .inLoop (B_l10_lent.r.r.r.l.r.l.l), .inBlock 2, .code (B_l10_lent.r.r.r.r)] w
theorem N_l10_lent.j3_eq (Q : Value → World → Prop) (s0 : Option Addr) (s0n : Nat) (s0c : Nat) (s3 : Option Addr) (s3n : Nat) (s3c : Nat) (s4 : Int) (w : World) (h :
  cond (decide (s4 < ((s0n : Nat) : Int)))
  ((0 : Int) ≤ s4 ∧
  s4 < ((s0n : Nat) : Int) ∧
  opnA s0 fun ad1 =>
  opnI .u8 (w.cell? (ad1.add (Int.toNat s4 * 1))) fun x2 =>
  (0 : Int) ≤ s4 ∧
  s4 < ((s3n : Nat) : Int) ∧
  opnA s3 fun ad3 =>
  stC (ad3.add (Int.toNat s4 * 1)) (.int .u8 x2) w fun w4 =>
  N_l10_lent.j3 Q s0 s0n s0c s3 s3n s3c (IntKind.wrap .i64 (s4 + 1)) w4)
  (N_l10_lent.j7 Q s0 s0n s0c s3 s3n s3c ((s0n : Nat) : Int) w)) :
N_l10_lent.j3 Q s0 s0n s0c s3 s3n s3c s4 w := Nd_fold K_l10_lent (by kernel_rfl) h
theorem N_l10_lent.j7_eq (Q : Value → World → Prop) (s0 : Option Addr) (s0n : Nat) (s0c : Nat) (s3 : Option Addr) (s3n : Nat) (s3c : Nat) (s5 : Int) (w : World) (h :
  cond (decide (s5 < ((s3n : Nat) : Int)))
  ((0 : Int) ≤ s5 ∧
  s5 < ((s3n : Nat) : Int) ∧
  opnA s3 fun ad1 =>
  stC (ad1.add (Int.toNat s5 * 1)) (.int .u8 (IntKind.wrap .u8 (IntKind.wrap .i64 ((IntKind.wrap .i64 (192 + s5)) - ((s0n : Nat) : Int))))) w fun w2 =>
  N_l10_lent.j7 Q s0 s0n s0c s3 s3n s3c (IntKind.wrap .i64 (s5 + 1)) w2)
  (Q (.slice s3 s3n s3c) w)) :
N_l10_lent.j7 Q s0 s0n s0c s3 s3n s3c s5 w := Nd_fold K_l10_lent (by kernel_rfl) h
theorem C_l10_lent_eq (Q : Value → World → Prop) (a0 : Option Addr) (a0n : Nat) (a0c : Nat) (w : World) (h :
  sem PP (Instr.makeSlice 29 (.int .i64 (IntKind.wrap .i64 (((a0n : Nat) : Int) + 200))) (.int .i64 (IntKind.wrap .i64 (((a0n : Nat) : Int) + 200)))) w fun v1 w2 =>
  opnL (some v1) fun x3 x3n x3c =>
  N_l10_lent.j3 Q a0 a0n a0c x3 x3n x3c 0 w2) :
C_l10_lent #[.slice a0 a0n a0c] w Q := C_fold K_l10_lent (by kernel_rfl) h
/-! ### ledger/ledgerlaw10.doc -/
noncomputable def B_l10_doc : Code := match Tryz.f5.body with | some c => c | _ => .skip
noncomputable def X_l10_doc : Cx := { P := PP, fn := 5, N := 14, tab := tab, results := [.cell 2 32], iter := fun _ => (.none, .none), dyn := fun _ => false, live := fun _ => none }
theorem K_l10_doc : OkF X_l10_doc B_l10_doc Tryz.f5 := ⟨⟨tab_ok, mix_ok⟩, Tryz.func5, by kernel_rfl, by kernel_rfl, by kernel_rfl, by kernel_rfl⟩
theorem C_l10_doc_eq (Q : Value → World → Prop) (a0_0 : Int) (a0_1 : Int) (a0_2 : Int) (a0_3 : Int) (a0_4 : Bool) (w : World) (h :
  alC #[.int .i64 a0_0, .int .i64 a0_1, .int .i64 a0_2, .int .i64 a0_3, .bool a0_4] 34 w fun p1 w2 =>
  alC #[.int .i64 0, .int .i64 0, .int .i64 0, .int .i64 0, .bool false] 32 w2 fun p3 w4 =>
  opnI .i64 (w4.cell? (p1.add 0)) fun x5 =>
  opnI .i64 (w4.cell? (p1.add 1)) fun x6 =>
  opnI .i64 (w4.cell? (p1.add 2)) fun x7 =>
  opnI .i64 (w4.cell? (p1.add 3)) fun x8 =>
  opnB (w4.cell? (p1.add 4)) fun x9 =>
  Array.size (#[.int .i64 x5, .int .i64 x6, .int .i64 x7, .int .i64 x8, .bool x9] : Array Value) = 5 ∧
  stC (p3.add 0) (.int .i64 x5) w4 fun w10 =>
  stC (p3.add 1) (.int .i64 x6) w10 fun w11 =>
  stC (p3.add 2) (.int .i64 x7) w11 fun w12 =>
  stC (p3.add 3) (.int .i64 x8) w12 fun w13 =>
  stC (p3.add 4) (.bool x9) w13 fun w14 =>
  opnI .i64 (w14.cell? (p3.add 0)) fun x15 =>
  opnI .i64 (w14.cell? (p3.add 1)) fun x16 =>
  opnI .i64 (w14.cell? (p3.add 2)) fun x17 =>
  opnI .i64 (w14.cell? (p3.add 3)) fun x18 =>
  opnB (w14.cell? (p3.add 4)) fun x19 =>
  Q (.agg #[.int .i64 x15, .int .i64 x16, .int .i64 x17, .int .i64 x18, .bool x19]) w14) :
C_l10_doc #[.agg #[.int .i64 a0_0, .int .i64 a0_1, .int .i64 a0_2, .int .i64 a0_3, .bool a0_4]] w Q := C_fold K_l10_doc (by kernel_rfl) h
/-! ### ledger/ledgerref10.Read -/
noncomputable def B_r10_Read : Code := match Tryz.f6.body with | some c => c | _ => .skip
noncomputable def X_r10_Read : Cx := { P := PP, fn := 6, N := 114, tab := tab, results := [.tmp 14, .tmp 15], iter := fun _ => (.none, .none), dyn := fun _ => false, live := fun r => cond (Nat.beq r 10) (some [0, 1, 2, 4, 5, 6, 10, 16, 18, 19]) (cond (Nat.beq r 11) (some [0, 1, 2, 4, 5, 6, 10, 16, 18, 19]) (cond (Nat.beq r 13) (some [0, 1, 2, 4, 5, 6, 10, 16, 18, 19, 20]) (cond (Nat.beq r 15) (some [0, 1, 2, 4, 5, 6, 10, 16, 18, 19, 20]) (cond (Nat.beq r 16) (some []) (cond (Nat.beq r 17) (some [0, 1, 2, 4, 5, 6, 10, 16, 18, 19, 20]) (cond (Nat.beq r 18) (some []) (cond (Nat.beq r 19) (some [0, 1, 2, 4, 5, 6, 10, 16, 18, 19, 20]) (cond (Nat.beq r 24) (some [0, 1, 6, 16, 18, 21, 22]) (none))))))))) }
theorem K_r10_Read : OkF X_r10_Read B_r10_Read Tryz.f6 := ⟨⟨tab_ok, mix_ok⟩, Tryz.func6, by kernel_rfl, by kernel_rfl, by kernel_rfl, by kernel_rfl⟩
noncomputable def N_r10_Read.j10 (Q : Value → World → Prop) (s0 : Int) (s1 : Int) (s2 : Int) (s4 : Option Addr) (s4n : Nat) (s4c : Nat) (s5 : Option Addr) (s5n : Nat) (s5c : Nat) (s6 : Option Addr) (s6n : Nat) (s6c : Nat) (s10 : Addr) (s16 : Option Addr) (s16n : Nat) (s16c : Nat) (s18 : Option Addr) (s18n : Nat) (s18c : Nat) (s19 : Int) (w : World) : Prop := Nd X_r10_Read Q [(0, 0, .int .i64 s0), (1, 1, .int .i64 s1), (2, 2, .int .i64 s2), (4, 4, .slice s4 s4n s4c), (5, 5, .slice s5 s5n s5c), (6, 6, .slice s6 s6n s6c), (10, 10, .pointer (some s10)), (16, 16, .slice s16 s16n s16c), (18, 18, .slice s18 s18n s18c), (19, 19, .int .i64 s19)] [.code (B_r10_Read.r.r.r.r.r.r.l.r.l.l.l.l), .code (B_r10_Read.r.r.r.r.r.r.l.r.l.l.l.r), .code (B_r10_Read.r.r.r.r.r.r.l.r.l.l.r), .inLoop (B_r10_Read.r.r.r.r.r.r.l.r.l.l), .inBlock 0, .code (B_r10_Read.r.r.r.r.r.r.r)] w
noncomputable def N_r10_Read.j11 (Q : Value → World → Prop) (s0 : Int) (s1 : Int) (s2 : Int) (s4 : Option Addr) (s4n : Nat) (s4c : Nat) (s5 : Option Addr) (s5n : Nat) (s5c : Nat) (s6 : Option Addr) (s6n : Nat) (s6c : Nat) (s10 : Addr) (s16 : Option Addr) (s16n : Nat) (s16c : Nat) (s18 : Option Addr) (s18n : Nat) (s18c : Nat) (s19 : Int) (w : World) : Prop := Nd X_r10_Read Q [(0, 0, .int .i64 s0), (1, 1, .int .i64 s1), (2, 2, .int .i64 s2), (4, 4, .slice s4 s4n s4c), (5, 5, .slice s5 s5n s5c), (6, 6, .slice s6 s6n s6c), (10, 10, .pointer (some s10)), (16, 16, .slice s16 s16n s16c), (18, 18, .slice s18 s18n s18c), (19, 19, .int .i64 s19)] [.code (B_r10_Read.r.r.r.r.r.r.l.r.l.l.r.r), .inLoop (B_r10_Read.r.r.r.r.r.r.l.r.l.l), .inBlock 0, .code (B_r10_Read.r.r.r.r.r.r.r)] w
noncomputable def N_r10_Read.j13 (Q : Value → World → Prop) (s0 : Int) (s1 : Int) (s2 : Int) (s4 : Option Addr) (s4n : Nat) (s4c : Nat) (s5 : Option Addr) (s5n : Nat) (s5c : Nat) (s6 : Option Addr) (s6n : Nat) (s6c : Nat) (s10 : Addr) (s16 : Option Addr) (s16n : Nat) (s16c : Nat) (s18 : Option Addr) (s18n : Nat) (s18c : Nat) (s19 : Int) (s20 : Int) (w : World) : Prop := Nd X_r10_Read Q [(0, 0, .int .i64 s0), (1, 1, .int .i64 s1), (2, 2, .int .i64 s2), (4, 4, .slice s4 s4n s4c), (5, 5, .slice s5 s5n s5c), (6, 6, .slice s6 s6n s6c), (10, 10, .pointer (some s10)), (16, 16, .slice s16 s16n s16c), (18, 18, .slice s18 s18n s18c), (19, 19, .int .i64 s19), (20, 20, .int .i64 s20)] [.code (B_r10_Read.r.r.r.r.r.r.l.r.l.l.r.l.l.r.l.l.l.l.l), .code (B_r10_Read.r.r.r.r.r.r.l.r.l.l.r.l.l.r.l.l.l.l.r), .code (B_r10_Read.r.r.r.r.r.r.l.r.l.l.r.l.l.r.l.l.l.r), .inLoop (B_r10_Read.r.r.r.r.r.r.l.r.l.l.r.l.l.r.l.l.l), .inBlock 2, .code (B_r10_Read.r.r.r.r.r.r.l.r.l.l.r.l.l.r.r), .inBlock 1, .code (B_r10_Read.r.r.r.r.r.r.l.r.l.l.r.r), .inLoop (B_r10_Read.r.r.r.r.r.r.l.r.l.l), .inBlock 0, .code (B_r10_Read.r.r.r.r.r.r.r)] w
noncomputable def N_r10_Read.j15 (Q : Value → World → Prop) (s0 : Int) (s1 : Int) (s2 : Int) (s4 : Option Addr) (s4n : Nat) (s4c : Nat) (s5 : Option Addr) (s5n : Nat) (s5c : Nat) (s6 : Option Addr) (s6n : Nat) (s6c : Nat) (s10 : Addr) (s16 : Option Addr) (s16n : Nat) (s16c : Nat) (s18 : Option Addr) (s18n : Nat) (s18c : Nat) (s19 : Int) (s20 : Int) (w : World) : Prop := Nd X_r10_Read Q [(0, 0, .int .i64 s0), (1, 1, .int .i64 s1), (2, 2, .int .i64 s2), (4, 4, .slice s4 s4n s4c), (5, 5, .slice s5 s5n s5c), (6, 6, .slice s6 s6n s6c), (10, 10, .pointer (some s10)), (16, 16, .slice s16 s16n s16c), (18, 18, .slice s18 s18n s18c), (19, 19, .int .i64 s19), (20, 20, .int .i64 s20)] [.code (B_r10_Read.r.r.r.r.r.r.l.r.l.l.r.l.l.r.r.l.l), .code (B_r10_Read.r.r.r.r.r.r.l.r.l.l.r.l.l.r.r.l.r), .code (B_r10_Read.r.r.r.r.r.r.l.r.l.l.r.l.l.r.r.r), .inBlock 1, .code (B_r10_Read.r.r.r.r.r.r.l.r.l.l.r.r), .inLoop (B_r10_Read.r.r.r.r.r.r.l.r.l.l), .inBlock 0, .code (B_r10_Read.r.r.r.r.r.r.r)] w
noncomputable def N_r10_Read.j16 (Q : Value → World → Prop) (w : World) : Prop := Nd X_r10_Read Q [] [.code (B_r10_Read.r.r.r.r.r.r.l.r.l.l.r.l.l.r.r.l.r.l.l), .code (B_r10_Read.r.r.r.r.r.r.l.r.l.l.r.l.l.r.r.l.r.l.r), .code (B_r10_Read.r.r.r.r.r.r.l.r.l.l.r.l.l.r.r.r), .inBlock 1, .code (B_r10_Read.r.r.r.r.r.r.l.r.l.l.r.r), .inLoop (B_r10_Read.r.r.r.r.r.r.l.r.l.l), .inBlock 0, .code (B_r10_Read.r.r.r.r.r.r.r)] w
noncomputable def N_r10_Read.j17 (Q : Value → World → Prop) (s0 : Int) (s1 : Int) (s2 : Int) (s4 : Option Addr) (s4n : Nat) (s4c : Nat) (s5 : Option Addr) (s5n : Nat) (s5c : Nat) (s6 : Option Addr) (s6n : Nat) (s6c : Nat) (s10 : Addr) (s16 : Option Addr) (s16n : Nat) (s16c : Nat) (s18 : Option Addr) (s18n : Nat) (s18c : Nat) (s19 : Int) (s20 : Int) (w : World) : Prop := Nd X_r10_Read Q [(0, 0, .int .i64 s0), (1, 1, .int .i64 s1), (2, 2, .int .i64 s2), (4, 4, .slice s4 s4n s4c), (5, 5, .slice s5 s5n s5c), (6, 6, .slice s6 s6n s6c), (10, 10, .pointer (some s10)), (16, 16, .slice s16 s16n s16c), (18, 18, .slice s18 s18n s18c), (19, 19, .int .i64 s19), (20, 20, .int .i64 s20)] [.code (B_r10_Read.r.r.r.r.r.r.l.r.l.l.r.l.l.r.r.r.l.l), .code (B_r10_Read.r.r.r.r.r.r.l.r.l.l.r.l.l.r.r.r.l.r), .code (B_r10_Read.r.r.r.r.r.r.l.r.l.l.r.l.l.r.r.r.r), .inBlock 1, .code (B_r10_Read.r.r.r.r.r.r.l.r.l.l.r.r), .inLoop (B_r10_Read.r.r.r.r.r.r.l.r.l.l), .inBlock 0, .code (B_r10_Read.r.r.r.r.r.r.r)] w
noncomputable def N_r10_Read.j18 (Q : Value → World → Prop) (w : World) : Prop := Nd X_r10_Read Q [] [.code (B_r10_Read.r.r.r.r.r.r.l.r.l.l.r.l.l.r.r.r.l.r.l.l), .code (B_r10_Read.r.r.r.r.r.r.l.r.l.l.r.l.l.r.r.r.l.r.l.r), .code (B_r10_Read.r.r.r.r.r.r.l.r.l.l.r.l.l.r.r.r.r), .inBlock 1, .code (B_r10_Read.r.r.r.r.r.r.l.r.l.l.r.r), .inLoop (B_r10_Read.r.r.r.r.r.r.l.r.l.l), .inBlock 0, .code (B_r10_Read.r.r.r.r.r.r.r)] w
noncomputable def N_r10_Read.j19 (Q : Value → World → Prop) (s0 : Int) (s1 : Int) (s2 : Int) (s4 : Option Addr) (s4n : Nat) (s4c : Nat) (s5 : Option Addr) (s5n : Nat) (s5c : Nat) (s6 : Option Addr) (s6n : Nat) (s6c : Nat) (s10 : Addr) (s16 : Option Addr) (s16n : Nat) (s16c : Nat) (s18 : Option Addr) (s18n : Nat) (s18c : Nat) (s19 : Int) (s20 : Int) (w : World) : Prop := Nd X_r10_Read Q [(0, 0, .int .i64 s0), (1, 1, .int .i64 s1), (2, 2, .int .i64 s2), (4, 4, .slice s4 s4n s4c), (5, 5, .slice s5 s5n s5c), (6, 6, .slice s6 s6n s6c), (10, 10, .pointer (some s10)), (16, 16, .slice s16 s16n s16c), (18, 18, .slice s18 s18n s18c), (19, 19, .int .i64 s19), (20, 20, .int .i64 s20)] [.code (B_r10_Read.r.r.r.r.r.r.l.r.l.l.r.l.l.r.r.r.r), .inBlock 1, .code (B_r10_Read.r.r.r.r.r.r.l.r.l.l.r.r), .inLoop (B_r10_Read.r.r.r.r.r.r.l.r.l.l), .inBlock 0, .code (B_r10_Read.r.r.r.r.r.r.r)] w
noncomputable def N_r10_Read.j24 (Q : Value → World → Prop) (s0 : Int) (s1 : Int) (s6 : Option Addr) (s6n : Nat) (s6c : Nat) (s16 : Option Addr) (s16n : Nat) (s16c : Nat) (s18 : Option Addr) (s18n : Nat) (s18c : Nat) (s21 : Option Addr) (s21n : Nat) (s21c : Nat) (s22 : Int) (w : World) : Prop := Nd X_r10_Read Q [(0, 0, .int .i64 s0), (1, 1, .int .i64 s1), (6, 6, .slice s6 s6n s6c), (16, 16, .slice s16 s16n s16c), (18, 18, .slice s18 s18n s18c), (21, 21, .slice s21 s21n s21c), (22, 22, .int .i64 s22)] [.code (B_r10_Read.r.r.r.r.r.r.r.r.r.l.r.l.l.l.l), .code (B_r10_Read.r.r.r.r.r.r.r.r.r.l.r.l.l.l.r), .code (B_r10_Read.r.r.r.r.r.r.r.r.r.l.r.l.l.r), .inLoop (B_r10_Read.r.r.r.r.r.r.r.r.r.l.r.l.l), .inBlock 4, .code (B_r10_Read.r.r.r.r.r.r.r.r.r.r)] w
theorem N_r10_Read.j10_eq (Q : Value → World → Prop) (s0 : Int) (s1 : Int) (s2 : Int) (s4 : Option Addr) (s4n : Nat) (s4c : Nat) (s5 : Option Addr) (s5n : Nat) (s5c : Nat) (s6 : Option Addr) (s6n : Nat) (s6c : Nat) (s10 : Addr) (s16 : Option Addr) (s16n : Nat) (s16c : Nat) (s18 : Option Addr) (s18n : Nat) (s18c : Nat) (s19 : Int) (w : World) (h :
  cond (decide (s19 < ((s16n : Nat) : Int)))
  (N_r10_Read.j13 Q s0 s1 s2 s4 s4n s4c s5 s5n s5c s6 s6n s6c s10 s16 s16n s16c s18 s18n s18c s19 0 w)
  (opnRow w s10 (32 * 1) fun x1 =>
  C_r10_borne #[.int .i64 s0, .int .i64 s1, .int .i64 s2, .agg x1, .slice s16 s16n s16c, .slice s18 s18n s18c] w fun v2 w3 =>
  opnB (some v2) fun x4 =>
  cond (!x4)
  (Q (.tuple #[.slice none 0 0, .int .i64 104]) w3)
  (N_r10_Read.j24 Q s0 s1 s6 s6n s6c s16 s16n s16c s18 s18n s18c none 0 0 0 w3))) :
N_r10_Read.j10 Q s0 s1 s2 s4 s4n s4c s5 s5n s5c s6 s6n s6c s10 s16 s16n s16c s18 s18n s18c s19 w := Nd_fold K_r10_Read (by kernel_rfl) h
theorem N_r10_Read.j11_eq (Q : Value → World → Prop) (s0 : Int) (s1 : Int) (s2 : Int) (s4 : Option Addr) (s4n : Nat) (s4c : Nat) (s5 : Option Addr) (s5n : Nat) (s5c : Nat) (s6 : Option Addr) (s6n : Nat) (s6c : Nat) (s10 : Addr) (s16 : Option Addr) (s16n : Nat) (s16c : Nat) (s18 : Option Addr) (s18n : Nat) (s18c : Nat) (s19 : Int) (w : World) (h :
  N_r10_Read.j10 Q s0 s1 s2 s4 s4n s4c s5 s5n s5c s6 s6n s6c s10 s16 s16n s16c s18 s18n s18c (IntKind.wrap .i64 (s19 + 1)) w) :
N_r10_Read.j11 Q s0 s1 s2 s4 s4n s4c s5 s5n s5c s6 s6n s6c s10 s16 s16n s16c s18 s18n s18c s19 w := Nd_fold K_r10_Read (by kernel_rfl) h
theorem N_r10_Read.j13_eq (Q : Value → World → Prop) (s0 : Int) (s1 : Int) (s2 : Int) (s4 : Option Addr) (s4n : Nat) (s4c : Nat) (s5 : Option Addr) (s5n : Nat) (s5c : Nat) (s6 : Option Addr) (s6n : Nat) (s6c : Nat) (s10 : Addr) (s16 : Option Addr) (s16n : Nat) (s16c : Nat) (s18 : Option Addr) (s18n : Nat) (s18c : Nat) (s19 : Int) (s20 : Int) (w : World) (h :
  drw w fun w1 =>
  cond (decide (s20 < ((s4n : Nat) : Int)))
  ((0 : Int) ≤ s20 ∧
  s20 < ((s4n : Nat) : Int) ∧
  opnA s4 fun ad2 =>
  (0 : Int) ≤ s19 ∧
  s19 < ((s16n : Nat) : Int) ∧
  opnA s16 fun ad3 =>
  opnI .i64 (w1.cell? ((ad2.add (Int.toNat s20 * 5)).add 0)) fun x4 =>
  opnI .i64 (w1.cell? ((ad2.add (Int.toNat s20 * 5)).add 1)) fun x5 =>
  opnI .i64 (w1.cell? ((ad2.add (Int.toNat s20 * 5)).add 2)) fun x6 =>
  opnI .i64 (w1.cell? ((ad2.add (Int.toNat s20 * 5)).add 3)) fun x7 =>
  opnB (w1.cell? ((ad2.add (Int.toNat s20 * 5)).add 4)) fun x8 =>
  opnI .i64 (w1.cell? ((ad3.add (Int.toNat s19 * 5)).add 0)) fun x9 =>
  opnI .i64 (w1.cell? ((ad3.add (Int.toNat s19 * 5)).add 1)) fun x10 =>
  opnI .i64 (w1.cell? ((ad3.add (Int.toNat s19 * 5)).add 2)) fun x11 =>
  opnI .i64 (w1.cell? ((ad3.add (Int.toNat s19 * 5)).add 3)) fun x12 =>
  opnB (w1.cell? ((ad3.add (Int.toNat s19 * 5)).add 4)) fun x13 =>
  semR PP (do eqGuard .neq 32 (.tmp 55) (.tmp 59) (.agg #[.int .i64 x4, .int .i64 x5, .int .i64 x6, .int .i64 x7, .bool x8]) (.agg #[.int .i64 x9, .int .i64 x10, .int .i64 x11, .int .i64 x12, .bool x13]); binOp .neq 32 (.agg #[.int .i64 x4, .int .i64 x5, .int .i64 x6, .int .i64 x7, .bool x8]) (.agg #[.int .i64 x9, .int .i64 x10, .int .i64 x11, .int .i64 x12, .bool x13])) w1 fun x14 =>
  opnB (some x14) fun x15 =>
  cond x15
  (N_r10_Read.j13 Q s0 s1 s2 s4 s4n s4c s5 s5n s5c s6 s6n s6c s10 s16 s16n s16c s18 s18n s18c s19 (IntKind.wrap .i64 (s20 + 1)) w1)
  (N_r10_Read.j15 Q s0 s1 s2 s4 s4n s4c s5 s5n s5c s6 s6n s6c s10 s16 s16n s16c s18 s18n s18c s19 s20 w1))
  (N_r10_Read.j15 Q s0 s1 s2 s4 s4n s4c s5 s5n s5c s6 s6n s6c s10 s16 s16n s16c s18 s18n s18c s19 s20 w1)) :
N_r10_Read.j13 Q s0 s1 s2 s4 s4n s4c s5 s5n s5c s6 s6n s6c s10 s16 s16n s16c s18 s18n s18c s19 s20 w := Nd_fold K_r10_Read (by kernel_rfl) h
theorem N_r10_Read.j15_eq (Q : Value → World → Prop) (s0 : Int) (s1 : Int) (s2 : Int) (s4 : Option Addr) (s4n : Nat) (s4c : Nat) (s5 : Option Addr) (s5n : Nat) (s5c : Nat) (s6 : Option Addr) (s6n : Nat) (s6c : Nat) (s10 : Addr) (s16 : Option Addr) (s16n : Nat) (s16c : Nat) (s18 : Option Addr) (s18n : Nat) (s18c : Nat) (s19 : Int) (s20 : Int) (w : World) (h :
  cond (s20 == ((s4n : Nat) : Int))
  (N_r10_Read.j16 Q w)
  (N_r10_Read.j17 Q s0 s1 s2 s4 s4n s4c s5 s5n s5c s6 s6n s6c s10 s16 s16n s16c s18 s18n s18c s19 s20 w)) :
N_r10_Read.j15 Q s0 s1 s2 s4 s4n s4c s5 s5n s5c s6 s6n s6c s10 s16 s16n s16c s18 s18n s18c s19 s20 w := Nd_fold K_r10_Read (by kernel_rfl) h
theorem N_r10_Read.j16_eq (Q : Value → World → Prop) (w : World) (h :
  Q (.tuple #[.slice none 0 0, .int .i64 103]) w) :
N_r10_Read.j16 Q w := Nd_fold K_r10_Read (by kernel_rfl) h
theorem N_r10_Read.j17_eq (Q : Value → World → Prop) (s0 : Int) (s1 : Int) (s2 : Int) (s4 : Option Addr) (s4n : Nat) (s4c : Nat) (s5 : Option Addr) (s5n : Nat) (s5c : Nat) (s6 : Option Addr) (s6n : Nat) (s6c : Nat) (s10 : Addr) (s16 : Option Addr) (s16n : Nat) (s16c : Nat) (s18 : Option Addr) (s18n : Nat) (s18c : Nat) (s19 : Int) (s20 : Int) (w : World) (h :
  drw w fun w1 =>
  (0 : Int) ≤ s20 ∧
  s20 < ((s5n : Nat) : Int) ∧
  opnA s5 fun ad2 =>
  (0 : Int) ≤ s19 ∧
  s19 < ((s16n : Nat) : Int) ∧
  opnA s16 fun ad3 =>
  opnL (w1.cell? (ad2.add (Int.toNat s20 * 1))) fun x4 x4n x4c =>
  opnI .i64 (w1.cell? ((ad3.add (Int.toNat s19 * 5)).add 3)) fun x5 =>
  cond (((x4n : Nat) : Int) != (IntKind.wrap .i64 (32 * x5)))
  (N_r10_Read.j18 Q w1)
  (N_r10_Read.j19 Q s0 s1 s2 s4 s4n s4c s5 s5n s5c s6 s6n s6c s10 s16 s16n s16c s18 s18n s18c s19 s20 w1)) :
N_r10_Read.j17 Q s0 s1 s2 s4 s4n s4c s5 s5n s5c s6 s6n s6c s10 s16 s16n s16c s18 s18n s18c s19 s20 w := Nd_fold K_r10_Read (by kernel_rfl) h
theorem N_r10_Read.j18_eq (Q : Value → World → Prop) (w : World) (h :
  Q (.tuple #[.slice none 0 0, .int .i64 102]) w) :
N_r10_Read.j18 Q w := Nd_fold K_r10_Read (by kernel_rfl) h
theorem N_r10_Read.j19_eq (Q : Value → World → Prop) (s0 : Int) (s1 : Int) (s2 : Int) (s4 : Option Addr) (s4n : Nat) (s4c : Nat) (s5 : Option Addr) (s5n : Nat) (s5c : Nat) (s6 : Option Addr) (s6n : Nat) (s6c : Nat) (s10 : Addr) (s16 : Option Addr) (s16n : Nat) (s16c : Nat) (s18 : Option Addr) (s18n : Nat) (s18c : Nat) (s19 : Int) (s20 : Int) (w : World) (h :
  (0 : Int) ≤ s20 ∧
  s20 < ((s5n : Nat) : Int) ∧
  opnA s5 fun ad1 =>
  opnL (w.cell? (ad1.add (Int.toNat s20 * 1))) fun x2 x2n x2c =>
  alC #[.slice x2 x2n x2c] 29 w fun p3 w4 =>
  sem PP (Builtin.append_ #[24, 24] 24 #[.slice s18 s18n s18c, .slice (some p3) 1 1]) w4 fun v5 w6 =>
  opnL (some v5) fun x7 x7n x7c =>
  N_r10_Read.j11 Q s0 s1 s2 s4 s4n s4c s5 s5n s5c s6 s6n s6c s10 s16 s16n s16c x7 x7n x7c s19 w6) :
N_r10_Read.j19 Q s0 s1 s2 s4 s4n s4c s5 s5n s5c s6 s6n s6c s10 s16 s16n s16c s18 s18n s18c s19 s20 w := Nd_fold K_r10_Read (by kernel_rfl) h
theorem N_r10_Read.j24_eq (Q : Value → World → Prop) (s0 : Int) (s1 : Int) (s6 : Option Addr) (s6n : Nat) (s6c : Nat) (s16 : Option Addr) (s16n : Nat) (s16c : Nat) (s18 : Option Addr) (s18n : Nat) (s18c : Nat) (s21 : Option Addr) (s21n : Nat) (s21c : Nat) (s22 : Int) (w : World) (h :
  cond (decide (s22 < ((s6n : Nat) : Int)))
  ((0 : Int) ≤ s22 ∧
  s22 < ((s6n : Nat) : Int) ∧
  opnA s6 fun ad1 =>
  opnI .i64 (w.cell? (ad1.add (Int.toNat s22 * 1))) fun x2 =>
  C_r10_hashOf #[.int .i64 s0, .int .i64 s1, .slice s16 s16n s16c, .slice s18 s18n s18c, .int .i64 x2] w fun v3 w4 =>
  opnG (some v3) fun x5 =>
  x5.size = 32 ∧
  alC x5 22 w4 fun p8 w7 =>
  sem PP (Builtin.append_ #[35, 35] 35 #[.slice s21 s21n s21c, .slice (some p8) 1 1]) w7 fun v9 w10 =>
  opnL (some v9) fun x11 x11n x11c =>
  N_r10_Read.j24 Q s0 s1 s6 s6n s6c s16 s16n s16c s18 s18n s18c x11 x11n x11c (IntKind.wrap .i64 (s22 + 1)) w10)
  (Q (.tuple #[.slice s21 s21n s21c, .int .i64 0]) w)) :
N_r10_Read.j24 Q s0 s1 s6 s6n s6c s16 s16n s16c s18 s18n s18c s21 s21n s21c s22 w := Nd_fold K_r10_Read (by kernel_rfl) h
theorem C_r10_Read_eq (Q : Value → World → Prop) (a0 : Int) (a1 : Int) (a2 : Int) (a3 : Array Value) (a4 : Option Addr) (a4n : Nat) (a4c : Nat) (a5 : Option Addr) (a5n : Nat) (a5c : Nat) (a6 : Option Addr) (a6n : Nat) (a6c : Nat) (w : World) (h :
  alC a3 22 w fun p1 w2 =>
  cond (((a4n : Nat) : Int) != ((a5n : Nat) : Int))
  (Q (.tuple #[.slice none 0 0, .int .i64 54]) w2)
  (cond (decide (((a4n : Nat) : Int) > 4096))
  (Q (.tuple #[.slice none 0 0, .int .i64 2]) w2)
  (C_r10_Plan #[.int .i64 a1, .int .i64 a2, .slice a6 a6n a6c] w2 fun v3 w4 =>
  opnT (some v3) fun x5 =>
  x5.size = 2 ∧
  opnL (x5[0]?) fun x6 x6n x6c =>
  opnI .i64 (x5[1]?) fun x7 =>
  cond (x7 != 0)
  (Q (.tuple #[.slice none 0 0, .int .i64 x7]) w4)
  (N_r10_Read.j10 Q a0 a1 a2 a4 a4n a4c a5 a5n a5c a6 a6n a6c p1 x6 x6n x6c none 0 0 0 w4)))) :
C_r10_Read #[.int .i64 a0, .int .i64 a1, .int .i64 a2, .agg a3, .slice a4 a4n a4c, .slice a5 a5n a5c, .slice a6 a6n a6c] w Q := C_fold K_r10_Read (by kernel_rfl) h
/-! ### ledger/tile.Read -/
noncomputable def B_tile_Read : Code := match Tryz.f7.body with | some c => c | _ => .skip
noncomputable def X_tile_Read : Cx := { P := PP, fn := 7, N := 148, tab := tab, results := [.tmp 14, .tmp 15], iter := fun _ => (.none, .none), dyn := fun _ => false, live := fun r => cond (Nat.beq r 10) (some [0, 1, 2, 5, 6, 10, 16, 18, 48, 49, 50]) (cond (Nat.beq r 14) (some [0, 1, 2, 5, 6, 10, 16, 18, 48, 49, 50]) (cond (Nat.beq r 17) (some [0, 1, 2, 5, 6, 10, 16, 18, 21, 69, 70, 71]) (cond (Nat.beq r 30) (some [0, 1, 6, 21, 111, 112, 113]) (cond (Nat.beq r 34) (some [0, 1, 6, 21, 111, 112, 113]) (none))))) }
theorem K_tile_Read : OkF X_tile_Read B_tile_Read Tryz.f7 := ⟨⟨tab_ok, mix_ok⟩, Tryz.func7, by kernel_rfl, by kernel_rfl, by kernel_rfl, by kernel_rfl⟩
noncomputable def N_tile_Read.j10 (Q : Value → World → Prop) (s0 : Int) (s1 : Int) (s2 : Int) (s5 : Option Addr) (s5n : Nat) (s5c : Nat) (s6 : Option Addr) (s6n : Nat) (s6c : Nat) (s10 : Addr) (s16 : Option Addr) (s16n : Nat) (s16c : Nat) (s18 : Option Nat) (s48 : Option Addr) (s48n : Nat) (s48c : Nat) (s49 : Int) (s50 : Int) (w : World) : Prop := Nd X_tile_Read Q [(0, 0, .int .i64 s0), (1, 1, .int .i64 s1), (2, 2, .int .i64 s2), (5, 5, .slice s5 s5n s5c), (6, 6, .slice s6 s6n s6c), (10, 10, .pointer (some s10)), (16, 16, .slice s16 s16n s16c), (18, 18, .map s18), (48, 48, .slice s48 s48n s48c), (49, 49, .int .i64 s49), (50, 50, .int .i64 s50)] [.code (B_tile_Read.r.r.r.r.r.r.l.r.l.l.l), .code (B_tile_Read.r.r.r.r.r.r.l.r.l.l.r), .inLoop (B_tile_Read.r.r.r.r.r.r.l.r.l.l), .inBlock 0, .code (B_tile_Read.r.r.r.r.r.r.r)] w
noncomputable def N_tile_Read.j14 (Q : Value → World → Prop) (s0 : Int) (s1 : Int) (s2 : Int) (s5 : Option Addr) (s5n : Nat) (s5c : Nat) (s6 : Option Addr) (s6n : Nat) (s6c : Nat) (s10 : Addr) (s16 : Option Addr) (s16n : Nat) (s16c : Nat) (s18 : Option Nat) (s48 : Option Addr) (s48n : Nat) (s48c : Nat) (s49 : Int) (s50 : Int) (w : World) : Prop := Nd X_tile_Read Q [(0, 0, .int .i64 s0), (1, 1, .int .i64 s1), (2, 2, .int .i64 s2), (5, 5, .slice s5 s5n s5c), (6, 6, .slice s6 s6n s6c), (10, 10, .pointer (some s10)), (16, 16, .slice s16 s16n s16c), (18, 18, .map s18), (48, 48, .slice s48 s48n s48c), (49, 49, .int .i64 s49), (50, 50, .int .i64 s50)] [.code (B_tile_Read.r.r.r.r.r.r.l.r.l.l.r.r.r), .inLoop (B_tile_Read.r.r.r.r.r.r.l.r.l.l), .inBlock 0, .code (B_tile_Read.r.r.r.r.r.r.r)] w
noncomputable def N_tile_Read.j17 (Q : Value → World → Prop) (s0 : Int) (s1 : Int) (s2 : Int) (s5 : Option Addr) (s5n : Nat) (s5c : Nat) (s6 : Option Addr) (s6n : Nat) (s6c : Nat) (s10 : Addr) (s16 : Option Addr) (s16n : Nat) (s16c : Nat) (s18 : Option Nat) (s21 : Addr) (s69 : Option Addr) (s69n : Nat) (s69c : Nat) (s70 : Int) (s71 : Int) (w : World) : Prop := Nd X_tile_Read Q [(0, 0, .int .i64 s0), (1, 1, .int .i64 s1), (2, 2, .int .i64 s2), (5, 5, .slice s5 s5n s5c), (6, 6, .slice s6 s6n s6c), (10, 10, .pointer (some s10)), (16, 16, .slice s16 s16n s16c), (18, 18, .map s18), (21, 21, .pointer (some s21)), (69, 69, .slice s69 s69n s69c), (70, 70, .int .i64 s70), (71, 71, .int .i64 s71)] [.code (B_tile_Read.r.r.r.r.r.r.r.r.l.r.l.l.l), .code (B_tile_Read.r.r.r.r.r.r.r.r.l.r.l.l.r), .inLoop (B_tile_Read.r.r.r.r.r.r.r.r.l.r.l.l), .inBlock 2, .code (B_tile_Read.r.r.r.r.r.r.r.r.r)] w
noncomputable def N_tile_Read.j30 (Q : Value → World → Prop) (s0 : Int) (s1 : Int) (s6 : Option Addr) (s6n : Nat) (s6c : Nat) (s21 : Addr) (s111 : Option Addr) (s111n : Nat) (s111c : Nat) (s112 : Int) (s113 : Int) (w : World) : Prop := Nd X_tile_Read Q [(0, 0, .int .i64 s0), (1, 1, .int .i64 s1), (6, 6, .slice s6 s6n s6c), (21, 21, .pointer (some s21)), (111, 111, .slice s111 s111n s111c), (112, 112, .int .i64 s112), (113, 113, .int .i64 s113)] [.code (B_tile_Read.r.r.r.r.r.r.r.r.r.r.r.l.r.l.l.l), .code (B_tile_Read.r.r.r.r.r.r.r.r.r.r.r.l.r.l.l.r), .inLoop (B_tile_Read.r.r.r.r.r.r.r.r.r.r.r.l.r.l.l), .inBlock 4, .code (B_tile_Read.r.r.r.r.r.r.r.r.r.r.r.r)] w
noncomputable def N_tile_Read.j34 (Q : Value → World → Prop) (s0 : Int) (s1 : Int) (s6 : Option Addr) (s6n : Nat) (s6c : Nat) (s21 : Addr) (s111 : Option Addr) (s111n : Nat) (s111c : Nat) (s112 : Int) (s113 : Int) (w : World) : Prop := Nd X_tile_Read Q [(0, 0, .int .i64 s0), (1, 1, .int .i64 s1), (6, 6, .slice s6 s6n s6c), (21, 21, .pointer (some s21)), (111, 111, .slice s111 s111n s111c), (112, 112, .int .i64 s112), (113, 113, .int .i64 s113)] [.code (B_tile_Read.r.r.r.r.r.r.r.r.r.r.r.l.r.l.l.r.r.r), .inLoop (B_tile_Read.r.r.r.r.r.r.r.r.r.r.r.l.r.l.l), .inBlock 4, .code (B_tile_Read.r.r.r.r.r.r.r.r.r.r.r.r)] w
theorem N_tile_Read.j10_eq (Q : Value → World → Prop) (s0 : Int) (s1 : Int) (s2 : Int) (s5 : Option Addr) (s5n : Nat) (s5c : Nat) (s6 : Option Addr) (s6n : Nat) (s6c : Nat) (s10 : Addr) (s16 : Option Addr) (s16n : Nat) (s16c : Nat) (s18 : Option Nat) (s48 : Option Addr) (s48n : Nat) (s48c : Nat) (s49 : Int) (s50 : Int) (w : World) (h :
  cond (decide (s50 < s49))
  ((0 : Int) ≤ s50 ∧
  s50 < ((s48n : Nat) : Int) ∧
  opnA s48 fun ad1 =>
  opnI .i64 (w.cell? ((ad1.add (Int.toNat s50 * 5)).add 0)) fun x2 =>
  opnI .i64 (w.cell? ((ad1.add (Int.toNat s50 * 5)).add 1)) fun x3 =>
  opnI .i64 (w.cell? ((ad1.add (Int.toNat s50 * 5)).add 2)) fun x4 =>
  opnI .i64 (w.cell? ((ad1.add (Int.toNat s50 * 5)).add 3)) fun x5 =>
  opnB (w.cell? ((ad1.add (Int.toNat s50 * 5)).add 4)) fun x6 =>
  alC #[.int .i64 0, .int .i64 0, .int .i64 0, .int .i64 0, .bool false] 34 w fun p7 w8 =>
  Array.size (#[.int .i64 x2, .int .i64 x3, .int .i64 x4, .int .i64 x5, .bool x6] : Array Value) = 5 ∧
  stC (p7.add 0) (.int .i64 x2) w8 fun w9 =>
  stC (p7.add 1) (.int .i64 x3) w9 fun w10 =>
  stC (p7.add 2) (.int .i64 x4) w10 fun w11 =>
  stC (p7.add 3) (.int .i64 x5) w11 fun w12 =>
  stC (p7.add 4) (.bool x6) w12 fun w13 =>
  opnI .i64 (w13.cell? (p7.add 0)) fun x14 =>
  opnI .i64 (w13.cell? (p7.add 1)) fun x15 =>
  opnI .i64 (w13.cell? (p7.add 2)) fun x16 =>
  opnI .i64 (w13.cell? (p7.add 3)) fun x17 =>
  opnB (w13.cell? (p7.add 4)) fun x18 =>
  semR PP (Instr.lookup 57 (.map s18) (.agg #[.int .i64 x14, .int .i64 x15, .int .i64 x16, .int .i64 x17, .bool x18]) false) w13 fun x19 =>
  opnI .i64 (some x19) fun x20 =>
  cond (x20 == 0)
  (opnI .i64 (w13.cell? (p7.add 0)) fun x21 =>
  opnI .i64 (w13.cell? (p7.add 1)) fun x22 =>
  opnI .i64 (w13.cell? (p7.add 2)) fun x23 =>
  opnI .i64 (w13.cell? (p7.add 3)) fun x24 =>
  opnB (w13.cell? (p7.add 4)) fun x25 =>
  semU PP (Instr.mapUpdate 57 (.map s18) (.agg #[.int .i64 x21, .int .i64 x22, .int .i64 x23, .int .i64 x24, .bool x25]) (.int .i64 (IntKind.wrap .i64 (s50 + 1)))) w13 fun w26 =>
  N_tile_Read.j14 Q s0 s1 s2 s5 s5n s5c s6 s6n s6c s10 s16 s16n s16c s18 s48 s48n s48c s49 s50 w26)
  (N_tile_Read.j14 Q s0 s1 s2 s5 s5n s5c s6 s6n s6c s10 s16 s16n s16c s18 s48 s48n s48c s49 s50 w13))
  (alM w fun r27 w28 =>
  alC #[.int .i64 0, .int .i64 0, .int .i64 0, .map none] 60 w28 fun p29 w30 =>
  Array.size (#[.int .i64 s0, .int .i64 s1, .int .i64 s2, .map (some r27)] : Array Value) = 4 ∧
  stC (p29.add 0) (.int .i64 s0) w30 fun w31 =>
  stC (p29.add 1) (.int .i64 s1) w31 fun w32 =>
  stC (p29.add 2) (.int .i64 s2) w32 fun w33 =>
  stC (p29.add 3) (.map (some r27)) w33 fun w34 =>
  N_tile_Read.j17 Q s0 s1 s2 s5 s5n s5c s6 s6n s6c s10 s16 s16n s16c s18 p29 s16 s16n s16c ((s16n : Nat) : Int) 0 w34)) :
N_tile_Read.j10 Q s0 s1 s2 s5 s5n s5c s6 s6n s6c s10 s16 s16n s16c s18 s48 s48n s48c s49 s50 w := Nd_fold K_tile_Read (by kernel_rfl) h
theorem N_tile_Read.j14_eq (Q : Value → World → Prop) (s0 : Int) (s1 : Int) (s2 : Int) (s5 : Option Addr) (s5n : Nat) (s5c : Nat) (s6 : Option Addr) (s6n : Nat) (s6c : Nat) (s10 : Addr) (s16 : Option Addr) (s16n : Nat) (s16c : Nat) (s18 : Option Nat) (s48 : Option Addr) (s48n : Nat) (s48c : Nat) (s49 : Int) (s50 : Int) (w : World) (h :
  N_tile_Read.j10 Q s0 s1 s2 s5 s5n s5c s6 s6n s6c s10 s16 s16n s16c s18 s48 s48n s48c s49 (IntKind.wrap .i64 (s50 + 1)) w) :
N_tile_Read.j14 Q s0 s1 s2 s5 s5n s5c s6 s6n s6c s10 s16 s16n s16c s18 s48 s48n s48c s49 s50 w := Nd_fold K_tile_Read (by kernel_rfl) h
theorem N_tile_Read.j17_eq (Q : Value → World → Prop) (s0 : Int) (s1 : Int) (s2 : Int) (s5 : Option Addr) (s5n : Nat) (s5c : Nat) (s6 : Option Addr) (s6n : Nat) (s6c : Nat) (s10 : Addr) (s16 : Option Addr) (s16n : Nat) (s16c : Nat) (s18 : Option Nat) (s21 : Addr) (s69 : Option Addr) (s69n : Nat) (s69c : Nat) (s70 : Int) (s71 : Int) (w : World) (h :
  cond (decide (s71 < s70))
  ((0 : Int) ≤ s71 ∧
  s71 < ((s69n : Nat) : Int) ∧
  opnA s69 fun ad1 =>
  opnI .i64 (w.cell? ((ad1.add (Int.toNat s71 * 5)).add 0)) fun x2 =>
  opnI .i64 (w.cell? ((ad1.add (Int.toNat s71 * 5)).add 1)) fun x3 =>
  opnI .i64 (w.cell? ((ad1.add (Int.toNat s71 * 5)).add 2)) fun x4 =>
  opnI .i64 (w.cell? ((ad1.add (Int.toNat s71 * 5)).add 3)) fun x5 =>
  opnB (w.cell? ((ad1.add (Int.toNat s71 * 5)).add 4)) fun x6 =>
  alC #[.int .i64 0, .int .i64 0, .int .i64 0, .int .i64 0, .bool false] 34 w fun p7 w8 =>
  Array.size (#[.int .i64 x2, .int .i64 x3, .int .i64 x4, .int .i64 x5, .bool x6] : Array Value) = 5 ∧
  stC (p7.add 0) (.int .i64 x2) w8 fun w9 =>
  stC (p7.add 1) (.int .i64 x3) w9 fun w10 =>
  stC (p7.add 2) (.int .i64 x4) w10 fun w11 =>
  stC (p7.add 3) (.int .i64 x5) w11 fun w12 =>
  stC (p7.add 4) (.bool x6) w12 fun w13 =>
  opnI .i64 (w13.cell? (p7.add 0)) fun x14 =>
  opnI .i64 (w13.cell? (p7.add 1)) fun x15 =>
  opnI .i64 (w13.cell? (p7.add 2)) fun x16 =>
  opnI .i64 (w13.cell? (p7.add 3)) fun x17 =>
  opnB (w13.cell? (p7.add 4)) fun x18 =>
  semR PP (Instr.lookup 57 (.map s18) (.agg #[.int .i64 x14, .int .i64 x15, .int .i64 x16, .int .i64 x17, .bool x18]) false) w13 fun x19 =>
  opnI .i64 (some x19) fun x20 =>
  cond (x20 == 0)
  (Q (.tuple #[.slice none 0 0, .int .i64 103]) w13)
  (drw w13 fun w21 =>
  (0 : Int) ≤ IntKind.wrap .i64 (x20 - 1) ∧
  (IntKind.wrap .i64 (x20 - 1)) < ((s5n : Nat) : Int) ∧
  opnA s5 fun ad22 =>
  opnL (w21.cell? (ad22.add (Int.toNat (IntKind.wrap .i64 (x20 - 1)) * 1))) fun x23 x23n x23c =>
  opnI .i64 (w21.cell? (p7.add 3)) fun x24 =>
  cond (((x23n : Nat) : Int) != (IntKind.wrap .i64 (32 * x24)))
  (Q (.tuple #[.slice none 0 0, .int .i64 102]) w21)
  (drw w21 fun w25 =>
  (0 : Int) ≤ IntKind.wrap .i64 (x20 - 1) ∧
  (IntKind.wrap .i64 (x20 - 1)) < ((s5n : Nat) : Int) ∧
  opnA s5 fun ad26 =>
  opnM (w25.cell? (s21.add 3)) fun x27 =>
  opnI .i64 (w25.cell? (p7.add 0)) fun x28 =>
  opnI .i64 (w25.cell? (p7.add 1)) fun x29 =>
  opnI .i64 (w25.cell? (p7.add 2)) fun x30 =>
  opnI .i64 (w25.cell? (p7.add 3)) fun x31 =>
  opnB (w25.cell? (p7.add 4)) fun x32 =>
  opnL (w25.cell? (ad26.add (Int.toNat (IntKind.wrap .i64 (x20 - 1)) * 1))) fun x33 x33n x33c =>
  semU PP (Instr.mapUpdate 58 (.map x27) (.agg #[.int .i64 x28, .int .i64 x29, .int .i64 x30, .int .i64 x31, .bool x32]) (.slice x33 x33n x33c)) w25 fun w34 =>
  N_tile_Read.j17 Q s0 s1 s2 s5 s5n s5c s6 s6n s6c s10 s16 s16n s16c s18 s21 s69 s69n s69c s70 (IntKind.wrap .i64 (s71 + 1)) w34)))
  (C_tlog_Peaks #[.int .i64 s2] w fun v35 w36 =>
  opnT (some v35) fun x37 =>
  x37.size = 2 ∧
  opnL (x37[0]?) fun x38 x38n x38c =>
  opnI .i64 (x37[1]?) fun x39 =>
  drw w36 fun w40 =>
  opnI .i64 (w40.cell? (s21.add 0)) fun x41 =>
  opnI .i64 (w40.cell? (s21.add 1)) fun x42 =>
  opnI .i64 (w40.cell? (s21.add 2)) fun x43 =>
  opnM (w40.cell? (s21.add 3)) fun x44 =>
  opnRow w40 s10 (32 * 1) fun x45 =>
  C_tile_shelf_hashes #[.agg #[.int .i64 x41, .int .i64 x42, .int .i64 x43, .map x44], .slice x38 x38n x38c] w40 fun v46 w47 =>
  opnL (some v46) fun x48 x48n x48c =>
  (opnRow w47 s10 (32 * 1) fun x49 =>
  ((.agg x49) : Value) = .agg x45) ∧
  C_tlog_Fold #[.int .i64 s0, .slice x48 x48n x48c] w47 fun v50 w51 =>
  opnG (some v50) fun x52 =>
  (opnRow w51 s10 (32 * 1) fun x53 =>
  ((.agg x53) : Value) = .agg x45) ∧
  semR PP (do eqGuard .neq 54 (.tmp 108) (.tmp 109) (.agg x52) (.agg x45); binOp .neq 54 (.agg x52) (.agg x45)) w51 fun x54 =>
  opnB (some x54) fun x55 =>
  cond x55
  (Q (.tuple #[.slice none 0 0, .int .i64 104]) w51)
  (N_tile_Read.j30 Q s0 s1 s6 s6n s6c s21 s16 s16n s16c ((s16n : Nat) : Int) 0 w51))) :
N_tile_Read.j17 Q s0 s1 s2 s5 s5n s5c s6 s6n s6c s10 s16 s16n s16c s18 s21 s69 s69n s69c s70 s71 w := Nd_fold K_tile_Read (by kernel_rfl) h
theorem N_tile_Read.j30_eq (Q : Value → World → Prop) (s0 : Int) (s1 : Int) (s6 : Option Addr) (s6n : Nat) (s6c : Nat) (s21 : Addr) (s111 : Option Addr) (s111n : Nat) (s111c : Nat) (s112 : Int) (s113 : Int) (w : World) (h :
  cond (decide (s113 < s112))
  ((0 : Int) ≤ s113 ∧
  s113 < ((s111n : Nat) : Int) ∧
  opnA s111 fun ad1 =>
  opnI .i64 (w.cell? ((ad1.add (Int.toNat s113 * 5)).add 0)) fun x2 =>
  opnI .i64 (w.cell? ((ad1.add (Int.toNat s113 * 5)).add 1)) fun x3 =>
  opnI .i64 (w.cell? ((ad1.add (Int.toNat s113 * 5)).add 2)) fun x4 =>
  opnI .i64 (w.cell? ((ad1.add (Int.toNat s113 * 5)).add 3)) fun x5 =>
  opnB (w.cell? ((ad1.add (Int.toNat s113 * 5)).add 4)) fun x6 =>
  alC #[.int .i64 0, .int .i64 0, .int .i64 0, .int .i64 0, .bool false] 34 w fun p7 w8 =>
  Array.size (#[.int .i64 x2, .int .i64 x3, .int .i64 x4, .int .i64 x5, .bool x6] : Array Value) = 5 ∧
  stC (p7.add 0) (.int .i64 x2) w8 fun w9 =>
  stC (p7.add 1) (.int .i64 x3) w9 fun w10 =>
  stC (p7.add 2) (.int .i64 x4) w10 fun w11 =>
  stC (p7.add 3) (.int .i64 x5) w11 fun w12 =>
  stC (p7.add 4) (.bool x6) w12 fun w13 =>
  drw w13 fun w14 =>
  opnI .i64 (w14.cell? (p7.add 3)) fun x15 =>
  C_tile_full #[.int .i64 s1] w14 fun v16 w17 =>
  opnI .i64 (some v16) fun x18 =>
  (opnI .i64 (w17.cell? (p7.add 3)) fun x19 =>
  ((.int .i64 x19) : Value) = .int .i64 x15) ∧
  cond (x15 == x18)
  (opnI .i64 (w17.cell? (p7.add 1)) fun x20 =>
  cond (decide ((IntKind.wrap .i64 (s1 * (IntKind.wrap .i64 (x20 + 1)))) ≤ 48))
  (opnM (w17.cell? (s21.add 3)) fun x21 =>
  opnI .i64 (w17.cell? (p7.add 0)) fun x22 =>
  opnI .i64 (w17.cell? (p7.add 1)) fun x23 =>
  opnI .i64 (w17.cell? (p7.add 2)) fun x24 =>
  opnI .i64 (w17.cell? (p7.add 3)) fun x25 =>
  opnB (w17.cell? (p7.add 4)) fun x26 =>
  semR PP (Instr.lookup 58 (.map x21) (.agg #[.int .i64 x22, .int .i64 x23, .int .i64 x24, .int .i64 x25, .bool x26]) false) w17 fun x27 =>
  opnL (some x27) fun x28 x28n x28c =>
  opnI .i64 (w17.cell? (s21.add 0)) fun x29 =>
  opnI .i64 (w17.cell? (s21.add 1)) fun x30 =>
  opnI .i64 (w17.cell? (s21.add 2)) fun x31 =>
  opnM (w17.cell? (s21.add 3)) fun x32 =>
  opnI .i64 (w17.cell? (p7.add 0)) fun x33 =>
  opnI .i64 (w17.cell? (p7.add 1)) fun x34 =>
  opnI .i64 (w17.cell? (p7.add 2)) fun x35 =>
  opnI .i64 (w17.cell? (p7.add 3)) fun x36 =>
  opnB (w17.cell? (p7.add 4)) fun x37 =>
  C_tile_joined #[.int .i64 s0, .slice x28 x28n x28c, .int .i64 0, .int .i64 s1] w17 fun v38 w39 =>
  opnG (some v38) fun x40 =>
  (opnI .i64 (w39.cell? (p7.add 0)) fun x41 =>
  opnI .i64 (w39.cell? (p7.add 1)) fun x42 =>
  opnI .i64 (w39.cell? (p7.add 2)) fun x43 =>
  opnI .i64 (w39.cell? (p7.add 3)) fun x44 =>
  opnB (w39.cell? (p7.add 4)) fun x45 =>
  ((.agg #[.int .i64 x41, .int .i64 x42, .int .i64 x43, .int .i64 x44, .bool x45]) : Value) = .agg #[.int .i64 x33, .int .i64 x34, .int .i64 x35, .int .i64 x36, .bool x37]) ∧
  (opnI .i64 (w39.cell? (s21.add 0)) fun x46 =>
  opnI .i64 (w39.cell? (s21.add 1)) fun x47 =>
  opnI .i64 (w39.cell? (s21.add 2)) fun x48 =>
  opnM (w39.cell? (s21.add 3)) fun x49 =>
  ((.agg #[.int .i64 x46, .int .i64 x47, .int .i64 x48, .map x49]) : Value) = .agg #[.int .i64 x29, .int .i64 x30, .int .i64 x31, .map x32]) ∧
  C_tile_topOf #[.agg #[.int .i64 x33, .int .i64 x34, .int .i64 x35, .int .i64 x36, .bool x37]] w39 fun v50 w51 =>
  opnI .i64 (some v50) fun x52 =>
  (opnI .i64 (w51.cell? (s21.add 0)) fun x53 =>
  opnI .i64 (w51.cell? (s21.add 1)) fun x54 =>
  opnI .i64 (w51.cell? (s21.add 2)) fun x55 =>
  opnM (w51.cell? (s21.add 3)) fun x56 =>
  ((.agg #[.int .i64 x53, .int .i64 x54, .int .i64 x55, .map x56]) : Value) = .agg #[.int .i64 x29, .int .i64 x30, .int .i64 x31, .map x32]) ∧
  C_tile_shelf_hash #[.agg #[.int .i64 x29, .int .i64 x30, .int .i64 x31, .map x32], .int .i64 x52] w51 fun v57 w58 =>
  opnG (some v57) fun x59 =>
  semR PP (do eqGuard .neq 54 (.tmp 137) (.tmp 141) (.agg x40) (.agg x59); binOp .neq 54 (.agg x40) (.agg x59)) w58 fun x60 =>
  opnB (some x60) fun x61 =>
  cond x61
  (Q (.tuple #[.slice none 0 0, .int .i64 104]) w58)
  (N_tile_Read.j34 Q s0 s1 s6 s6n s6c s21 s111 s111n s111c s112 s113 w58))
  (N_tile_Read.j34 Q s0 s1 s6 s6n s6c s21 s111 s111n s111c s112 s113 w17))
  (N_tile_Read.j34 Q s0 s1 s6 s6n s6c s21 s111 s111n s111c s112 s113 w17))
  (opnI .i64 (w.cell? (s21.add 0)) fun x62 =>
  opnI .i64 (w.cell? (s21.add 1)) fun x63 =>
  opnI .i64 (w.cell? (s21.add 2)) fun x64 =>
  opnM (w.cell? (s21.add 3)) fun x65 =>
  C_tile_shelf_hashes #[.agg #[.int .i64 x62, .int .i64 x63, .int .i64 x64, .map x65], .slice s6 s6n s6c] w fun v66 w67 =>
  opnL (some v66) fun x68 x68n x68c =>
  Q (.tuple #[.slice x68 x68n x68c, .int .i64 0]) w67)) :
N_tile_Read.j30 Q s0 s1 s6 s6n s6c s21 s111 s111n s111c s112 s113 w := Nd_fold K_tile_Read (by kernel_rfl) h
theorem N_tile_Read.j34_eq (Q : Value → World → Prop) (s0 : Int) (s1 : Int) (s6 : Option Addr) (s6n : Nat) (s6c : Nat) (s21 : Addr) (s111 : Option Addr) (s111n : Nat) (s111c : Nat) (s112 : Int) (s113 : Int) (w : World) (h :
  N_tile_Read.j30 Q s0 s1 s6 s6n s6c s21 s111 s111n s111c s112 (IntKind.wrap .i64 (s113 + 1)) w) :
N_tile_Read.j34 Q s0 s1 s6 s6n s6c s21 s111 s111n s111c s112 s113 w := Nd_fold K_tile_Read (by kernel_rfl) h
theorem C_tile_Read_eq (Q : Value → World → Prop) (a0 : Int) (a1 : Int) (a2 : Int) (a3 : Array Value) (a4 : Option Addr) (a4n : Nat) (a4c : Nat) (a5 : Option Addr) (a5n : Nat) (a5c : Nat) (a6 : Option Addr) (a6n : Nat) (a6c : Nat) (w : World) (h :
  alC a3 54 w fun p1 w2 =>
  cond (((a4n : Nat) : Int) != ((a5n : Nat) : Int))
  (Q (.tuple #[.slice none 0 0, .int .i64 54]) w2)
  (cond (decide (((a4n : Nat) : Int) > 4096))
  (Q (.tuple #[.slice none 0 0, .int .i64 2]) w2)
  (C_tile_Plan #[.int .i64 a1, .int .i64 a2, .slice a6 a6n a6c] w2 fun v3 w4 =>
  opnT (some v3) fun x5 =>
  x5.size = 2 ∧
  opnL (x5[0]?) fun x6 x6n x6c =>
  opnI .i64 (x5[1]?) fun x7 =>
  cond (x7 != 0)
  (Q (.tuple #[.slice none 0 0, .int .i64 x7]) w4)
  (alM w4 fun r8 w9 =>
  N_tile_Read.j10 Q a0 a1 a2 a5 a5n a5c a6 a6n a6c p1 x6 x6n x6c (some r8) a4 a4n a4c ((a4n : Nat) : Int) 0 w9)))) :
C_tile_Read #[.int .i64 a0, .int .i64 a1, .int .i64 a2, .agg a3, .slice a4 a4n a4c, .slice a5 a5n a5c, .slice a6 a6n a6c] w Q := C_fold K_tile_Read (by kernel_rfl) h
/-! ### ledger/ledgerlaw10.hashes -/
noncomputable def B_l10_hashes : Code := match Tryz.f8.body with | some c => c | _ => .skip
noncomputable def X_l10_hashes : Cx := { P := PP, fn := 8, N := 26, tab := tab, results := [.tmp 4], iter := fun _ => (.none, .none), dyn := fun _ => false, live := fun r => cond (Nat.beq r 4) (some [0, 1, 5]) (none) }
theorem K_l10_hashes : OkF X_l10_hashes B_l10_hashes Tryz.f8 := ⟨⟨tab_ok, mix_ok⟩, Tryz.func8, by kernel_rfl, by kernel_rfl, by kernel_rfl, by kernel_rfl⟩
noncomputable def N_l10_hashes.j4 (Q : Value → World → Prop) (s0 : Option Addr) (s0n : Nat) (s0c : Nat) (s1 : Option Addr) (s1n : Nat) (s1c : Nat) (s5 : Int) (w : World) : Prop := Nd X_l10_hashes Q [(0, 0, .slice s0 s0n s0c), (1, 1, .slice s1 s1n s1c), (5, 5, .int .i64 s5)] [.code (B_l10_hashes.r.r.l.r.l.l.l.l), .code (B_l10_hashes.r.r.l.r.l.l.l.r), .code (B_l10_hashes.r.r.l.r.l.l.r), .inLoop (B_l10_hashes.r.r.l.r.l.l), .inBlock 0, .code (B_l10_hashes.r.r.r)] w
theorem N_l10_hashes.j4_eq (Q : Value → World → Prop) (s0 : Option Addr) (s0n : Nat) (s0c : Nat) (s1 : Option Addr) (s1n : Nat) (s1c : Nat) (s5 : Int) (w : World) (h :
  cond (decide (s5 < ((s0n : Nat) : Int)))
  (drw w fun w1 =>
  (0 : Int) ≤ s5 ∧
  s5 < ((s0n : Nat) : Int) ∧
  opnA s0 fun ad2 =>
  (0 : Int) ≤ s5 ∧
  s5 < ((s1n : Nat) : Int) ∧
  opnA s1 fun ad3 =>
  opnRow w1 (ad2.add (Int.toNat s5 * 32)) (32 * 1) fun x4 =>
  opnRow w1 (ad3.add (Int.toNat s5 * 32)) (32 * 1) fun x5 =>
  semR PP (do eqGuard .neq 54 (.tmp 20) (.tmp 24) (.agg x4) (.agg x5); binOp .neq 54 (.agg x4) (.agg x5)) w1 fun x6 =>
  opnB (some x6) fun x7 =>
  cond x7
  (Q (.bool false) w1)
  (N_l10_hashes.j4 Q s0 s0n s0c s1 s1n s1c (IntKind.wrap .i64 (s5 + 1)) w1))
  (Q (.bool true) w)) :
N_l10_hashes.j4 Q s0 s0n s0c s1 s1n s1c s5 w := Nd_fold K_l10_hashes (by kernel_rfl) h
theorem C_l10_hashes_eq (Q : Value → World → Prop) (a0 : Option Addr) (a0n : Nat) (a0c : Nat) (a1 : Option Addr) (a1n : Nat) (a1c : Nat) (w : World) (h :
  cond (((a0n : Nat) : Int) != ((a1n : Nat) : Int))
  (Q (.bool false) w)
  (N_l10_hashes.j4 Q a0 a0n a0c a1 a1n a1c 0 w)) :
C_l10_hashes #[.slice a0 a0n a0c, .slice a1 a1n a1c] w Q := C_fold K_l10_hashes (by kernel_rfl) h
/-! ### ledger/ledgerlaw10.num -/
noncomputable def B_l10_num : Code := match Tryz.f9.body with | some c => c | _ => .skip
noncomputable def X_l10_num : Cx := { P := PP, fn := 9, N := 4, tab := tab, results := [.tmp 2], iter := fun _ => (.none, .none), dyn := fun _ => false, live := fun _ => none }
theorem K_l10_num : OkF X_l10_num B_l10_num Tryz.f9 := ⟨⟨tab_ok, mix_ok⟩, Tryz.func9, by kernel_rfl, by kernel_rfl, by kernel_rfl, by kernel_rfl⟩
theorem C_l10_num_eq (Q : Value → World → Prop) (a0 : Int) (w : World) (h :
  Q (.int .i64 a0) w) :
C_l10_num #[.int .i64 a0] w Q := C_fold K_l10_num (by kernel_rfl) h
/-! ### ledger/ledgerlaw10.filled -/
noncomputable def B_l10_filled : Code := match Tryz.f10.body with | some c => c | _ => .skip
noncomputable def X_l10_filled : Cx := { P := PP, fn := 10, N := 33, tab := tab, results := [.tmp 4], iter := fun _ => (.none, .none), dyn := fun _ => false, live := fun r => cond (Nat.beq r 3) (some [0, 1, 5, 6]) (cond (Nat.beq r 7) (some [0, 5, 7]) (none)) }
theorem K_l10_filled : OkF X_l10_filled B_l10_filled Tryz.f10 := ⟨⟨tab_ok, mix_ok⟩, Tryz.func10, by kernel_rfl, by kernel_rfl, by kernel_rfl, by kernel_rfl⟩
noncomputable def N_l10_filled.j3 (Q : Value → World → Prop) (s0 : Option Addr) (s0n : Nat) (s0c : Nat) (s1 : Int) (s5 : Addr) (s6 : Int) (w : World) : Prop := Nd X_l10_filled Q [(0, 0, .slice s0 s0n s0c), (1, 1, .int .u8 s1), (5, 5, .pointer (some s5)), (6, 6, .int .i64 s6)] [.code (B_l10_filled.r.r.l.r.l.l.l.l), .code (B_l10_filled.r.r.l.r.l.l.l.r), .code (B_l10_filled.r.r.l.r.l.l.r), .inLoop (B_l10_filled.r.r.l.r.l.l), .inBlock 0, .code (B_l10_filled.r.r.r)] w
noncomputable def N_l10_filled.j7 (Q : Value → World → Prop) (s0 : Option Addr) (s0n : Nat) (s0c : Nat) (s5 : Addr) (s7 : Int) (w : World) : Prop := Nd X_l10_filled Q [(0, 0, .slice s0 s0n s0c), (5, 5, .pointer (some s5)), (7, 7, .int .i64 s7)] [.code (B_l10_filled.r.r.r.l.r.l.l.l.l), .code (B_l10_filled.r.r.r.l.r.l.l.l.r), .code (B_l10_filled.r.r.r.l.r.l.l.r), .inLoop (B_l10_filled.r.r.r.l.r.l.l), .inBlock 2, .code (B_l10_filled.r.r.r.r)] w
theorem N_l10_filled.j3_eq (Q : Value → World → Prop) (s0 : Option Addr) (s0n : Nat) (s0c : Nat) (s1 : Int) (s5 : Addr) (s6 : Int) (w : World) (h :
  cond (decide (s6 < 32))
  ((0 : Int) ≤ s6 ∧
  s6 < ((32 : Nat) : Int) ∧
  stC (s5.add (Int.toNat s6 * 1)) (.int .u8 s1) w fun w1 =>
  N_l10_filled.j3 Q s0 s0n s0c s1 s5 (IntKind.wrap .i64 (s6 + 1)) w1)
  (N_l10_filled.j7 Q s0 s0n s0c s5 0 w)) :
N_l10_filled.j3 Q s0 s0n s0c s1 s5 s6 w := Nd_fold K_l10_filled (by kernel_rfl) h
theorem N_l10_filled.j7_eq (Q : Value → World → Prop) (s0 : Option Addr) (s0n : Nat) (s0c : Nat) (s5 : Addr) (s7 : Int) (w : World) (h :
  cond (decide (s7 < ((s0n : Nat) : Int)))
  (opnRow w s5 (32 * 1) fun x1 =>
  (0 : Int) ≤ s7 ∧
  s7 < ((s0n : Nat) : Int) ∧
  opnA s0 fun ad2 =>
  stRow (ad2.add (Int.toNat s7 * 32)) x1 (32 * 1) w fun w3 =>
  N_l10_filled.j7 Q s0 s0n s0c s5 (IntKind.wrap .i64 (s7 + 1)) w3)
  (opnRow w s5 (32 * 1) fun x4 =>
  x4.size = 32 ∧
  alC x4 54 w fun p7 w6 =>
  sem PP (Builtin.append_ #[38, 38] 38 #[.slice s0 s0n s0c, .slice (some p7) 1 1]) w6 fun v8 w9 =>
  opnL (some v8) fun x10 x10n x10c =>
  alC #[.slice s0 s0n s0c, .slice x10 x10n x10c] 38 w9 fun p11 w12 =>
  Q (.slice (some p11) 2 2) w12)) :
N_l10_filled.j7 Q s0 s0n s0c s5 s7 w := Nd_fold K_l10_filled (by kernel_rfl) h
theorem C_l10_filled_eq (Q : Value → World → Prop) (a0 : Option Addr) (a0n : Nat) (a0c : Nat) (a1 : Int) (w : World) (h :
  alZ PP 54 w fun p1 w2 =>
  N_l10_filled.j3 Q a0 a0n a0c a1 p1 0 w2) :
C_l10_filled #[.slice a0 a0n a0c, .int .u8 a1] w Q := C_fold K_l10_filled (by kernel_rfl) h
/-! ### ledger/ledgerlaw10.bears -/
noncomputable def B_l10_bears : Code := match Tryz.f11.body with | some c => c | _ => .skip
noncomputable def X_l10_bears : Cx := { P := PP, fn := 11, N := 44, tab := tab, results := [.tmp 4], iter := fun _ => (.none, .none), dyn := fun _ => false, live := fun r => cond (Nat.beq r 2) (some [0, 1, 5]) (cond (Nat.beq r 5) (some [0, 1, 5, 6]) (cond (Nat.beq r 8) (some []) (none))) }
theorem K_l10_bears : OkF X_l10_bears B_l10_bears Tryz.f11 := ⟨⟨tab_ok, mix_ok⟩, Tryz.func11, by kernel_rfl, by kernel_rfl, by kernel_rfl, by kernel_rfl⟩
noncomputable def N_l10_bears.j2 (Q : Value → World → Prop) (s0 : Option Addr) (s0n : Nat) (s0c : Nat) (s1 : Int) (s5 : Int) (w : World) : Prop := Nd X_l10_bears Q [(0, 0, .slice s0 s0n s0c), (1, 1, .int .u8 s1), (5, 5, .int .i64 s5)] [.code (B_l10_bears.r.l.r.l.l.l.l), .code (B_l10_bears.r.l.r.l.l.l.r), .code (B_l10_bears.r.l.r.l.l.r), .inLoop (B_l10_bears.r.l.r.l.l), .inBlock 0, .code (B_l10_bears.r.r)] w
noncomputable def N_l10_bears.j5 (Q : Value → World → Prop) (s0 : Option Addr) (s0n : Nat) (s0c : Nat) (s1 : Int) (s5 : Int) (s6 : Int) (w : World) : Prop := Nd X_l10_bears Q [(0, 0, .slice s0 s0n s0c), (1, 1, .int .u8 s1), (5, 5, .int .i64 s5), (6, 6, .int .i64 s6)] [.code (B_l10_bears.r.l.r.l.l.r.l.l.r.l.l.l.l), .code (B_l10_bears.r.l.r.l.l.r.l.l.r.l.l.l.r), .code (B_l10_bears.r.l.r.l.l.r.l.l.r.l.l.r), .inLoop (B_l10_bears.r.l.r.l.l.r.l.l.r.l.l), .inBlock 2, .inBlock 1, .code (B_l10_bears.r.l.r.l.l.r.r), .inLoop (B_l10_bears.r.l.r.l.l), .inBlock 0, .code (B_l10_bears.r.r)] w
noncomputable def N_l10_bears.j8 (Q : Value → World → Prop) (w : World) : Prop := Nd X_l10_bears Q [] [.code (B_l10_bears.r.l.r.l.l.r.l.l.r.l.l.r.l.l.r.l.l), .code (B_l10_bears.r.l.r.l.l.r.l.l.r.l.l.r.l.l.r.l.r), .inBlock 3, .code (B_l10_bears.r.l.r.l.l.r.l.l.r.l.l.r.r), .inLoop (B_l10_bears.r.l.r.l.l.r.l.l.r.l.l), .inBlock 2, .inBlock 1, .code (B_l10_bears.r.l.r.l.l.r.r), .inLoop (B_l10_bears.r.l.r.l.l), .inBlock 0, .code (B_l10_bears.r.r)] w
theorem N_l10_bears.j2_eq (Q : Value → World → Prop) (s0 : Option Addr) (s0n : Nat) (s0c : Nat) (s1 : Int) (s5 : Int) (w : World) (h :
  cond (decide (s5 < ((s0n : Nat) : Int)))
  (N_l10_bears.j5 Q s0 s0n s0c s1 s5 0 w)
  (Q (.bool true) w)) :
N_l10_bears.j2 Q s0 s0n s0c s1 s5 w := Nd_fold K_l10_bears (by kernel_rfl) h
theorem N_l10_bears.j5_eq (Q : Value → World → Prop) (s0 : Option Addr) (s0n : Nat) (s0c : Nat) (s1 : Int) (s5 : Int) (s6 : Int) (w : World) (h :
  (0 : Int) ≤ s5 ∧
  s5 < ((s0n : Nat) : Int) ∧
  opnA s0 fun ad1 =>
  opnL (w.cell? (ad1.add (Int.toNat s5 * 1))) fun x2 x2n x2c =>
  cond (decide (s6 < ((x2n : Nat) : Int)))
  ((0 : Int) ≤ s5 ∧
  s5 < ((s0n : Nat) : Int) ∧
  opnA s0 fun ad3 =>
  opnL (w.cell? (ad3.add (Int.toNat s5 * 1))) fun x4 x4n x4c =>
  (0 : Int) ≤ s6 ∧
  s6 < ((x4n : Nat) : Int) ∧
  opnA x4 fun ad5 =>
  (0 : Int) ≤ 0 ∧
  0 < ((32 : Nat) : Int) ∧
  opnI .u8 (w.cell? ((ad5.add (Int.toNat s6 * 32)).add (Int.toNat 0 * 1))) fun x6 =>
  cond (x6 != s1)
  (N_l10_bears.j8 Q w)
  ((0 : Int) ≤ s5 ∧
  s5 < ((s0n : Nat) : Int) ∧
  opnA s0 fun ad7 =>
  opnL (w.cell? (ad7.add (Int.toNat s5 * 1))) fun x8 x8n x8c =>
  (0 : Int) ≤ s6 ∧
  s6 < ((x8n : Nat) : Int) ∧
  opnA x8 fun ad9 =>
  (0 : Int) ≤ 31 ∧
  31 < ((32 : Nat) : Int) ∧
  opnI .u8 (w.cell? ((ad9.add (Int.toNat s6 * 32)).add (Int.toNat 31 * 1))) fun x10 =>
  cond (x10 != s1)
  (N_l10_bears.j8 Q w)
  (N_l10_bears.j5 Q s0 s0n s0c s1 s5 (IntKind.wrap .i64 (s6 + 1)) w)))
  (N_l10_bears.j2 Q s0 s0n s0c s1 (IntKind.wrap .i64 (s5 + 1)) w)) :
N_l10_bears.j5 Q s0 s0n s0c s1 s5 s6 w := Nd_fold K_l10_bears (by kernel_rfl) h
theorem N_l10_bears.j8_eq (Q : Value → World → Prop) (w : World) (h :
  Q (.bool false) w) :
N_l10_bears.j8 Q w := Nd_fold K_l10_bears (by kernel_rfl) h
theorem C_l10_bears_eq (Q : Value → World → Prop) (a0 : Option Addr) (a0n : Nat) (a0c : Nat) (a1 : Int) (w : World) (h :
  N_l10_bears.j2 Q a0 a0n a0c a1 0 w) :
C_l10_bears #[.slice a0 a0n a0c, .int .u8 a1] w Q := C_fold K_l10_bears (by kernel_rfl) h
/-! ### ledger/ledgerlaw10.untouched -/
noncomputable def B_l10_untouched : Code := match Tryz.f12.body with | some c => c | _ => .skip
noncomputable def X_l10_untouched : Cx := { P := PP, fn := 12, N := 22, tab := tab, results := [.tmp 4], iter := fun _ => (.none, .none), dyn := fun _ => false, live := fun r => cond (Nat.beq r 2) (some [0, 1, 5]) (none) }
theorem K_l10_untouched : OkF X_l10_untouched B_l10_untouched Tryz.f12 := ⟨⟨tab_ok, mix_ok⟩, Tryz.func12, by kernel_rfl, by kernel_rfl, by kernel_rfl, by kernel_rfl⟩
noncomputable def N_l10_untouched.j2 (Q : Value → World → Prop) (s0 : Option Addr) (s0n : Nat) (s0c : Nat) (s1 : Option Addr) (s1n : Nat) (s1c : Nat) (s5 : Int) (w : World) : Prop := Nd X_l10_untouched Q [(0, 0, .slice s0 s0n s0c), (1, 1, .slice s1 s1n s1c), (5, 5, .int .i64 s5)] [.code (B_l10_untouched.r.l.r.l.l.l.l), .code (B_l10_untouched.r.l.r.l.l.l.r), .code (B_l10_untouched.r.l.r.l.l.r), .inLoop (B_l10_untouched.r.l.r.l.l), .inBlock 0, .code (B_l10_untouched.r.r)] w
theorem N_l10_untouched.j2_eq (Q : Value → World → Prop) (s0 : Option Addr) (s0n : Nat) (s0c : Nat) (s1 : Option Addr) (s1n : Nat) (s1c : Nat) (s5 : Int) (w : World) (h :
  cond (decide (s5 < ((s1n : Nat) : Int)))
  (drw w fun w1 =>
  (0 : Int) ≤ s5 ∧
  s5 < ((s0n : Nat) : Int) ∧
  opnA s0 fun ad2 =>
  (0 : Int) ≤ s5 ∧
  s5 < ((s1n : Nat) : Int) ∧
  opnA s1 fun ad3 =>
  opnL (w1.cell? (ad2.add (Int.toNat s5 * 1))) fun x4 x4n x4c =>
  opnL (w1.cell? (ad3.add (Int.toNat s5 * 1))) fun x5 x5n x5c =>
  C_l10_whole #[.slice x4 x4n x4c, .slice x5 x5n x5c] w1 fun v6 w7 =>
  opnB (some v6) fun x8 =>
  cond (!x8)
  (Q (.bool false) w7)
  (N_l10_untouched.j2 Q s0 s0n s0c s1 s1n s1c (IntKind.wrap .i64 (s5 + 1)) w7))
  (Q (.bool true) w)) :
N_l10_untouched.j2 Q s0 s0n s0c s1 s1n s1c s5 w := Nd_fold K_l10_untouched (by kernel_rfl) h
theorem C_l10_untouched_eq (Q : Value → World → Prop) (a0 : Option Addr) (a0n : Nat) (a0c : Nat) (a1 : Option Addr) (a1n : Nat) (a1c : Nat) (w : World) (h :
  N_l10_untouched.j2 Q a0 a0n a0c a1 a1n a1c 0 w) :
C_l10_untouched #[.slice a0 a0n a0c, .slice a1 a1n a1c] w Q := C_fold K_l10_untouched (by kernel_rfl) h
/-! ### ledger/ledgerlaw10.alike -/
noncomputable def B_l10_alike : Code := match Tryz.f13.body with | some c => c | _ => .skip
noncomputable def X_l10_alike : Cx := { P := PP, fn := 13, N := 27, tab := tab, results := [.tmp 4], iter := fun _ => (.none, .none), dyn := fun _ => false, live := fun r => cond (Nat.beq r 4) (some [0, 1, 5]) (none) }
theorem K_l10_alike : OkF X_l10_alike B_l10_alike Tryz.f13 := ⟨⟨tab_ok, mix_ok⟩, Tryz.func13, by kernel_rfl, by kernel_rfl, by kernel_rfl, by kernel_rfl⟩
noncomputable def N_l10_alike.j4 (Q : Value → World → Prop) (s0 : Option Addr) (s0n : Nat) (s0c : Nat) (s1 : Option Addr) (s1n : Nat) (s1c : Nat) (s5 : Int) (w : World) : Prop := Nd X_l10_alike Q [(0, 0, .slice s0 s0n s0c), (1, 1, .slice s1 s1n s1c), (5, 5, .int .i64 s5)] [.code (B_l10_alike.r.r.l.r.l.l.l.l), .code (B_l10_alike.r.r.l.r.l.l.l.r), .code (B_l10_alike.r.r.l.r.l.l.r), .inLoop (B_l10_alike.r.r.l.r.l.l), .inBlock 0, .code (B_l10_alike.r.r.r)] w
theorem N_l10_alike.j4_eq (Q : Value → World → Prop) (s0 : Option Addr) (s0n : Nat) (s0c : Nat) (s1 : Option Addr) (s1n : Nat) (s1c : Nat) (s5 : Int) (w : World) (h :
  cond (decide (s5 < ((s0n : Nat) : Int)))
  (drw w fun w1 =>
  (0 : Int) ≤ s5 ∧
  s5 < ((s0n : Nat) : Int) ∧
  opnA s0 fun ad2 =>
  (0 : Int) ≤ s5 ∧
  s5 < ((s1n : Nat) : Int) ∧
  opnA s1 fun ad3 =>
  opnI .i64 (w1.cell? ((ad2.add (Int.toNat s5 * 5)).add 0)) fun x4 =>
  opnI .i64 (w1.cell? ((ad2.add (Int.toNat s5 * 5)).add 1)) fun x5 =>
  opnI .i64 (w1.cell? ((ad2.add (Int.toNat s5 * 5)).add 2)) fun x6 =>
  opnI .i64 (w1.cell? ((ad2.add (Int.toNat s5 * 5)).add 3)) fun x7 =>
  opnB (w1.cell? ((ad2.add (Int.toNat s5 * 5)).add 4)) fun x8 =>
  opnI .i64 (w1.cell? ((ad3.add (Int.toNat s5 * 5)).add 0)) fun x9 =>
  opnI .i64 (w1.cell? ((ad3.add (Int.toNat s5 * 5)).add 1)) fun x10 =>
  opnI .i64 (w1.cell? ((ad3.add (Int.toNat s5 * 5)).add 2)) fun x11 =>
  opnI .i64 (w1.cell? ((ad3.add (Int.toNat s5 * 5)).add 3)) fun x12 =>
  opnB (w1.cell? ((ad3.add (Int.toNat s5 * 5)).add 4)) fun x13 =>
  C_l10_doc #[.agg #[.int .i64 x4, .int .i64 x5, .int .i64 x6, .int .i64 x7, .bool x8]] w1 fun v14 w15 =>
  opnG (some v14) fun x16 =>
  x16.size = 5 ∧
  opnI .i64 (x16[0]?) fun x17 =>
  opnI .i64 (x16[1]?) fun x18 =>
  opnI .i64 (x16[2]?) fun x19 =>
  opnI .i64 (x16[3]?) fun x20 =>
  opnB (x16[4]?) fun x21 =>
  (opnI .i64 (w15.cell? ((ad3.add (Int.toNat s5 * 5)).add 0)) fun x22 =>
  opnI .i64 (w15.cell? ((ad3.add (Int.toNat s5 * 5)).add 1)) fun x23 =>
  opnI .i64 (w15.cell? ((ad3.add (Int.toNat s5 * 5)).add 2)) fun x24 =>
  opnI .i64 (w15.cell? ((ad3.add (Int.toNat s5 * 5)).add 3)) fun x25 =>
  opnB (w15.cell? ((ad3.add (Int.toNat s5 * 5)).add 4)) fun x26 =>
  ((.agg #[.int .i64 x22, .int .i64 x23, .int .i64 x24, .int .i64 x25, .bool x26]) : Value) = .agg #[.int .i64 x9, .int .i64 x10, .int .i64 x11, .int .i64 x12, .bool x13]) ∧
  semR PP (do eqGuard .neq 32 (.tmp 21) (.tmp 25) (.agg #[.int .i64 x17, .int .i64 x18, .int .i64 x19, .int .i64 x20, .bool x21]) (.agg #[.int .i64 x9, .int .i64 x10, .int .i64 x11, .int .i64 x12, .bool x13]); binOp .neq 32 (.agg #[.int .i64 x17, .int .i64 x18, .int .i64 x19, .int .i64 x20, .bool x21]) (.agg #[.int .i64 x9, .int .i64 x10, .int .i64 x11, .int .i64 x12, .bool x13])) w15 fun x27 =>
  opnB (some x27) fun x28 =>
  cond x28
  (Q (.bool false) w15)
  (N_l10_alike.j4 Q s0 s0n s0c s1 s1n s1c (IntKind.wrap .i64 (s5 + 1)) w15))
  (Q (.bool true) w)) :
N_l10_alike.j4 Q s0 s0n s0c s1 s1n s1c s5 w := Nd_fold K_l10_alike (by kernel_rfl) h
theorem C_l10_alike_eq (Q : Value → World → Prop) (a0 : Option Addr) (a0n : Nat) (a0c : Nat) (a1 : Option Addr) (a1n : Nat) (a1c : Nat) (w : World) (h :
  cond (((a0n : Nat) : Int) != ((a1n : Nat) : Int))
  (Q (.bool false) w)
  (N_l10_alike.j4 Q a0 a0n a0c a1 a1n a1c 0 w)) :
C_l10_alike #[.slice a0 a0n a0c, .slice a1 a1n a1c] w Q := C_fold K_l10_alike (by kernel_rfl) h
/-! ### ledger/ledgerref10.Plan -/
noncomputable def B_r10_Plan : Code := match Tryz.f14.body with | some c => c | _ => .skip
noncomputable def X_r10_Plan : Cx := { P := PP, fn := 14, N := 133, tab := tab, results := [.tmp 6, .tmp 7], iter := fun _ => (.none, .none), dyn := fun _ => false, live := fun r => cond (Nat.beq r 2) (some []) (cond (Nat.beq r 9) (some [0, 1, 2, 8, 10, 12, 13]) (cond (Nat.beq r 10) (some [0, 1, 2, 8, 10, 12, 13]) (cond (Nat.beq r 15) (some [0, 1, 2, 8, 12, 15]) (cond (Nat.beq r 16) (some [0, 1, 2, 8, 12, 15]) (cond (Nat.beq r 18) (some []) (cond (Nat.beq r 23) (some [0, 1, 12, 17]) (cond (Nat.beq r 24) (some [0, 1, 12, 17]) (none)))))))) }
theorem K_r10_Plan : OkF X_r10_Plan B_r10_Plan Tryz.f14 := ⟨⟨tab_ok, mix_ok⟩, Tryz.func14, by kernel_rfl, by kernel_rfl, by kernel_rfl, by kernel_rfl⟩
noncomputable def N_r10_Plan.j2 (Q : Value → World → Prop) (w : World) : Prop := Nd X_r10_Plan Q [] [.code (B_r10_Plan.r.l.r.l.l), .code (B_r10_Plan.r.l.r.l.r), .code (B_r10_Plan.r.r)] w
noncomputable def N_r10_Plan.j9 (Q : Value → World → Prop) (s0 : Int) (s1 : Int) (s2 : Option Addr) (s2n : Nat) (s2c : Nat) (s8 : Int) (s10 : Option Addr) (s10n : Nat) (s10c : Nat) (s12 : Option Addr) (s12n : Nat) (s12c : Nat) (s13 : Int) (w : World) : Prop := Nd X_r10_Plan Q [(0, 0, .int .i64 s0), (1, 1, .int .i64 s1), (2, 2, .slice s2 s2n s2c), (8, 8, .int .i64 s8), (10, 10, .slice s10 s10n s10c), (12, 12, .slice s12 s12n s12c), (13, 13, .int .i64 s13)] [.code (B_r10_Plan.r.r.r.r.r.r.l.r.l.l.l.l), .code (B_r10_Plan.r.r.r.r.r.r.l.r.l.l.l.r), .code (B_r10_Plan.r.r.r.r.r.r.l.r.l.l.r), .inLoop (B_r10_Plan.r.r.r.r.r.r.l.r.l.l), .inBlock 0, .code (B_r10_Plan.r.r.r.r.r.r.r)] w
noncomputable def N_r10_Plan.j10 (Q : Value → World → Prop) (s0 : Int) (s1 : Int) (s2 : Option Addr) (s2n : Nat) (s2c : Nat) (s8 : Int) (s10 : Option Addr) (s10n : Nat) (s10c : Nat) (s12 : Option Addr) (s12n : Nat) (s12c : Nat) (s13 : Int) (w : World) : Prop := Nd X_r10_Plan Q [(0, 0, .int .i64 s0), (1, 1, .int .i64 s1), (2, 2, .slice s2 s2n s2c), (8, 8, .int .i64 s8), (10, 10, .slice s10 s10n s10c), (12, 12, .slice s12 s12n s12c), (13, 13, .int .i64 s13)] [.code (B_r10_Plan.r.r.r.r.r.r.l.r.l.l.r.r), .inLoop (B_r10_Plan.r.r.r.r.r.r.l.r.l.l), .inBlock 0, .code (B_r10_Plan.r.r.r.r.r.r.r)] w
noncomputable def N_r10_Plan.j15 (Q : Value → World → Prop) (s0 : Int) (s1 : Int) (s2 : Option Addr) (s2n : Nat) (s2c : Nat) (s8 : Int) (s12 : Option Addr) (s12n : Nat) (s12c : Nat) (s15 : Int) (w : World) : Prop := Nd X_r10_Plan Q [(0, 0, .int .i64 s0), (1, 1, .int .i64 s1), (2, 2, .slice s2 s2n s2c), (8, 8, .int .i64 s8), (12, 12, .slice s12 s12n s12c), (15, 15, .int .i64 s15)] [.code (B_r10_Plan.r.r.r.r.r.r.r.l.r.l.l.l.l), .code (B_r10_Plan.r.r.r.r.r.r.r.l.r.l.l.l.r), .code (B_r10_Plan.r.r.r.r.r.r.r.l.r.l.l.r), .inLoop (B_r10_Plan.r.r.r.r.r.r.r.l.r.l.l), .inBlock 2, .code (B_r10_Plan.r.r.r.r.r.r.r.r)] w
noncomputable def N_r10_Plan.j16 (Q : Value → World → Prop) (s0 : Int) (s1 : Int) (s2 : Option Addr) (s2n : Nat) (s2c : Nat) (s8 : Int) (s12 : Option Addr) (s12n : Nat) (s12c : Nat) (s15 : Int) (w : World) : Prop := Nd X_r10_Plan Q [(0, 0, .int .i64 s0), (1, 1, .int .i64 s1), (2, 2, .slice s2 s2n s2c), (8, 8, .int .i64 s8), (12, 12, .slice s12 s12n s12c), (15, 15, .int .i64 s15)] [.code (B_r10_Plan.r.r.r.r.r.r.r.l.r.l.l.r.r), .inLoop (B_r10_Plan.r.r.r.r.r.r.r.l.r.l.l), .inBlock 2, .code (B_r10_Plan.r.r.r.r.r.r.r.r)] w
noncomputable def N_r10_Plan.j18 (Q : Value → World → Prop) (w : World) : Prop := Nd X_r10_Plan Q [] [.code (B_r10_Plan.r.r.r.r.r.r.r.l.r.l.l.r.l.l.l.r.l.l), .code (B_r10_Plan.r.r.r.r.r.r.r.l.r.l.l.r.l.l.l.r.l.r), .code (B_r10_Plan.r.r.r.r.r.r.r.l.r.l.l.r.l.l.r), .inBlock 3, .code (B_r10_Plan.r.r.r.r.r.r.r.l.r.l.l.r.r), .inLoop (B_r10_Plan.r.r.r.r.r.r.r.l.r.l.l), .inBlock 2, .code (B_r10_Plan.r.r.r.r.r.r.r.r)] w
noncomputable def N_r10_Plan.j23 (Q : Value → World → Prop) (s0 : Int) (s1 : Int) (s12 : Option Addr) (s12n : Nat) (s12c : Nat) (s17 : Int) (w : World) : Prop := Nd X_r10_Plan Q [(0, 0, .int .i64 s0), (1, 1, .int .i64 s1), (12, 12, .slice s12 s12n s12c), (17, 17, .int .i64 s17)] [.code (B_r10_Plan.r.r.r.r.r.r.r.r.l.r.l.l.l.l), .code (B_r10_Plan.r.r.r.r.r.r.r.r.l.r.l.l.l.r), .code (B_r10_Plan.r.r.r.r.r.r.r.r.l.r.l.l.r), .inLoop (B_r10_Plan.r.r.r.r.r.r.r.r.l.r.l.l), .inBlock 4, .code (B_r10_Plan.r.r.r.r.r.r.r.r.r)] w
noncomputable def N_r10_Plan.j24 (Q : Value → World → Prop) (s0 : Int) (s1 : Int) (s12 : Option Addr) (s12n : Nat) (s12c : Nat) (s17 : Int) (w : World) : Prop := Nd X_r10_Plan Q [(0, 0, .int .i64 s0), (1, 1, .int .i64 s1), (12, 12, .slice s12 s12n s12c), (17, 17, .int .i64 s17)] [.code (B_r10_Plan.r.r.r.r.r.r.r.r.l.r.l.l.r.r), .inLoop (B_r10_Plan.r.r.r.r.r.r.r.r.l.r.l.l), .inBlock 4, .code (B_r10_Plan.r.r.r.r.r.r.r.r.r)] w
theorem N_r10_Plan.j2_eq (Q : Value → World → Prop) (w : World) (h :
  Q (.tuple #[.slice none 0 0, .int .i64 1]) w) :
N_r10_Plan.j2 Q w := Nd_fold K_r10_Plan (by kernel_rfl) h
theorem N_r10_Plan.j9_eq (Q : Value → World → Prop) (s0 : Int) (s1 : Int) (s2 : Option Addr) (s2n : Nat) (s2c : Nat) (s8 : Int) (s10 : Option Addr) (s10n : Nat) (s10c : Nat) (s12 : Option Addr) (s12n : Nat) (s12c : Nat) (s13 : Int) (w : World) (h :
  cond (decide (s13 < ((s10n : Nat) : Int)))
  ((0 : Int) ≤ s13 ∧
  s13 < ((s10n : Nat) : Int) ∧
  opnA s10 fun ad1 =>
  opnI .i64 (w.cell? (ad1.add (Int.toNat s13 * 1))) fun x2 =>
  C_r10_wide #[.int .i64 s0, .int .i64 s1, .int .i64 x2] w fun v3 w4 =>
  opnG (some v3) fun x5 =>
  x5.size = 5 ∧
  opnI .i64 (x5[0]?) fun x6 =>
  opnI .i64 (x5[1]?) fun x7 =>
  opnI .i64 (x5[2]?) fun x8 =>
  opnI .i64 (x5[3]?) fun x9 =>
  opnB (x5[4]?) fun x10 =>
  alC #[.int .i64 0, .int .i64 0, .int .i64 0, .int .i64 0, .bool false] 32 w4 fun p11 w12 =>
  Array.size (#[.int .i64 x6, .int .i64 x7, .int .i64 x8, .int .i64 x9, .bool x10] : Array Value) = 5 ∧
  stC (p11.add 0) (.int .i64 x6) w12 fun w13 =>
  stC (p11.add 1) (.int .i64 x7) w13 fun w14 =>
  stC (p11.add 2) (.int .i64 x8) w14 fun w15 =>
  stC (p11.add 3) (.int .i64 x9) w15 fun w16 =>
  stC (p11.add 4) (.bool x10) w16 fun w17 =>
  opnI .i64 (w17.cell? (p11.add 0)) fun x18 =>
  opnI .i64 (w17.cell? (p11.add 1)) fun x19 =>
  opnI .i64 (w17.cell? (p11.add 2)) fun x20 =>
  opnI .i64 (w17.cell? (p11.add 3)) fun x21 =>
  opnB (w17.cell? (p11.add 4)) fun x22 =>
  C_r10_within #[.slice s12 s12n s12c, .agg #[.int .i64 x18, .int .i64 x19, .int .i64 x20, .int .i64 x21, .bool x22]] w17 fun v23 w24 =>
  opnB (some v23) fun x25 =>
  cond (!x25)
  (opnI .i64 (w24.cell? (p11.add 0)) fun x26 =>
  opnI .i64 (w24.cell? (p11.add 1)) fun x27 =>
  opnI .i64 (w24.cell? (p11.add 2)) fun x28 =>
  opnI .i64 (w24.cell? (p11.add 3)) fun x29 =>
  opnB (w24.cell? (p11.add 4)) fun x30 =>
  alC #[.int .i64 x26, .int .i64 x27, .int .i64 x28, .int .i64 x29, .bool x30] 32 w24 fun p31 w32 =>
  sem PP (Builtin.append_ #[28, 28] 28 #[.slice s12 s12n s12c, .slice (some p31) 1 1]) w32 fun v33 w34 =>
  opnL (some v33) fun x35 x35n x35c =>
  N_r10_Plan.j10 Q s0 s1 s2 s2n s2c s8 s10 s10n s10c x35 x35n x35c s13 w34)
  (N_r10_Plan.j10 Q s0 s1 s2 s2n s2c s8 s10 s10n s10c s12 s12n s12c s13 w24))
  (N_r10_Plan.j15 Q s0 s1 s2 s2n s2c s8 s12 s12n s12c 0 w)) :
N_r10_Plan.j9 Q s0 s1 s2 s2n s2c s8 s10 s10n s10c s12 s12n s12c s13 w := Nd_fold K_r10_Plan (by kernel_rfl) h
theorem N_r10_Plan.j10_eq (Q : Value → World → Prop) (s0 : Int) (s1 : Int) (s2 : Option Addr) (s2n : Nat) (s2c : Nat) (s8 : Int) (s10 : Option Addr) (s10n : Nat) (s10c : Nat) (s12 : Option Addr) (s12n : Nat) (s12c : Nat) (s13 : Int) (w : World) (h :
  N_r10_Plan.j9 Q s0 s1 s2 s2n s2c s8 s10 s10n s10c s12 s12n s12c (IntKind.wrap .i64 (s13 + 1)) w) :
N_r10_Plan.j10 Q s0 s1 s2 s2n s2c s8 s10 s10n s10c s12 s12n s12c s13 w := Nd_fold K_r10_Plan (by kernel_rfl) h
theorem N_r10_Plan.j15_eq (Q : Value → World → Prop) (s0 : Int) (s1 : Int) (s2 : Option Addr) (s2n : Nat) (s2c : Nat) (s8 : Int) (s12 : Option Addr) (s12n : Nat) (s12c : Nat) (s15 : Int) (w : World) (h :
  cond (decide (s15 < ((s2n : Nat) : Int)))
  ((0 : Int) ≤ s15 ∧
  s15 < ((s2n : Nat) : Int) ∧
  opnA s2 fun ad1 =>
  opnI .i64 (w.cell? (ad1.add (Int.toNat s15 * 1))) fun x2 =>
  cond (decide (x2 < 0))
  (N_r10_Plan.j18 Q w)
  ((0 : Int) ≤ s15 ∧
  s15 < ((s2n : Nat) : Int) ∧
  opnA s2 fun ad3 =>
  opnI .i64 (w.cell? (ad3.add (Int.toNat s15 * 1))) fun x4 =>
  cond (decide (x4 ≥ s8))
  (N_r10_Plan.j18 Q w)
  ((0 : Int) ≤ s15 ∧
  s15 < ((s2n : Nat) : Int) ∧
  opnA s2 fun ad5 =>
  opnI .i64 (w.cell? (ad5.add (Int.toNat s15 * 1))) fun x6 =>
  C_r10_wide #[.int .i64 s0, .int .i64 s1, .int .i64 x6] w fun v7 w8 =>
  opnG (some v7) fun x9 =>
  x9.size = 5 ∧
  opnI .i64 (x9[0]?) fun x10 =>
  opnI .i64 (x9[1]?) fun x11 =>
  opnI .i64 (x9[2]?) fun x12 =>
  opnI .i64 (x9[3]?) fun x13 =>
  opnB (x9[4]?) fun x14 =>
  alC #[.int .i64 0, .int .i64 0, .int .i64 0, .int .i64 0, .bool false] 32 w8 fun p15 w16 =>
  Array.size (#[.int .i64 x10, .int .i64 x11, .int .i64 x12, .int .i64 x13, .bool x14] : Array Value) = 5 ∧
  stC (p15.add 0) (.int .i64 x10) w16 fun w17 =>
  stC (p15.add 1) (.int .i64 x11) w17 fun w18 =>
  stC (p15.add 2) (.int .i64 x12) w18 fun w19 =>
  stC (p15.add 3) (.int .i64 x13) w19 fun w20 =>
  stC (p15.add 4) (.bool x14) w20 fun w21 =>
  opnI .i64 (w21.cell? (p15.add 0)) fun x22 =>
  opnI .i64 (w21.cell? (p15.add 1)) fun x23 =>
  opnI .i64 (w21.cell? (p15.add 2)) fun x24 =>
  opnI .i64 (w21.cell? (p15.add 3)) fun x25 =>
  opnB (w21.cell? (p15.add 4)) fun x26 =>
  C_r10_within #[.slice s12 s12n s12c, .agg #[.int .i64 x22, .int .i64 x23, .int .i64 x24, .int .i64 x25, .bool x26]] w21 fun v27 w28 =>
  opnB (some v27) fun x29 =>
  cond (!x29)
  (opnI .i64 (w28.cell? (p15.add 0)) fun x30 =>
  opnI .i64 (w28.cell? (p15.add 1)) fun x31 =>
  opnI .i64 (w28.cell? (p15.add 2)) fun x32 =>
  opnI .i64 (w28.cell? (p15.add 3)) fun x33 =>
  opnB (w28.cell? (p15.add 4)) fun x34 =>
  alC #[.int .i64 x30, .int .i64 x31, .int .i64 x32, .int .i64 x33, .bool x34] 32 w28 fun p35 w36 =>
  sem PP (Builtin.append_ #[28, 28] 28 #[.slice s12 s12n s12c, .slice (some p35) 1 1]) w36 fun v37 w38 =>
  opnL (some v37) fun x39 x39n x39c =>
  N_r10_Plan.j16 Q s0 s1 s2 s2n s2c s8 x39 x39n x39c s15 w38)
  (N_r10_Plan.j16 Q s0 s1 s2 s2n s2c s8 s12 s12n s12c s15 w28))))
  (N_r10_Plan.j23 Q s0 s1 s12 s12n s12c 0 w)) :
N_r10_Plan.j15 Q s0 s1 s2 s2n s2c s8 s12 s12n s12c s15 w := Nd_fold K_r10_Plan (by kernel_rfl) h
theorem N_r10_Plan.j16_eq (Q : Value → World → Prop) (s0 : Int) (s1 : Int) (s2 : Option Addr) (s2n : Nat) (s2c : Nat) (s8 : Int) (s12 : Option Addr) (s12n : Nat) (s12c : Nat) (s15 : Int) (w : World) (h :
  N_r10_Plan.j15 Q s0 s1 s2 s2n s2c s8 s12 s12n s12c (IntKind.wrap .i64 (s15 + 1)) w) :
N_r10_Plan.j16 Q s0 s1 s2 s2n s2c s8 s12 s12n s12c s15 w := Nd_fold K_r10_Plan (by kernel_rfl) h
theorem N_r10_Plan.j18_eq (Q : Value → World → Prop) (w : World) (h :
  Q (.tuple #[.slice none 0 0, .int .i64 105]) w) :
N_r10_Plan.j18 Q w := Nd_fold K_r10_Plan (by kernel_rfl) h
theorem N_r10_Plan.j23_eq (Q : Value → World → Prop) (s0 : Int) (s1 : Int) (s12 : Option Addr) (s12n : Nat) (s12c : Nat) (s17 : Int) (w : World) (h :
  cond (decide (s17 < ((s12n : Nat) : Int)))
  (drw w fun w1 =>
  (0 : Int) ≤ s17 ∧
  s17 < ((s12n : Nat) : Int) ∧
  opnA s12 fun ad2 =>
  opnI .i64 (w1.cell? ((ad2.add (Int.toNat s17 * 5)).add 3)) fun x3 =>
  C_r10_power #[.int .i64 s0] w1 fun v4 w5 =>
  opnI .i64 (some v4) fun x6 =>
  (opnI .i64 (w5.cell? ((ad2.add (Int.toNat s17 * 5)).add 3)) fun x7 =>
  ((.int .i64 x7) : Value) = .int .i64 x3) ∧
  cond (x3 == x6)
  ((0 : Int) ≤ s17 ∧
  s17 < ((s12n : Nat) : Int) ∧
  opnA s12 fun ad8 =>
  opnI .i64 (w5.cell? ((ad8.add (Int.toNat s17 * 5)).add 0)) fun x9 =>
  opnI .i64 (w5.cell? ((ad8.add (Int.toNat s17 * 5)).add 1)) fun x10 =>
  opnI .i64 (w5.cell? ((ad8.add (Int.toNat s17 * 5)).add 2)) fun x11 =>
  opnI .i64 (w5.cell? ((ad8.add (Int.toNat s17 * 5)).add 3)) fun x12 =>
  opnB (w5.cell? ((ad8.add (Int.toNat s17 * 5)).add 4)) fun x13 =>
  C_r10_top #[.agg #[.int .i64 x9, .int .i64 x10, .int .i64 x11, .int .i64 x12, .bool x13]] w5 fun v14 w15 =>
  opnI .i64 (some v14) fun x16 =>
  C_r10_wide #[.int .i64 s0, .int .i64 s1, .int .i64 x16] w15 fun v17 w18 =>
  opnG (some v17) fun x19 =>
  x19.size = 5 ∧
  opnI .i64 (x19[0]?) fun x20 =>
  opnI .i64 (x19[1]?) fun x21 =>
  opnI .i64 (x19[2]?) fun x22 =>
  opnI .i64 (x19[3]?) fun x23 =>
  opnB (x19[4]?) fun x24 =>
  alC #[.int .i64 0, .int .i64 0, .int .i64 0, .int .i64 0, .bool false] 32 w18 fun p25 w26 =>
  Array.size (#[.int .i64 x20, .int .i64 x21, .int .i64 x22, .int .i64 x23, .bool x24] : Array Value) = 5 ∧
  stC (p25.add 0) (.int .i64 x20) w26 fun w27 =>
  stC (p25.add 1) (.int .i64 x21) w27 fun w28 =>
  stC (p25.add 2) (.int .i64 x22) w28 fun w29 =>
  stC (p25.add 3) (.int .i64 x23) w29 fun w30 =>
  stC (p25.add 4) (.bool x24) w30 fun w31 =>
  opnI .i64 (w31.cell? (p25.add 0)) fun x32 =>
  opnI .i64 (w31.cell? (p25.add 1)) fun x33 =>
  opnI .i64 (w31.cell? (p25.add 2)) fun x34 =>
  opnI .i64 (w31.cell? (p25.add 3)) fun x35 =>
  opnB (w31.cell? (p25.add 4)) fun x36 =>
  C_r10_within #[.slice s12 s12n s12c, .agg #[.int .i64 x32, .int .i64 x33, .int .i64 x34, .int .i64 x35, .bool x36]] w31 fun v37 w38 =>
  opnB (some v37) fun x39 =>
  cond (!x39)
  (opnI .i64 (w38.cell? (p25.add 0)) fun x40 =>
  opnI .i64 (w38.cell? (p25.add 1)) fun x41 =>
  opnI .i64 (w38.cell? (p25.add 2)) fun x42 =>
  opnI .i64 (w38.cell? (p25.add 3)) fun x43 =>
  opnB (w38.cell? (p25.add 4)) fun x44 =>
  alC #[.int .i64 x40, .int .i64 x41, .int .i64 x42, .int .i64 x43, .bool x44] 32 w38 fun p45 w46 =>
  sem PP (Builtin.append_ #[28, 28] 28 #[.slice s12 s12n s12c, .slice (some p45) 1 1]) w46 fun v47 w48 =>
  opnL (some v47) fun x49 x49n x49c =>
  N_r10_Plan.j24 Q s0 s1 x49 x49n x49c s17 w48)
  (N_r10_Plan.j24 Q s0 s1 s12 s12n s12c s17 w38))
  (N_r10_Plan.j24 Q s0 s1 s12 s12n s12c s17 w5))
  (C_r10_sorted #[.slice s12 s12n s12c] w fun v50 w51 =>
  opnL (some v50) fun x52 x52n x52c =>
  Q (.tuple #[.slice x52 x52n x52c, .int .i64 0]) w51)) :
N_r10_Plan.j23 Q s0 s1 s12 s12n s12c s17 w := Nd_fold K_r10_Plan (by kernel_rfl) h
theorem N_r10_Plan.j24_eq (Q : Value → World → Prop) (s0 : Int) (s1 : Int) (s12 : Option Addr) (s12n : Nat) (s12c : Nat) (s17 : Int) (w : World) (h :
  N_r10_Plan.j23 Q s0 s1 s12 s12n s12c (IntKind.wrap .i64 (s17 + 1)) w) :
N_r10_Plan.j24 Q s0 s1 s12 s12n s12c s17 w := Nd_fold K_r10_Plan (by kernel_rfl) h
theorem C_r10_Plan_eq (Q : Value → World → Prop) (a0 : Int) (a1 : Int) (a2 : Option Addr) (a2n : Nat) (a2c : Nat) (w : World) (h :
  cond (decide (a0 < 1))
  (N_r10_Plan.j2 Q w)
  (cond (decide (a0 > 8))
  (N_r10_Plan.j2 Q w)
  (cond (decide (a1 < 0))
  (N_r10_Plan.j2 Q w)
  (cond (decide (a1 > 281474976710656))
  (N_r10_Plan.j2 Q w)
  (cond (decide (((a2n : Nat) : Int) > 1024))
  (Q (.tuple #[.slice none 0 0, .int .i64 2]) w)
  (C_r08_Count #[.int .i64 a1] w fun v1 w2 =>
  opnT (some v1) fun x3 =>
  x3.size = 2 ∧
  opnI .i64 (x3[0]?) fun x4 =>
  opnI .i64 (x3[1]?) fun x5 =>
  C_r08_Peaks #[.int .i64 a1] w2 fun v6 w7 =>
  opnT (some v6) fun x8 =>
  x8.size = 2 ∧
  opnL (x8[0]?) fun x9 x9n x9c =>
  opnI .i64 (x8[1]?) fun x10 =>
  N_r10_Plan.j9 Q a0 a1 a2 a2n a2c x4 x9 x9n x9c none 0 0 0 w7)))))) :
C_r10_Plan #[.int .i64 a0, .int .i64 a1, .slice a2 a2n a2c] w Q := C_fold K_r10_Plan (by kernel_rfl) h
end Go.Proofs.YtccjncflbbhldaaGreatDoor
/-! ## ShF1 -/
set_option maxRecDepth 100000
namespace Go.Proofs.YtccjncflbbhldaaGreatDoor
open Go.Sh
/-! ### ledger/ledgerref10.borne -/
noncomputable def B_r10_borne : Code := match Tryz.f15.body with | some c => c | _ => .skip
noncomputable def X_r10_borne : Cx := { P := PP, fn := 15, N := 80, tab := tab, results := [.tmp 12], iter := fun _ => (.none, .none), dyn := fun _ => false, live := fun r => cond (Nat.beq r 4) (some [0, 1, 4, 5, 9, 13, 15, 16]) (cond (Nat.beq r 10) (some [0, 1, 4, 5, 17]) (cond (Nat.beq r 11) (some [0, 1, 4, 5, 17]) (none))) }
theorem K_r10_borne : OkF X_r10_borne B_r10_borne Tryz.f15 := ⟨⟨tab_ok, mix_ok⟩, Tryz.func15, by kernel_rfl, by kernel_rfl, by kernel_rfl, by kernel_rfl⟩
noncomputable def N_r10_borne.j4 (Q : Value → World → Prop) (s0 : Int) (s1 : Int) (s4 : Option Addr) (s4n : Nat) (s4c : Nat) (s5 : Option Addr) (s5n : Nat) (s5c : Nat) (s9 : Addr) (s13 : Option Addr) (s13n : Nat) (s13c : Nat) (s15 : Option Addr) (s15n : Nat) (s15c : Nat) (s16 : Int) (w : World) : Prop := Nd X_r10_borne Q [(0, 0, .int .i64 s0), (1, 1, .int .i64 s1), (4, 4, .slice s4 s4n s4c), (5, 5, .slice s5 s5n s5c), (9, 9, .pointer (some s9)), (13, 13, .slice s13 s13n s13c), (15, 15, .slice s15 s15n s15c), (16, 16, .int .i64 s16)] [.code (B_r10_borne.r.r.r.l.r.l.l.l.l), .code (B_r10_borne.r.r.r.l.r.l.l.l.r), .code (B_r10_borne.r.r.r.l.r.l.l.r), .inLoop (B_r10_borne.r.r.r.l.r.l.l), .inBlock 0, .code (B_r10_borne.r.r.r.r)] w
noncomputable def N_r10_borne.j10 (Q : Value → World → Prop) (s0 : Int) (s1 : Int) (s4 : Option Addr) (s4n : Nat) (s4c : Nat) (s5 : Option Addr) (s5n : Nat) (s5c : Nat) (s17 : Int) (w : World) : Prop := Nd X_r10_borne Q [(0, 0, .int .i64 s0), (1, 1, .int .i64 s1), (4, 4, .slice s4 s4n s4c), (5, 5, .slice s5 s5n s5c), (17, 17, .int .i64 s17)] [.code (B_r10_borne.r.r.r.r.r.l.r.l.l.l.l), .code (B_r10_borne.r.r.r.r.r.l.r.l.l.l.r), .code (B_r10_borne.r.r.r.r.r.l.r.l.l.r), .inLoop (B_r10_borne.r.r.r.r.r.l.r.l.l), .inBlock 2, .code (B_r10_borne.r.r.r.r.r.r)] w
noncomputable def N_r10_borne.j11 (Q : Value → World → Prop) (s0 : Int) (s1 : Int) (s4 : Option Addr) (s4n : Nat) (s4c : Nat) (s5 : Option Addr) (s5n : Nat) (s5c : Nat) (s17 : Int) (w : World) : Prop := Nd X_r10_borne Q [(0, 0, .int .i64 s0), (1, 1, .int .i64 s1), (4, 4, .slice s4 s4n s4c), (5, 5, .slice s5 s5n s5c), (17, 17, .int .i64 s17)] [.code (B_r10_borne.r.r.r.r.r.l.r.l.l.r.r), .inLoop (B_r10_borne.r.r.r.r.r.l.r.l.l), .inBlock 2, .code (B_r10_borne.r.r.r.r.r.r)] w
theorem N_r10_borne.j4_eq (Q : Value → World → Prop) (s0 : Int) (s1 : Int) (s4 : Option Addr) (s4n : Nat) (s4c : Nat) (s5 : Option Addr) (s5n : Nat) (s5c : Nat) (s9 : Addr) (s13 : Option Addr) (s13n : Nat) (s13c : Nat) (s15 : Option Addr) (s15n : Nat) (s15c : Nat) (s16 : Int) (w : World) (h :
  cond (decide (s16 < ((s13n : Nat) : Int)))
  ((0 : Int) ≤ s16 ∧
  s16 < ((s13n : Nat) : Int) ∧
  opnA s13 fun ad1 =>
  opnI .i64 (w.cell? (ad1.add (Int.toNat s16 * 1))) fun x2 =>
  C_r10_hashOf #[.int .i64 s0, .int .i64 s1, .slice s4 s4n s4c, .slice s5 s5n s5c, .int .i64 x2] w fun v3 w4 =>
  opnG (some v3) fun x5 =>
  x5.size = 32 ∧
  alC x5 22 w4 fun p8 w7 =>
  sem PP (Builtin.append_ #[35, 35] 35 #[.slice s15 s15n s15c, .slice (some p8) 1 1]) w7 fun v9 w10 =>
  opnL (some v9) fun x11 x11n x11c =>
  N_r10_borne.j4 Q s0 s1 s4 s4n s4c s5 s5n s5c s9 s13 s13n s13c x11 x11n x11c (IntKind.wrap .i64 (s16 + 1)) w10)
  (drw w fun w12 =>
  opnRow w12 s9 (32 * 1) fun x13 =>
  C_r08_Fold #[.int .i64 s0, .slice s15 s15n s15c] w12 fun v14 w15 =>
  opnG (some v14) fun x16 =>
  (opnRow w15 s9 (32 * 1) fun x17 =>
  ((.agg x17) : Value) = .agg x13) ∧
  semR PP (do eqGuard .neq 22 (.tmp 43) (.tmp 44) (.agg x16) (.agg x13); binOp .neq 22 (.agg x16) (.agg x13)) w15 fun x18 =>
  opnB (some x18) fun x19 =>
  cond x19
  (Q (.bool false) w15)
  (N_r10_borne.j10 Q s0 s1 s4 s4n s4c s5 s5n s5c 0 w15))) :
N_r10_borne.j4 Q s0 s1 s4 s4n s4c s5 s5n s5c s9 s13 s13n s13c s15 s15n s15c s16 w := Nd_fold K_r10_borne (by kernel_rfl) h
theorem N_r10_borne.j10_eq (Q : Value → World → Prop) (s0 : Int) (s1 : Int) (s4 : Option Addr) (s4n : Nat) (s4c : Nat) (s5 : Option Addr) (s5n : Nat) (s5c : Nat) (s17 : Int) (w : World) (h :
  cond (decide (s17 < ((s4n : Nat) : Int)))
  (drw w fun w1 =>
  (0 : Int) ≤ s17 ∧
  s17 < ((s4n : Nat) : Int) ∧
  opnA s4 fun ad2 =>
  opnI .i64 (w1.cell? ((ad2.add (Int.toNat s17 * 5)).add 3)) fun x3 =>
  C_r10_power #[.int .i64 s1] w1 fun v4 w5 =>
  opnI .i64 (some v4) fun x6 =>
  (opnI .i64 (w5.cell? ((ad2.add (Int.toNat s17 * 5)).add 3)) fun x7 =>
  ((.int .i64 x7) : Value) = .int .i64 x3) ∧
  cond (x3 == x6)
  ((0 : Int) ≤ s17 ∧
  s17 < ((s5n : Nat) : Int) ∧
  opnA s5 fun ad8 =>
  (0 : Int) ≤ s17 ∧
  s17 < ((s4n : Nat) : Int) ∧
  opnA s4 fun ad9 =>
  opnL (w5.cell? (ad8.add (Int.toNat s17 * 1))) fun x10 x10n x10c =>
  opnI .i64 (w5.cell? ((ad9.add (Int.toNat s17 * 5)).add 0)) fun x11 =>
  opnI .i64 (w5.cell? ((ad9.add (Int.toNat s17 * 5)).add 1)) fun x12 =>
  opnI .i64 (w5.cell? ((ad9.add (Int.toNat s17 * 5)).add 2)) fun x13 =>
  opnI .i64 (w5.cell? ((ad9.add (Int.toNat s17 * 5)).add 3)) fun x14 =>
  opnB (w5.cell? ((ad9.add (Int.toNat s17 * 5)).add 4)) fun x15 =>
  C_r10_joined #[.int .i64 s0, .slice x10 x10n x10c, .int .i64 0, .int .i64 s1] w5 fun v16 w17 =>
  opnG (some v16) fun x18 =>
  (opnI .i64 (w17.cell? ((ad9.add (Int.toNat s17 * 5)).add 0)) fun x19 =>
  opnI .i64 (w17.cell? ((ad9.add (Int.toNat s17 * 5)).add 1)) fun x20 =>
  opnI .i64 (w17.cell? ((ad9.add (Int.toNat s17 * 5)).add 2)) fun x21 =>
  opnI .i64 (w17.cell? ((ad9.add (Int.toNat s17 * 5)).add 3)) fun x22 =>
  opnB (w17.cell? ((ad9.add (Int.toNat s17 * 5)).add 4)) fun x23 =>
  ((.agg #[.int .i64 x19, .int .i64 x20, .int .i64 x21, .int .i64 x22, .bool x23]) : Value) = .agg #[.int .i64 x11, .int .i64 x12, .int .i64 x13, .int .i64 x14, .bool x15]) ∧
  C_r10_top #[.agg #[.int .i64 x11, .int .i64 x12, .int .i64 x13, .int .i64 x14, .bool x15]] w17 fun v24 w25 =>
  opnI .i64 (some v24) fun x26 =>
  C_r10_hashOf #[.int .i64 s0, .int .i64 s1, .slice s4 s4n s4c, .slice s5 s5n s5c, .int .i64 x26] w25 fun v27 w28 =>
  opnG (some v27) fun x29 =>
  semR PP (do eqGuard .neq 22 (.tmp 67) (.tmp 77) (.agg x18) (.agg x29); binOp .neq 22 (.agg x18) (.agg x29)) w28 fun x30 =>
  opnB (some x30) fun x31 =>
  cond x31
  (Q (.bool false) w28)
  (N_r10_borne.j11 Q s0 s1 s4 s4n s4c s5 s5n s5c s17 w28))
  (N_r10_borne.j11 Q s0 s1 s4 s4n s4c s5 s5n s5c s17 w5))
  (Q (.bool true) w)) :
N_r10_borne.j10 Q s0 s1 s4 s4n s4c s5 s5n s5c s17 w := Nd_fold K_r10_borne (by kernel_rfl) h
theorem N_r10_borne.j11_eq (Q : Value → World → Prop) (s0 : Int) (s1 : Int) (s4 : Option Addr) (s4n : Nat) (s4c : Nat) (s5 : Option Addr) (s5n : Nat) (s5c : Nat) (s17 : Int) (w : World) (h :
  N_r10_borne.j10 Q s0 s1 s4 s4n s4c s5 s5n s5c (IntKind.wrap .i64 (s17 + 1)) w) :
N_r10_borne.j11 Q s0 s1 s4 s4n s4c s5 s5n s5c s17 w := Nd_fold K_r10_borne (by kernel_rfl) h
theorem C_r10_borne_eq (Q : Value → World → Prop) (a0 : Int) (a1 : Int) (a2 : Int) (a3 : Array Value) (a4 : Option Addr) (a4n : Nat) (a4c : Nat) (a5 : Option Addr) (a5n : Nat) (a5c : Nat) (w : World) (h :
  alC a3 22 w fun p1 w2 =>
  C_r08_Peaks #[.int .i64 a2] w2 fun v3 w4 =>
  opnT (some v3) fun x5 =>
  x5.size = 2 ∧
  opnL (x5[0]?) fun x6 x6n x6c =>
  opnI .i64 (x5[1]?) fun x7 =>
  N_r10_borne.j4 Q a0 a1 a4 a4n a4c a5 a5n a5c p1 x6 x6n x6c none 0 0 0 w4) :
C_r10_borne #[.int .i64 a0, .int .i64 a1, .int .i64 a2, .agg a3, .slice a4 a4n a4c, .slice a5 a5n a5c] w Q := C_fold K_r10_borne (by kernel_rfl) h
/-! ### ledger/ledgerref10.hashOf -/
noncomputable def B_r10_hashOf : Code := match Tryz.f16.body with | some c => c | _ => .skip
noncomputable def X_r10_hashOf : Cx := { P := PP, fn := 16, N := 48, tab := tab, results := [.cell 10 22], iter := fun _ => (.none, .none), dyn := fun _ => false, live := fun _ => none }
theorem K_r10_hashOf : OkF X_r10_hashOf B_r10_hashOf Tryz.f16 := ⟨⟨tab_ok, mix_ok⟩, Tryz.func16, by kernel_rfl, by kernel_rfl, by kernel_rfl, by kernel_rfl⟩
theorem C_r10_hashOf_eq (Q : Value → World → Prop) (a0 : Int) (a1 : Int) (a2 : Option Addr) (a2n : Nat) (a2c : Nat) (a3 : Option Addr) (a3n : Nat) (a3c : Nat) (a4 : Int) (w : World) (h :
  alZ PP 22 w fun p1 w2 =>
  C_r10_Of #[.int .i64 a1, .int .i64 a4] w2 fun v3 w4 =>
  opnT (some v3) fun x5 =>
  x5.size = 2 ∧
  opnG (x5[0]?) fun x6 =>
  x6.size = 5 ∧
  opnI .i64 (x6[0]?) fun x7 =>
  opnI .i64 (x6[1]?) fun x8 =>
  opnI .i64 (x6[2]?) fun x9 =>
  opnI .i64 (x6[3]?) fun x10 =>
  opnB (x6[4]?) fun x11 =>
  opnI .i64 (x5[1]?) fun x12 =>
  alC #[.int .i64 0, .int .i64 0, .int .i64 0, .int .i64 0, .bool false] 32 w4 fun p13 w14 =>
  Array.size (#[.int .i64 x7, .int .i64 x8, .int .i64 x9, .int .i64 x10, .bool x11] : Array Value) = 5 ∧
  stC (p13.add 0) (.int .i64 x7) w14 fun w15 =>
  stC (p13.add 1) (.int .i64 x8) w15 fun w16 =>
  stC (p13.add 2) (.int .i64 x9) w16 fun w17 =>
  stC (p13.add 3) (.int .i64 x10) w17 fun w18 =>
  stC (p13.add 4) (.bool x11) w18 fun w19 =>
  opnI .i64 (w19.cell? (p13.add 0)) fun x20 =>
  opnI .i64 (w19.cell? (p13.add 1)) fun x21 =>
  opnI .i64 (w19.cell? (p13.add 2)) fun x22 =>
  opnI .i64 (w19.cell? (p13.add 3)) fun x23 =>
  opnB (w19.cell? (p13.add 4)) fun x24 =>
  C_r10_dataOf #[.slice a2 a2n a2c, .slice a3 a3n a3c, .agg #[.int .i64 x20, .int .i64 x21, .int .i64 x22, .int .i64 x23, .bool x24]] w19 fun v25 w26 =>
  opnL (some v25) fun x27 x27n x27c =>
  C_r08_SplitIndex #[.int .i64 a4] w26 fun v28 w29 =>
  opnT (some v28) fun x30 =>
  x30.size = 3 ∧
  opnI .i64 (x30[0]?) fun x31 =>
  opnI .i64 (x30[1]?) fun x32 =>
  opnI .i64 (x30[2]?) fun x33 =>
  a1 ≠ (0 : Int) ∧
  C_r10_power #[.int .i64 (Int.tmod x31 a1)] w29 fun v34 w35 =>
  opnI .i64 (some v34) fun x36 =>
  C_r10_power #[.int .i64 a1] w35 fun v37 w38 =>
  opnI .i64 (some v37) fun x39 =>
  x39 ≠ (0 : Int) ∧
  C_r10_joined #[.int .i64 a0, .slice x27 x27n x27c, .int .i64 (Int.tmod (IntKind.wrap .i64 (x32 * x36)) x39), .int .i64 (Int.tmod x31 a1)] w38 fun v40 w41 =>
  opnG (some v40) fun x42 =>
  stRow p1 x42 (32 * 1) w41 fun w43 =>
  opnRow w43 p1 (32 * 1) fun x44 =>
  Q (.agg x44) w43) :
C_r10_hashOf #[.int .i64 a0, .int .i64 a1, .slice a2 a2n a2c, .slice a3 a3n a3c, .int .i64 a4] w Q := C_fold K_r10_hashOf (by kernel_rfl) h
/-! ### ledger/tile.Plan -/
noncomputable def B_tile_Plan : Code := match Tryz.f17.body with | some c => c | _ => .skip
noncomputable def X_tile_Plan : Cx := { P := PP, fn := 17, N := 90, tab := tab, results := [.tmp 6, .tmp 7], iter := fun r => cond (Nat.beq r 78) (.strct 5 [.int .i64, .int .i64, .int .i64, .int .i64, .bool] [(0, 3), (1, 3), (2, 2), (3, 3), (4, 4)], .one (.int .i64)) ((.none, .none)), dyn := fun _ => false, live := fun r => cond (Nat.beq r 7) (some [0, 1, 2, 8, 33, 34, 35]) (cond (Nat.beq r 10) (some []) (cond (Nat.beq r 15) (some [0, 1, 12, 55, 56, 57]) (cond (Nat.beq r 18) (some [0, 1, 12, 55, 56, 57, 61, 62, 63]) (cond (Nat.beq r 25) (some [19, 78]) (none))))) }
theorem K_tile_Plan : OkF X_tile_Plan B_tile_Plan Tryz.f17 := ⟨⟨tab_ok, mix_ok⟩, Tryz.func17, by kernel_rfl, by kernel_rfl, by kernel_rfl, by kernel_rfl⟩
noncomputable def N_tile_Plan.j7 (Q : Value → World → Prop) (s0 : Int) (s1 : Int) (s2 : Option Addr) (s2n : Nat) (s2c : Nat) (s8 : Int) (s33 : Option Addr) (s33n : Nat) (s33c : Nat) (s34 : Int) (s35 : Int) (w : World) : Prop := Nd X_tile_Plan Q [(0, 0, .int .i64 s0), (1, 1, .int .i64 s1), (2, 2, .slice s2 s2n s2c), (8, 8, .int .i64 s8), (33, 33, .slice s33 s33n s33c), (34, 34, .int .i64 s34), (35, 35, .int .i64 s35)] [.code (B_tile_Plan.r.r.r.r.l.r.l.l.l), .code (B_tile_Plan.r.r.r.r.l.r.l.l.r), .inLoop (B_tile_Plan.r.r.r.r.l.r.l.l), .inBlock 0, .code (B_tile_Plan.r.r.r.r.r)] w
noncomputable def N_tile_Plan.j10 (Q : Value → World → Prop) (w : World) : Prop := Nd X_tile_Plan Q [] [.code (B_tile_Plan.r.r.r.r.l.r.l.l.r.r.l.l.r.r.l.l), .code (B_tile_Plan.r.r.r.r.l.r.l.l.r.r.l.l.r.r.l.r), .inBlock 1, .code (B_tile_Plan.r.r.r.r.l.r.l.l.r.r.r), .inLoop (B_tile_Plan.r.r.r.r.l.r.l.l), .inBlock 0, .code (B_tile_Plan.r.r.r.r.r)] w
noncomputable def N_tile_Plan.j15 (Q : Value → World → Prop) (s0 : Int) (s1 : Int) (s12 : Option Nat) (s55 : Option Addr) (s55n : Nat) (s55c : Nat) (s56 : Int) (s57 : Int) (w : World) : Prop := Nd X_tile_Plan Q [(0, 0, .int .i64 s0), (1, 1, .int .i64 s1), (12, 12, .map s12), (55, 55, .slice s55 s55n s55c), (56, 56, .int .i64 s56), (57, 57, .int .i64 s57)] [.code (B_tile_Plan.r.r.r.r.r.r.r.l.r.l.l.l), .code (B_tile_Plan.r.r.r.r.r.r.r.l.r.l.l.r), .inLoop (B_tile_Plan.r.r.r.r.r.r.r.l.r.l.l), .inBlock 2, .code (B_tile_Plan.r.r.r.r.r.r.r.r)] w
noncomputable def N_tile_Plan.j18 (Q : Value → World → Prop) (s0 : Int) (s1 : Int) (s12 : Option Nat) (s55 : Option Addr) (s55n : Nat) (s55c : Nat) (s56 : Int) (s57 : Int) (s61 : Option Addr) (s61n : Nat) (s61c : Nat) (s62 : Int) (s63 : Int) (w : World) : Prop := Nd X_tile_Plan Q [(0, 0, .int .i64 s0), (1, 1, .int .i64 s1), (12, 12, .map s12), (55, 55, .slice s55 s55n s55c), (56, 56, .int .i64 s56), (57, 57, .int .i64 s57), (61, 61, .slice s61 s61n s61c), (62, 62, .int .i64 s62), (63, 63, .int .i64 s63)] [.code (B_tile_Plan.r.r.r.r.r.r.r.l.r.l.l.r.r.l.l.r.r.l.l.l), .code (B_tile_Plan.r.r.r.r.r.r.r.l.r.l.l.r.r.l.l.r.r.l.l.r), .inLoop (B_tile_Plan.r.r.r.r.r.r.r.l.r.l.l.r.r.l.l.r.r.l.l), .inBlock 4, .inBlock 3, .code (B_tile_Plan.r.r.r.r.r.r.r.l.r.l.l.r.r.r), .inLoop (B_tile_Plan.r.r.r.r.r.r.r.l.r.l.l), .inBlock 2, .code (B_tile_Plan.r.r.r.r.r.r.r.r)] w
noncomputable def N_tile_Plan.j25 (Q : Value → World → Prop) (s19 : Option Addr) (s19n : Nat) (s19c : Nat) (s78 : Addr) (w : World) : Prop := Nd X_tile_Plan Q [(19, 19, .slice s19 s19n s19c), (78, 78, .pointer (some s78))] [.code (B_tile_Plan.r.r.r.r.r.r.r.r.r.l.r.l.l.l), .code (B_tile_Plan.r.r.r.r.r.r.r.r.r.l.r.l.l.r), .inLoop (B_tile_Plan.r.r.r.r.r.r.r.r.r.l.r.l.l), .inBlock 6, .code (B_tile_Plan.r.r.r.r.r.r.r.r.r.r)] w
theorem N_tile_Plan.j7_eq (Q : Value → World → Prop) (s0 : Int) (s1 : Int) (s2 : Option Addr) (s2n : Nat) (s2c : Nat) (s8 : Int) (s33 : Option Addr) (s33n : Nat) (s33c : Nat) (s34 : Int) (s35 : Int) (w : World) (h :
  cond (decide (s35 < s34))
  ((0 : Int) ≤ s35 ∧
  s35 < ((s33n : Nat) : Int) ∧
  opnA s33 fun ad1 =>
  opnI .i64 (w.cell? (ad1.add (Int.toNat s35 * 1))) fun x2 =>
  cond (decide (x2 < 0))
  (N_tile_Plan.j10 Q w)
  (cond (decide (x2 ≥ s8))
  (N_tile_Plan.j10 Q w)
  (N_tile_Plan.j7 Q s0 s1 s2 s2n s2c s8 s33 s33n s33c s34 (IntKind.wrap .i64 (s35 + 1)) w)))
  (alM w fun r3 w4 =>
  C_tlog_Peaks #[.int .i64 s1] w4 fun v5 w6 =>
  opnT (some v5) fun x7 =>
  x7.size = 2 ∧
  opnL (x7[0]?) fun x8 x8n x8c =>
  opnI .i64 (x7[1]?) fun x9 =>
  alC #[.slice x8 x8n x8c, .slice s2 s2n s2c] 25 w6 fun p10 w11 =>
  N_tile_Plan.j15 Q s0 s1 (some r3) (some p10) 2 2 ((2 : Nat) : Int) 0 w11)) :
N_tile_Plan.j7 Q s0 s1 s2 s2n s2c s8 s33 s33n s33c s34 s35 w := Nd_fold K_tile_Plan (by kernel_rfl) h
theorem N_tile_Plan.j10_eq (Q : Value → World → Prop) (w : World) (h :
  Q (.tuple #[.slice none 0 0, .int .i64 105]) w) :
N_tile_Plan.j10 Q w := Nd_fold K_tile_Plan (by kernel_rfl) h
theorem N_tile_Plan.j15_eq (Q : Value → World → Prop) (s0 : Int) (s1 : Int) (s12 : Option Nat) (s55 : Option Addr) (s55n : Nat) (s55c : Nat) (s56 : Int) (s57 : Int) (w : World) (h :
  cond (decide (s57 < s56))
  ((0 : Int) ≤ s57 ∧
  s57 < ((s55n : Nat) : Int) ∧
  opnA s55 fun ad1 =>
  opnL (w.cell? (ad1.add (Int.toNat s57 * 1))) fun x2 x2n x2c =>
  N_tile_Plan.j18 Q s0 s1 s12 s55 s55n s55c s56 s57 x2 x2n x2c ((x2n : Nat) : Int) 0 w)
  (semR PP (Builtin.len_ #[57] 3 #[.map s12]) w fun x3 =>
  opnI .i64 (some x3) fun x4 =>
  sem PP (Instr.makeSlice 23 (.int .i64 0) (.int .i64 x4)) w fun v5 w6 =>
  opnL (some v5) fun x7 x7n x7c =>
  sem PP (Instr.range 57 (.map s12)) w6 fun v8 w9 =>
  opnP (some v8) fun x10 =>
  opnA x10 fun ad11 =>
  N_tile_Plan.j25 Q x7 x7n x7c ad11 w9)) :
N_tile_Plan.j15 Q s0 s1 s12 s55 s55n s55c s56 s57 w := Nd_fold K_tile_Plan (by kernel_rfl) h
theorem N_tile_Plan.j18_eq (Q : Value → World → Prop) (s0 : Int) (s1 : Int) (s12 : Option Nat) (s55 : Option Addr) (s55n : Nat) (s55c : Nat) (s56 : Int) (s57 : Int) (s61 : Option Addr) (s61n : Nat) (s61c : Nat) (s62 : Int) (s63 : Int) (w : World) (h :
  cond (decide (s63 < s62))
  ((0 : Int) ≤ s63 ∧
  s63 < ((s61n : Nat) : Int) ∧
  opnA s61 fun ad1 =>
  opnI .i64 (w.cell? (ad1.add (Int.toNat s63 * 1))) fun x2 =>
  C_tile_need #[.map s12, .int .i64 s0, .int .i64 s1, .int .i64 x2] w fun v3 w4 =>
  opnT (some v3) fun x5 =>
  x5.size = 0 ∧
  N_tile_Plan.j18 Q s0 s1 s12 s55 s55n s55c s56 s57 s61 s61n s61c s62 (IntKind.wrap .i64 (s63 + 1)) w4)
  (N_tile_Plan.j15 Q s0 s1 s12 s55 s55n s55c s56 (IntKind.wrap .i64 (s57 + 1)) w)) :
N_tile_Plan.j18 Q s0 s1 s12 s55 s55n s55c s56 s57 s61 s61n s61c s62 s63 w := Nd_fold K_tile_Plan (by kernel_rfl) h
theorem N_tile_Plan.j25_eq (Q : Value → World → Prop) (s19 : Option Addr) (s19n : Nat) (s19c : Nat) (s78 : Addr) (w : World) (h :
  sem PP (Instr.next (.pointer (some s78)) false 0) w fun v1 w2 =>
  opnN v1
  (C_slices_SortFunc_tile_Tile_tile_Tile #[.slice s19 s19n s19c, .func (.func 42) #[] #[]] w2 fun v5 w6 =>
  opnT (some v5) fun x7 =>
  x7.size = 0 ∧
  Q (.tuple #[.slice s19 s19n s19c, .int .i64 0]) w6)
  fun k3 x4 =>
  opnG (some k3) fun x8 =>
  x8.size = 5 ∧
  opnI .i64 (x8[0]?) fun x9 =>
  opnI .i64 (x8[1]?) fun x10 =>
  opnI .i64 (x8[2]?) fun x11 =>
  opnI .i64 (x8[3]?) fun x12 =>
  opnB (x8[4]?) fun x13 =>
  opnI .i64 (some x4) fun x14 =>
  sem PP (Instr.entry (.pointer (some s78))) w2 fun v15 w16 =>
  opnT (some v15) fun x17 =>
  x17.size = 2 ∧
  opnG (x17[0]?) fun x18 =>
  x18.size = 5 ∧
  opnI .i64 (x18[0]?) fun x19 =>
  opnI .i64 (x18[1]?) fun x20 =>
  opnI .i64 (x18[2]?) fun x21 =>
  opnI .i64 (x18[3]?) fun x22 =>
  opnB (x18[4]?) fun x23 =>
  opnI .i64 (x17[1]?) fun x24 =>
  alC #[.int .i64 0, .int .i64 0, .int .i64 0, .int .i64 0, .bool false] 34 w16 fun p25 w26 =>
  Array.size (#[.int .i64 x19, .int .i64 x20, .int .i64 x21, .int .i64 x22, .bool x23] : Array Value) = 5 ∧
  stC (p25.add 0) (.int .i64 x19) w26 fun w27 =>
  stC (p25.add 1) (.int .i64 x20) w27 fun w28 =>
  stC (p25.add 2) (.int .i64 x21) w28 fun w29 =>
  stC (p25.add 3) (.int .i64 x22) w29 fun w30 =>
  stC (p25.add 4) (.bool x23) w30 fun w31 =>
  opnI .i64 (w31.cell? (p25.add 0)) fun x32 =>
  opnI .i64 (w31.cell? (p25.add 1)) fun x33 =>
  opnI .i64 (w31.cell? (p25.add 2)) fun x34 =>
  opnI .i64 (w31.cell? (p25.add 3)) fun x35 =>
  opnB (w31.cell? (p25.add 4)) fun x36 =>
  alC #[.int .i64 x32, .int .i64 x33, .int .i64 x34, .int .i64 x35, .bool x36] 34 w31 fun p37 w38 =>
  sem PP (Builtin.append_ #[23, 23] 23 #[.slice s19 s19n s19c, .slice (some p37) 1 1]) w38 fun v39 w40 =>
  opnL (some v39) fun x41 x41n x41c =>
  N_tile_Plan.j25 Q x41 x41n x41c s78 w40) :
N_tile_Plan.j25 Q s19 s19n s19c s78 w := Nd_fold K_tile_Plan (by kernel_rfl) h
theorem C_tile_Plan_eq (Q : Value → World → Prop) (a0 : Int) (a1 : Int) (a2 : Option Addr) (a2n : Nat) (a2c : Nat) (w : World) (h :
  C_tile_sizes #[.int .i64 a0, .int .i64 a1] w fun v1 w2 =>
  opnB (some v1) fun x3 =>
  cond (!x3)
  (Q (.tuple #[.slice none 0 0, .int .i64 1]) w2)
  (cond (decide (((a2n : Nat) : Int) > 1024))
  (Q (.tuple #[.slice none 0 0, .int .i64 2]) w2)
  (C_tlog_Count #[.int .i64 a1] w2 fun v4 w5 =>
  opnT (some v4) fun x6 =>
  x6.size = 2 ∧
  opnI .i64 (x6[0]?) fun x7 =>
  opnI .i64 (x6[1]?) fun x8 =>
  N_tile_Plan.j7 Q a0 a1 a2 a2n a2c x7 a2 a2n a2c ((a2n : Nat) : Int) 0 w5))) :
C_tile_Plan #[.int .i64 a0, .int .i64 a1, .slice a2 a2n a2c] w Q := C_fold K_tile_Plan (by kernel_rfl) h
/-! ### ledger/tlog.Peaks -/
noncomputable def B_tlog_Peaks : Code := match Tryz.f18.body with | some c => c | _ => .skip
noncomputable def X_tlog_Peaks : Cx := { P := PP, fn := 18, N := 12, tab := tab, results := [.tmp 2, .tmp 3], iter := fun _ => (.none, .none), dyn := fun _ => false, live := fun r => cond (Nat.beq r 2) (some []) (none) }
theorem K_tlog_Peaks : OkF X_tlog_Peaks B_tlog_Peaks Tryz.f18 := ⟨⟨tab_ok, mix_ok⟩, Tryz.func18, by kernel_rfl, by kernel_rfl, by kernel_rfl, by kernel_rfl⟩
noncomputable def N_tlog_Peaks.j2 (Q : Value → World → Prop) (w : World) : Prop := Nd X_tlog_Peaks Q [] [.code (B_tlog_Peaks.r.l.r.l.l), .code (B_tlog_Peaks.r.l.r.l.r), .code (B_tlog_Peaks.r.r)] w
theorem N_tlog_Peaks.j2_eq (Q : Value → World → Prop) (w : World) (h :
  Q (.tuple #[.slice none 0 0, .int .i64 1]) w) :
N_tlog_Peaks.j2 Q w := Nd_fold K_tlog_Peaks (by kernel_rfl) h
theorem C_tlog_Peaks_eq (Q : Value → World → Prop) (a0 : Int) (w : World) (h :
  cond (decide (a0 < 0))
  (N_tlog_Peaks.j2 Q w)
  (cond (decide (a0 > 281474976710656))
  (N_tlog_Peaks.j2 Q w)
  (C_tlog_peaks #[.int .i64 a0] w fun v1 w2 =>
  opnL (some v1) fun x3 x3n x3c =>
  Q (.tuple #[.slice x3 x3n x3c, .int .i64 0]) w2))) :
C_tlog_Peaks #[.int .i64 a0] w Q := C_fold K_tlog_Peaks (by kernel_rfl) h
/-! ### ledger/tlog.Fold -/
noncomputable def B_tlog_Fold : Code := match Tryz.f19.body with | some c => c | _ => .skip
noncomputable def X_tlog_Fold : Cx := { P := PP, fn := 19, N := 9, tab := tab, results := [.cell 4 54], iter := fun _ => (.none, .none), dyn := fun _ => false, live := fun _ => none }
theorem K_tlog_Fold : OkF X_tlog_Fold B_tlog_Fold Tryz.f19 := ⟨⟨tab_ok, mix_ok⟩, Tryz.func19, by kernel_rfl, by kernel_rfl, by kernel_rfl, by kernel_rfl⟩
theorem C_tlog_Fold_eq (Q : Value → World → Prop) (a0 : Int) (a1 : Option Addr) (a1n : Nat) (a1c : Nat) (w : World) (h :
  alZ PP 54 w fun p1 w2 =>
  C_tlog_hasherOf #[.int .i64 a0] w2 fun v3 w4 =>
  opnG (some v3) fun x5 =>
  x5.size = 4 ∧
  opnI .i64 (x5[0]?) fun x6 =>
  opnV (x5[1]?) fun x7 =>
  opnV (x5[2]?) fun x8 =>
  opnV (x5[3]?) fun x9 =>
  C_tlog_hasher_root #[.agg #[.int .i64 x6, x7, x8, x9], .slice a1 a1n a1c] w4 fun v10 w11 =>
  opnG (some v10) fun x12 =>
  stRow p1 x12 (32 * 1) w11 fun w13 =>
  opnRow w13 p1 (32 * 1) fun x14 =>
  Q (.agg x14) w13) :
C_tlog_Fold #[.int .i64 a0, .slice a1 a1n a1c] w Q := C_fold K_tlog_Fold (by kernel_rfl) h
/-! ### (ledger/tile.shelf).hashes -/
noncomputable def B_tile_shelf_hashes : Code := match Tryz.f20.body with | some c => c | _ => .skip
noncomputable def X_tile_shelf_hashes : Cx := { P := PP, fn := 20, N := 25, tab := tab, results := [.tmp 4], iter := fun _ => (.none, .none), dyn := fun _ => false, live := fun r => cond (Nat.beq r 3) (some [2, 5, 11, 12, 13]) (none) }
theorem K_tile_shelf_hashes : OkF X_tile_shelf_hashes B_tile_shelf_hashes Tryz.f20 := ⟨⟨tab_ok, mix_ok⟩, Tryz.func20, by kernel_rfl, by kernel_rfl, by kernel_rfl, by kernel_rfl⟩
noncomputable def N_tile_shelf_hashes.j3 (Q : Value → World → Prop) (s2 : Addr) (s5 : Option Addr) (s5n : Nat) (s5c : Nat) (s11 : Option Addr) (s11n : Nat) (s11c : Nat) (s12 : Int) (s13 : Int) (w : World) : Prop := Nd X_tile_shelf_hashes Q [(2, 2, .pointer (some s2)), (5, 5, .slice s5 s5n s5c), (11, 11, .slice s11 s11n s11c), (12, 12, .int .i64 s12), (13, 13, .int .i64 s13)] [.code (B_tile_shelf_hashes.r.r.l.r.l.l.l), .code (B_tile_shelf_hashes.r.r.l.r.l.l.r), .inLoop (B_tile_shelf_hashes.r.r.l.r.l.l), .inBlock 0, .code (B_tile_shelf_hashes.r.r.r)] w
theorem N_tile_shelf_hashes.j3_eq (Q : Value → World → Prop) (s2 : Addr) (s5 : Option Addr) (s5n : Nat) (s5c : Nat) (s11 : Option Addr) (s11n : Nat) (s11c : Nat) (s12 : Int) (s13 : Int) (w : World) (h :
  cond (decide (s13 < s12))
  ((0 : Int) ≤ s13 ∧
  s13 < ((s11n : Nat) : Int) ∧
  opnA s11 fun ad1 =>
  opnI .i64 (w.cell? (ad1.add (Int.toNat s13 * 1))) fun x2 =>
  opnI .i64 (w.cell? (s2.add 0)) fun x3 =>
  opnI .i64 (w.cell? (s2.add 1)) fun x4 =>
  opnI .i64 (w.cell? (s2.add 2)) fun x5 =>
  opnM (w.cell? (s2.add 3)) fun x6 =>
  C_tile_shelf_hash #[.agg #[.int .i64 x3, .int .i64 x4, .int .i64 x5, .map x6], .int .i64 x2] w fun v7 w8 =>
  opnG (some v7) fun x9 =>
  x9.size = 32 ∧
  alC x9 54 w8 fun p12 w11 =>
  sem PP (Builtin.append_ #[38, 38] 38 #[.slice s5 s5n s5c, .slice (some p12) 1 1]) w11 fun v13 w14 =>
  opnL (some v13) fun x15 x15n x15c =>
  N_tile_shelf_hashes.j3 Q s2 x15 x15n x15c s11 s11n s11c s12 (IntKind.wrap .i64 (s13 + 1)) w14)
  (Q (.slice s5 s5n s5c) w)) :
N_tile_shelf_hashes.j3 Q s2 s5 s5n s5c s11 s11n s11c s12 s13 w := Nd_fold K_tile_shelf_hashes (by kernel_rfl) h
theorem C_tile_shelf_hashes_eq (Q : Value → World → Prop) (a0_0 : Int) (a0_1 : Int) (a0_2 : Int) (a0_3 : Option Nat) (a1 : Option Addr) (a1n : Nat) (a1c : Nat) (w : World) (h :
  alC #[.int .i64 a0_0, .int .i64 a0_1, .int .i64 a0_2, .map a0_3] 60 w fun p1 w2 =>
  sem PP (Instr.makeSlice 38 (.int .i64 0) (.int .i64 ((a1n : Nat) : Int))) w2 fun v3 w4 =>
  opnL (some v3) fun x5 x5n x5c =>
  N_tile_shelf_hashes.j3 Q p1 x5 x5n x5c a1 a1n a1c ((a1n : Nat) : Int) 0 w4) :
C_tile_shelf_hashes #[.agg #[.int .i64 a0_0, .int .i64 a0_1, .int .i64 a0_2, .map a0_3], .slice a1 a1n a1c] w Q := C_fold K_tile_shelf_hashes (by kernel_rfl) h
/-! ### ledger/tile.full -/
noncomputable def B_tile_full : Code := match Tryz.f21.body with | some c => c | _ => .skip
noncomputable def X_tile_full : Cx := { P := PP, fn := 21, N := 5, tab := tab, results := [.tmp 2], iter := fun _ => (.none, .none), dyn := fun _ => false, live := fun _ => none }
theorem K_tile_full : OkF X_tile_full B_tile_full Tryz.f21 := ⟨⟨tab_ok, mix_ok⟩, Tryz.func21, by kernel_rfl, by kernel_rfl, by kernel_rfl, by kernel_rfl⟩
theorem C_tile_full_eq (Q : Value → World → Prop) (a0 : Int) (w : World) (h :
  nn a0 (
  Q (.int .i64 (shlI .i64 1 a0)) w)) :
C_tile_full #[.int .i64 a0] w Q := C_fold K_tile_full (by kernel_rfl) h
/-! ### ledger/tile.joined -/
noncomputable def B_tile_joined : Code := match Tryz.f22.body with | some c => c | _ => .skip
noncomputable def X_tile_joined : Cx := { P := PP, fn := 22, N := 66, tab := tab, results := [.cell 8 54], iter := fun _ => (.none, .none), dyn := fun _ => false, live := fun r => cond (Nat.beq r 3) (some [0, 1, 2, 8, 9, 16, 17]) (cond (Nat.beq r 7) (some [0, 8, 9]) (cond (Nat.beq r 9) (some [0, 8, 9, 37, 38]) (none))) }
theorem K_tile_joined : OkF X_tile_joined B_tile_joined Tryz.f22 := ⟨⟨tab_ok, mix_ok⟩, Tryz.func22, by kernel_rfl, by kernel_rfl, by kernel_rfl, by kernel_rfl⟩
noncomputable def N_tile_joined.j3 (Q : Value → World → Prop) (s0 : Int) (s1 : Option Addr) (s1n : Nat) (s1c : Nat) (s2 : Int) (s8 : Addr) (s9 : Option Addr) (s9n : Nat) (s9c : Nat) (s16 : Int) (s17 : Int) (w : World) : Prop := Nd X_tile_joined Q [(0, 0, .int .i64 s0), (1, 1, .slice s1 s1n s1c), (2, 2, .int .i64 s2), (8, 8, .pointer (some s8)), (9, 9, .slice s9 s9n s9c), (16, 16, .int .i64 s16), (17, 17, .int .i64 s17)] [.code (B_tile_joined.r.r.l.r.l.l.l), .code (B_tile_joined.r.r.l.r.l.l.r), .inLoop (B_tile_joined.r.r.l.r.l.l), .inBlock 0, .code (B_tile_joined.r.r.r)] w
noncomputable def N_tile_joined.j7 (Q : Value → World → Prop) (s0 : Int) (s8 : Addr) (s9 : Option Addr) (s9n : Nat) (s9c : Nat) (w : World) : Prop := Nd X_tile_joined Q [(0, 0, .int .i64 s0), (8, 8, .pointer (some s8)), (9, 9, .slice s9 s9n s9c)] [.code (B_tile_joined.r.r.r.l.l.l.l.l), .code (B_tile_joined.r.r.r.l.l.l.l.r), .code (B_tile_joined.r.r.r.l.l.l.r), .inLoop (B_tile_joined.r.r.r.l.l.l), .inBlock 2, .code (B_tile_joined.r.r.r.r)] w
noncomputable def N_tile_joined.j9 (Q : Value → World → Prop) (s0 : Int) (s8 : Addr) (s9 : Option Addr) (s9n : Nat) (s9c : Nat) (s37 : Int) (s38 : Int) (w : World) : Prop := Nd X_tile_joined Q [(0, 0, .int .i64 s0), (8, 8, .pointer (some s8)), (9, 9, .slice s9 s9n s9c), (37, 37, .int .i64 s37), (38, 38, .int .i64 s38)] [.code (B_tile_joined.r.r.r.l.l.l.r.l.l.r.l.l.l), .code (B_tile_joined.r.r.r.l.l.l.r.l.l.r.l.l.r), .inLoop (B_tile_joined.r.r.r.l.l.l.r.l.l.r.l.l), .inBlock 4, .code (B_tile_joined.r.r.r.l.l.l.r.l.r), .inBlock 3, .inLoop (B_tile_joined.r.r.r.l.l.l), .inBlock 2, .code (B_tile_joined.r.r.r.r)] w
theorem N_tile_joined.j3_eq (Q : Value → World → Prop) (s0 : Int) (s1 : Option Addr) (s1n : Nat) (s1c : Nat) (s2 : Int) (s8 : Addr) (s9 : Option Addr) (s9n : Nat) (s9c : Nat) (s16 : Int) (s17 : Int) (w : World) (h :
  cond (decide (s17 < s16))
  ((0 : Int) ≤ (IntKind.wrap .i64 (32 * (IntKind.wrap .i64 (s2 + s17)))) ∧
  (IntKind.wrap .i64 (32 * (IntKind.wrap .i64 (s2 + s17)))) ≤ ((s1n : Nat) : Int) ∧
  32 ≤ (s1n - (Int.toNat (IntKind.wrap .i64 (32 * (IntKind.wrap .i64 (s2 + s17)))))) ∧
  opnA (slA s1 (Int.toNat (IntKind.wrap .i64 (32 * (IntKind.wrap .i64 (s2 + s17))))) s1c 1) fun ad1 =>
  opnRow w ad1 (32 * 1) fun x2 =>
  (0 : Int) ≤ s17 ∧
  s17 < ((s9n : Nat) : Int) ∧
  opnA s9 fun ad3 =>
  stRow (ad3.add (Int.toNat s17 * 32)) x2 (32 * 1) w fun w4 =>
  N_tile_joined.j3 Q s0 s1 s1n s1c s2 s8 s9 s9n s9c s16 (IntKind.wrap .i64 (s17 + 1)) w4)
  (N_tile_joined.j7 Q s0 s8 s9 s9n s9c w)) :
N_tile_joined.j3 Q s0 s1 s1n s1c s2 s8 s9 s9n s9c s16 s17 w := Nd_fold K_tile_joined (by kernel_rfl) h
theorem N_tile_joined.j7_eq (Q : Value → World → Prop) (s0 : Int) (s8 : Addr) (s9 : Option Addr) (s9n : Nat) (s9c : Nat) (w : World) (h :
  cond (decide (((s9n : Nat) : Int) > 1))
  (2 ≠ (0 : Int) ∧
  N_tile_joined.j9 Q s0 s8 s9 s9n s9c (IntKind.wrap .i64 (Int.tdiv ((s9n : Nat) : Int) 2)) 0 w)
  ((0 : Int) ≤ 0 ∧
  0 < ((s9n : Nat) : Int) ∧
  opnA s9 fun ad1 =>
  opnRow w (ad1.add (Int.toNat 0 * 32)) (32 * 1) fun x2 =>
  stRow s8 x2 (32 * 1) w fun w3 =>
  opnRow w3 s8 (32 * 1) fun x4 =>
  Q (.agg x4) w3)) :
N_tile_joined.j7 Q s0 s8 s9 s9n s9c w := Nd_fold K_tile_joined (by kernel_rfl) h
theorem N_tile_joined.j9_eq (Q : Value → World → Prop) (s0 : Int) (s8 : Addr) (s9 : Option Addr) (s9n : Nat) (s9c : Nat) (s37 : Int) (s38 : Int) (w : World) (h :
  cond (decide (s38 < s37))
  (drw w fun w1 =>
  (0 : Int) ≤ IntKind.wrap .i64 (2 * s38) ∧
  (IntKind.wrap .i64 (2 * s38)) < ((s9n : Nat) : Int) ∧
  opnA s9 fun ad2 =>
  (0 : Int) ≤ IntKind.wrap .i64 ((IntKind.wrap .i64 (2 * s38)) + 1) ∧
  (IntKind.wrap .i64 ((IntKind.wrap .i64 (2 * s38)) + 1)) < ((s9n : Nat) : Int) ∧
  opnA s9 fun ad3 =>
  opnRow w1 (ad2.add (Int.toNat (IntKind.wrap .i64 (2 * s38)) * 32)) (32 * 1) fun x4 =>
  opnRow w1 (ad3.add (Int.toNat (IntKind.wrap .i64 ((IntKind.wrap .i64 (2 * s38)) + 1)) * 32)) (32 * 1) fun x5 =>
  C_tlog_NodeHash #[.int .i64 s0, .agg x4, .agg x5] w1 fun v6 w7 =>
  opnG (some v6) fun x8 =>
  (0 : Int) ≤ s38 ∧
  s38 < ((s9n : Nat) : Int) ∧
  opnA s9 fun ad9 =>
  stRow (ad9.add (Int.toNat s38 * 32)) x8 (32 * 1) w7 fun w10 =>
  N_tile_joined.j9 Q s0 s8 s9 s9n s9c s37 (IntKind.wrap .i64 (s38 + 1)) w10)
  (2 ≠ (0 : Int) ∧
  (0 : Int) ≤ (IntKind.wrap .i64 (Int.tdiv ((s9n : Nat) : Int) 2)) ∧
  (IntKind.wrap .i64 (Int.tdiv ((s9n : Nat) : Int) 2)) ≤ ((s9c : Nat) : Int) ∧
  N_tile_joined.j7 Q s0 s8 (slA s9 0 s9c 32) ((Int.toNat (IntKind.wrap .i64 (Int.tdiv ((s9n : Nat) : Int) 2))) - 0) (s9c - 0) w)) :
N_tile_joined.j9 Q s0 s8 s9 s9n s9c s37 s38 w := Nd_fold K_tile_joined (by kernel_rfl) h
theorem C_tile_joined_eq (Q : Value → World → Prop) (a0 : Int) (a1 : Option Addr) (a1n : Nat) (a1c : Nat) (a2 : Int) (a3 : Int) (w : World) (h :
  alZ PP 54 w fun p1 w2 =>
  nn a3 (
  sem PP (Instr.makeSlice 38 (.int .i64 (shlI .i64 1 a3)) (.int .i64 (shlI .i64 1 a3))) w2 fun v3 w4 =>
  opnL (some v3) fun x5 x5n x5c =>
  N_tile_joined.j3 Q a0 a1 a1n a1c a2 p1 x5 x5n x5c ((x5n : Nat) : Int) 0 w4)) :
C_tile_joined #[.int .i64 a0, .slice a1 a1n a1c, .int .i64 a2, .int .i64 a3] w Q := C_fold K_tile_joined (by kernel_rfl) h
/-! ### (ledger/tile.shelf).hash -/
noncomputable def B_tile_shelf_hash : Code := match Tryz.f23.body with | some c => c | _ => .skip
noncomputable def X_tile_shelf_hash : Cx := { P := PP, fn := 23, N := 29, tab := tab, results := [.cell 4 54], iter := fun _ => (.none, .none), dyn := fun _ => false, live := fun _ => none }
theorem K_tile_shelf_hash : OkF X_tile_shelf_hash B_tile_shelf_hash Tryz.f23 := ⟨⟨tab_ok, mix_ok⟩, Tryz.func23, by kernel_rfl, by kernel_rfl, by kernel_rfl, by kernel_rfl⟩
theorem C_tile_shelf_hash_eq (Q : Value → World → Prop) (a0_0 : Int) (a0_1 : Int) (a0_2 : Int) (a0_3 : Option Nat) (a1 : Int) (w : World) (h :
  alC #[.int .i64 a0_0, .int .i64 a0_1, .int .i64 a0_2, .map a0_3] 60 w fun p1 w2 =>
  alZ PP 54 w2 fun p3 w4 =>
  opnI .i64 (w4.cell? (p1.add 1)) fun x5 =>
  C_tile_seatOf #[.int .i64 x5, .int .i64 a1] w4 fun v6 w7 =>
  opnT (some v6) fun x8 =>
  x8.size = 2 ∧
  opnG (x8[0]?) fun x9 =>
  x9.size = 7 ∧
  opnI .i64 (x9[0]?) fun x10 =>
  opnI .i64 (x9[1]?) fun x11 =>
  opnI .i64 (x9[2]?) fun x12 =>
  opnI .i64 (x9[3]?) fun x13 =>
  opnB (x9[4]?) fun x14 =>
  opnI .i64 (x9[5]?) fun x15 =>
  opnI .i64 (x9[6]?) fun x16 =>
  opnB (x8[1]?) fun x17 =>
  alC #[.int .i64 0, .int .i64 0, .int .i64 0, .int .i64 0, .bool false, .int .i64 0, .int .i64 0] 105 w7 fun p18 w19 =>
  Array.size (#[.int .i64 x10, .int .i64 x11, .int .i64 x12, .int .i64 x13, .bool x14, .int .i64 x15, .int .i64 x16] : Array Value) = 7 ∧
  stC (p18.add 0) (.int .i64 x10) w19 fun w20 =>
  stC (p18.add 1) (.int .i64 x11) w20 fun w21 =>
  stC (p18.add 2) (.int .i64 x12) w21 fun w22 =>
  stC (p18.add 3) (.int .i64 x13) w22 fun w23 =>
  stC (p18.add 4) (.bool x14) w23 fun w24 =>
  stC (p18.add 5) (.int .i64 x15) w24 fun w25 =>
  stC (p18.add 6) (.int .i64 x16) w25 fun w26 =>
  drw w26 fun w27 =>
  opnI .i64 (w27.cell? (p1.add 0)) fun x28 =>
  opnM (w27.cell? (p1.add 3)) fun x29 =>
  opnI .i64 (w27.cell? ((p18.add 0).add 0)) fun x30 =>
  opnI .i64 (w27.cell? ((p18.add 0).add 1)) fun x31 =>
  opnI .i64 (w27.cell? ((p18.add 0).add 2)) fun x32 =>
  opnI .i64 (w27.cell? ((p18.add 0).add 3)) fun x33 =>
  opnB (w27.cell? ((p18.add 0).add 4)) fun x34 =>
  opnI .i64 (w27.cell? (p1.add 2)) fun x35 =>
  opnI .i64 (w27.cell? (p18.add 5)) fun x36 =>
  opnI .i64 (w27.cell? (p18.add 6)) fun x37 =>
  C_tile_wide #[.agg #[.int .i64 x30, .int .i64 x31, .int .i64 x32, .int .i64 x33, .bool x34], .int .i64 x35] w27 fun v38 w39 =>
  opnG (some v38) fun x40 =>
  x40.size = 5 ∧
  opnI .i64 (x40[0]?) fun x41 =>
  opnI .i64 (x40[1]?) fun x42 =>
  opnI .i64 (x40[2]?) fun x43 =>
  opnI .i64 (x40[3]?) fun x44 =>
  opnB (x40[4]?) fun x45 =>
  (opnI .i64 (w39.cell? (p18.add 6)) fun x46 =>
  ((.int .i64 x46) : Value) = .int .i64 x37) ∧
  (opnI .i64 (w39.cell? (p18.add 5)) fun x47 =>
  ((.int .i64 x47) : Value) = .int .i64 x36) ∧
  (opnM (w39.cell? (p1.add 3)) fun x48 =>
  ((.map x48) : Value) = .map x29) ∧
  (opnI .i64 (w39.cell? (p1.add 0)) fun x49 =>
  ((.int .i64 x49) : Value) = .int .i64 x28) ∧
  semR PP (Instr.lookup 58 (.map x29) (.agg #[.int .i64 x41, .int .i64 x42, .int .i64 x43, .int .i64 x44, .bool x45]) false) w39 fun x50 =>
  opnL (some x50) fun x51 x51n x51c =>
  C_tile_joined #[.int .i64 x28, .slice x51 x51n x51c, .int .i64 x36, .int .i64 x37] w39 fun v52 w53 =>
  opnG (some v52) fun x54 =>
  stRow p3 x54 (32 * 1) w53 fun w55 =>
  opnRow w55 p3 (32 * 1) fun x56 =>
  Q (.agg x56) w55) :
C_tile_shelf_hash #[.agg #[.int .i64 a0_0, .int .i64 a0_1, .int .i64 a0_2, .map a0_3], .int .i64 a1] w Q := C_fold K_tile_shelf_hash (by kernel_rfl) h
/-! ### ledger/tile.topOf -/
noncomputable def B_tile_topOf : Code := match Tryz.f24.body with | some c => c | _ => .skip
noncomputable def X_tile_topOf : Cx := { P := PP, fn := 24, N := 18, tab := tab, results := [.tmp 2], iter := fun _ => (.none, .none), dyn := fun _ => false, live := fun _ => none }
theorem K_tile_topOf : OkF X_tile_topOf B_tile_topOf Tryz.f24 := ⟨⟨tab_ok, mix_ok⟩, Tryz.func24, by kernel_rfl, by kernel_rfl, by kernel_rfl, by kernel_rfl⟩
theorem C_tile_topOf_eq (Q : Value → World → Prop) (a0_0 : Int) (a0_1 : Int) (a0_2 : Int) (a0_3 : Int) (a0_4 : Bool) (w : World) (h :
  alC #[.int .i64 a0_0, .int .i64 a0_1, .int .i64 a0_2, .int .i64 a0_3, .bool a0_4] 34 w fun p1 w2 =>
  opnI .i64 (w2.cell? (p1.add 0)) fun x3 =>
  opnI .i64 (w2.cell? (p1.add 1)) fun x4 =>
  opnI .i64 (w2.cell? (p1.add 2)) fun x5 =>
  C_tlog_Index #[.int .i64 (IntKind.wrap .i64 (x3 * (IntKind.wrap .i64 (x4 + 1)))), .int .i64 x5] w2 fun v6 w7 =>
  opnT (some v6) fun x8 =>
  x8.size = 2 ∧
  opnI .i64 (x8[0]?) fun x9 =>
  opnI .i64 (x8[1]?) fun x10 =>
  Q (.int .i64 x9) w7) :
C_tile_topOf #[.agg #[.int .i64 a0_0, .int .i64 a0_1, .int .i64 a0_2, .int .i64 a0_3, .bool a0_4]] w Q := C_fold K_tile_topOf (by kernel_rfl) h
/-! ### ledger/ledgerlaw10.whole -/
noncomputable def B_l10_whole : Code := match Tryz.f25.body with | some c => c | _ => .skip
noncomputable def X_l10_whole : Cx := { P := PP, fn := 25, N := 11, tab := tab, results := [.tmp 4], iter := fun _ => (.none, .none), dyn := fun _ => false, live := fun _ => none }
theorem K_l10_whole : OkF X_l10_whole B_l10_whole Tryz.f25 := ⟨⟨tab_ok, mix_ok⟩, Tryz.func25, by kernel_rfl, by kernel_rfl, by kernel_rfl, by kernel_rfl⟩
theorem C_l10_whole_eq (Q : Value → World → Prop) (a0 : Option Addr) (a0n : Nat) (a0c : Nat) (a1 : Option Addr) (a1n : Nat) (a1c : Nat) (w : World) (h :
  drw w fun w1 =>
  semR PP (convert 29 9 (.slice a0 a0n a0c)) w1 fun x2 =>
  opnS (some x2) fun x3 =>
  C_l10_lent #[.slice a1 a1n a1c] w1 fun v4 w5 =>
  opnL (some v4) fun x6 x6n x6c =>
  (semR PP (convert 29 9 (.slice a0 a0n a0c)) w5 fun x7 =>
  opnS (some x7) fun x8 =>
  ((.string x8) : Value) = .string x3) ∧
  semR PP (convert 29 9 (.slice x6 x6n x6c)) w5 fun x9 =>
  opnS (some x9) fun x10 =>
  Q (.bool (x3.toList == x10.toList)) w5) :
C_l10_whole #[.slice a0 a0n a0c, .slice a1 a1n a1c] w Q := C_fold K_l10_whole (by kernel_rfl) h
/-! ### ledger/ledgerref08.Count -/
noncomputable def B_r08_Count : Code := match Tryz.f26.body with | some c => c | _ => .skip
noncomputable def X_r08_Count : Cx := { P := PP, fn := 26, N := 12, tab := tab, results := [.tmp 2, .tmp 3], iter := fun _ => (.none, .none), dyn := fun _ => false, live := fun r => cond (Nat.beq r 2) (some []) (none) }
theorem K_r08_Count : OkF X_r08_Count B_r08_Count Tryz.f26 := ⟨⟨tab_ok, mix_ok⟩, Tryz.func26, by kernel_rfl, by kernel_rfl, by kernel_rfl, by kernel_rfl⟩
noncomputable def N_r08_Count.j2 (Q : Value → World → Prop) (w : World) : Prop := Nd X_r08_Count Q [] [.code (B_r08_Count.r.l.r.l.l), .code (B_r08_Count.r.l.r.l.r), .code (B_r08_Count.r.r)] w
theorem N_r08_Count.j2_eq (Q : Value → World → Prop) (w : World) (h :
  Q (.tuple #[.int .i64 0, .int .i64 1]) w) :
N_r08_Count.j2 Q w := Nd_fold K_r08_Count (by kernel_rfl) h
theorem C_r08_Count_eq (Q : Value → World → Prop) (a0 : Int) (w : World) (h :
  cond (decide (a0 < 0))
  (N_r08_Count.j2 Q w)
  (cond (decide (a0 > 281474976710656))
  (N_r08_Count.j2 Q w)
  (C_r08_laid #[.int .i64 a0] w fun v1 w2 =>
  opnI .i64 (some v1) fun x3 =>
  Q (.tuple #[.int .i64 x3, .int .i64 0]) w2))) :
C_r08_Count #[.int .i64 a0] w Q := C_fold K_r08_Count (by kernel_rfl) h
/-! ### ledger/ledgerref08.Peaks -/
noncomputable def B_r08_Peaks : Code := match Tryz.f27.body with | some c => c | _ => .skip
noncomputable def X_r08_Peaks : Cx := { P := PP, fn := 27, N := 44, tab := tab, results := [.tmp 2, .tmp 3], iter := fun _ => (.none, .none), dyn := fun _ => false, live := fun r => cond (Nat.beq r 3) (some [4]) (cond (Nat.beq r 6) (some [0, 4, 5, 6]) (cond (Nat.beq r 7) (some [0, 4, 5, 6]) (none))) }
theorem K_r08_Peaks : OkF X_r08_Peaks B_r08_Peaks Tryz.f27 := ⟨⟨tab_ok, mix_ok⟩, Tryz.func27, by kernel_rfl, by kernel_rfl, by kernel_rfl, by kernel_rfl⟩
noncomputable def N_r08_Peaks.j3 (Q : Value → World → Prop) (s4 : Option Addr) (s4n : Nat) (s4c : Nat) (w : World) : Prop := Nd X_r08_Peaks Q [(4, 4, .slice s4 s4n s4c)] [.code (B_r08_Peaks.r.r.l.r.l.l), .code (B_r08_Peaks.r.r.l.r.l.r), .code (B_r08_Peaks.r.r.r)] w
noncomputable def N_r08_Peaks.j6 (Q : Value → World → Prop) (s0 : Int) (s4 : Option Addr) (s4n : Nat) (s4c : Nat) (s5 : Int) (s6 : Int) (w : World) : Prop := Nd X_r08_Peaks Q [(0, 0, .int .i64 s0), (4, 4, .slice s4 s4n s4c), (5, 5, .int .i64 s5), (6, 6, .int .i64 s6)] [.code (B_r08_Peaks.r.r.r.r.l.r.l.l.l.l), .code (B_r08_Peaks.r.r.r.r.l.r.l.l.l.r), .code (B_r08_Peaks.r.r.r.r.l.r.l.l.r), .inLoop (B_r08_Peaks.r.r.r.r.l.r.l.l), .inBlock 0, .code (B_r08_Peaks.r.r.r.r.r)] w
noncomputable def N_r08_Peaks.j7 (Q : Value → World → Prop) (s0 : Int) (s4 : Option Addr) (s4n : Nat) (s4c : Nat) (s5 : Int) (s6 : Int) (w : World) : Prop := Nd X_r08_Peaks Q [(0, 0, .int .i64 s0), (4, 4, .slice s4 s4n s4c), (5, 5, .int .i64 s5), (6, 6, .int .i64 s6)] [.code (B_r08_Peaks.r.r.r.r.l.r.l.l.r.r), .inLoop (B_r08_Peaks.r.r.r.r.l.r.l.l), .inBlock 0, .code (B_r08_Peaks.r.r.r.r.r)] w
theorem N_r08_Peaks.j3_eq (Q : Value → World → Prop) (s4 : Option Addr) (s4n : Nat) (s4c : Nat) (w : World) (h :
  Q (.tuple #[.slice s4 s4n s4c, .int .i64 1]) w) :
N_r08_Peaks.j3 Q s4 s4n s4c w := Nd_fold K_r08_Peaks (by kernel_rfl) h
theorem N_r08_Peaks.j6_eq (Q : Value → World → Prop) (s0 : Int) (s4 : Option Addr) (s4n : Nat) (s4c : Nat) (s5 : Int) (s6 : Int) (w : World) (h :
  cond (decide (s6 ≥ 0))
  (C_r08_power #[.int .i64 s6] w fun v1 w2 =>
  opnI .i64 (some v1) fun x3 =>
  cond (decide ((IntKind.wrap .i64 (s0 - s5)) ≥ x3))
  (x3 ≠ (0 : Int) ∧
  C_r08_Index #[.int .i64 s6, .int .i64 (IntKind.wrap .i64 (Int.tdiv s5 x3))] w2 fun v4 w5 =>
  opnT (some v4) fun x6 =>
  x6.size = 2 ∧
  opnI .i64 (x6[0]?) fun x7 =>
  opnI .i64 (x6[1]?) fun x8 =>
  alC #[.int .i64 x7] 3 w5 fun p9 w10 =>
  sem PP (Builtin.append_ #[72, 72] 72 #[.slice s4 s4n s4c, .slice (some p9) 1 1]) w10 fun v11 w12 =>
  opnL (some v11) fun x13 x13n x13c =>
  N_r08_Peaks.j7 Q s0 x13 x13n x13c (IntKind.wrap .i64 (s5 + x3)) s6 w12)
  (N_r08_Peaks.j7 Q s0 s4 s4n s4c s5 s6 w2))
  (Q (.tuple #[.slice s4 s4n s4c, .int .i64 0]) w)) :
N_r08_Peaks.j6 Q s0 s4 s4n s4c s5 s6 w := Nd_fold K_r08_Peaks (by kernel_rfl) h
theorem N_r08_Peaks.j7_eq (Q : Value → World → Prop) (s0 : Int) (s4 : Option Addr) (s4n : Nat) (s4c : Nat) (s5 : Int) (s6 : Int) (w : World) (h :
  N_r08_Peaks.j6 Q s0 s4 s4n s4c s5 (IntKind.wrap .i64 (s6 - 1)) w) :
N_r08_Peaks.j7 Q s0 s4 s4n s4c s5 s6 w := Nd_fold K_r08_Peaks (by kernel_rfl) h
theorem C_r08_Peaks_eq (Q : Value → World → Prop) (a0 : Int) (w : World) (h :
  cond (decide (a0 < 0))
  (N_r08_Peaks.j3 Q none 0 0 w)
  (cond (decide (a0 > 281474976710656))
  (N_r08_Peaks.j3 Q none 0 0 w)
  (N_r08_Peaks.j6 Q a0 none 0 0 0 48 w))) :
C_r08_Peaks #[.int .i64 a0] w Q := C_fold K_r08_Peaks (by kernel_rfl) h
/-! ### ledger/ledgerref10.wide -/
noncomputable def B_r10_wide : Code := match Tryz.f28.body with | some c => c | _ => .skip
noncomputable def X_r10_wide : Cx := { P := PP, fn := 28, N := 30, tab := tab, results := [.cell 6 32], iter := fun _ => (.none, .none), dyn := fun _ => false, live := fun _ => none }
theorem K_r10_wide : OkF X_r10_wide B_r10_wide Tryz.f28 := ⟨⟨tab_ok, mix_ok⟩, Tryz.func28, by kernel_rfl, by kernel_rfl, by kernel_rfl, by kernel_rfl⟩
theorem C_r10_wide_eq (Q : Value → World → Prop) (a0 : Int) (a1 : Int) (a2 : Int) (w : World) (h :
  alC #[.int .i64 0, .int .i64 0, .int .i64 0, .int .i64 0, .bool false] 32 w fun p1 w2 =>
  C_r10_Of #[.int .i64 a0, .int .i64 a2] w2 fun v3 w4 =>
  opnT (some v3) fun x5 =>
  x5.size = 2 ∧
  opnG (x5[0]?) fun x6 =>
  x6.size = 5 ∧
  opnI .i64 (x6[0]?) fun x7 =>
  opnI .i64 (x6[1]?) fun x8 =>
  opnI .i64 (x6[2]?) fun x9 =>
  opnI .i64 (x6[3]?) fun x10 =>
  opnB (x6[4]?) fun x11 =>
  opnI .i64 (x5[1]?) fun x12 =>
  alC #[.int .i64 0, .int .i64 0, .int .i64 0, .int .i64 0, .bool false] 32 w4 fun p13 w14 =>
  Array.size (#[.int .i64 x7, .int .i64 x8, .int .i64 x9, .int .i64 x10, .bool x11] : Array Value) = 5 ∧
  stC (p13.add 0) (.int .i64 x7) w14 fun w15 =>
  stC (p13.add 1) (.int .i64 x8) w15 fun w16 =>
  stC (p13.add 2) (.int .i64 x9) w16 fun w17 =>
  stC (p13.add 3) (.int .i64 x10) w17 fun w18 =>
  stC (p13.add 4) (.bool x11) w18 fun w19 =>
  opnI .i64 (w19.cell? (p13.add 1)) fun x20 =>
  opnI .i64 (w19.cell? (p13.add 2)) fun x21 =>
  C_r10_Width #[.int .i64 a0, .int .i64 x20, .int .i64 x21, .int .i64 a1] w19 fun v22 w23 =>
  opnT (some v22) fun x24 =>
  x24.size = 2 ∧
  opnI .i64 (x24[0]?) fun x25 =>
  opnI .i64 (x24[1]?) fun x26 =>
  stC (p13.add 3) (.int .i64 x25) w23 fun w27 =>
  opnI .i64 (w27.cell? (p13.add 0)) fun x28 =>
  opnI .i64 (w27.cell? (p13.add 1)) fun x29 =>
  opnI .i64 (w27.cell? (p13.add 2)) fun x30 =>
  opnI .i64 (w27.cell? (p13.add 3)) fun x31 =>
  opnB (w27.cell? (p13.add 4)) fun x32 =>
  Array.size (#[.int .i64 x28, .int .i64 x29, .int .i64 x30, .int .i64 x31, .bool x32] : Array Value) = 5 ∧
  stC (p1.add 0) (.int .i64 x28) w27 fun w33 =>
  stC (p1.add 1) (.int .i64 x29) w33 fun w34 =>
  stC (p1.add 2) (.int .i64 x30) w34 fun w35 =>
  stC (p1.add 3) (.int .i64 x31) w35 fun w36 =>
  stC (p1.add 4) (.bool x32) w36 fun w37 =>
  opnI .i64 (w37.cell? (p1.add 0)) fun x38 =>
  opnI .i64 (w37.cell? (p1.add 1)) fun x39 =>
  opnI .i64 (w37.cell? (p1.add 2)) fun x40 =>
  opnI .i64 (w37.cell? (p1.add 3)) fun x41 =>
  opnB (w37.cell? (p1.add 4)) fun x42 =>
  Q (.agg #[.int .i64 x38, .int .i64 x39, .int .i64 x40, .int .i64 x41, .bool x42]) w37) :
C_r10_wide #[.int .i64 a0, .int .i64 a1, .int .i64 a2] w Q := C_fold K_r10_wide (by kernel_rfl) h
/-! ### ledger/ledgerref10.within -/
noncomputable def B_r10_within : Code := match Tryz.f29.body with | some c => c | _ => .skip
noncomputable def X_r10_within : Cx := { P := PP, fn := 29, N := 30, tab := tab, results := [.tmp 4], iter := fun _ => (.none, .none), dyn := fun _ => false, live := fun r => cond (Nat.beq r 2) (some [0, 3, 5]) (cond (Nat.beq r 3) (some [0, 3, 5]) (none)) }
theorem K_r10_within : OkF X_r10_within B_r10_within Tryz.f29 := ⟨⟨tab_ok, mix_ok⟩, Tryz.func29, by kernel_rfl, by kernel_rfl, by kernel_rfl, by kernel_rfl⟩
noncomputable def N_r10_within.j2 (Q : Value → World → Prop) (s0 : Option Addr) (s0n : Nat) (s0c : Nat) (s3 : Addr) (s5 : Int) (w : World) : Prop := Nd X_r10_within Q [(0, 0, .slice s0 s0n s0c), (3, 3, .pointer (some s3)), (5, 5, .int .i64 s5)] [.code (B_r10_within.r.l.r.l.l.l.l), .code (B_r10_within.r.l.r.l.l.l.r), .code (B_r10_within.r.l.r.l.l.r), .inLoop (B_r10_within.r.l.r.l.l), .inBlock 0, .code (B_r10_within.r.r)] w
noncomputable def N_r10_within.j3 (Q : Value → World → Prop) (s0 : Option Addr) (s0n : Nat) (s0c : Nat) (s3 : Addr) (s5 : Int) (w : World) : Prop := Nd X_r10_within Q [(0, 0, .slice s0 s0n s0c), (3, 3, .pointer (some s3)), (5, 5, .int .i64 s5)] [.code (B_r10_within.r.l.r.l.l.r.r), .inLoop (B_r10_within.r.l.r.l.l), .inBlock 0, .code (B_r10_within.r.r)] w
theorem N_r10_within.j2_eq (Q : Value → World → Prop) (s0 : Option Addr) (s0n : Nat) (s0c : Nat) (s3 : Addr) (s5 : Int) (w : World) (h :
  cond (decide (s5 < ((s0n : Nat) : Int)))
  (drw w fun w1 =>
  (0 : Int) ≤ s5 ∧
  s5 < ((s0n : Nat) : Int) ∧
  opnA s0 fun ad2 =>
  opnI .i64 (w1.cell? ((ad2.add (Int.toNat s5 * 5)).add 1)) fun x3 =>
  opnI .i64 (w1.cell? (s3.add 1)) fun x4 =>
  cond (x3 == x4)
  ((0 : Int) ≤ s5 ∧
  s5 < ((s0n : Nat) : Int) ∧
  opnA s0 fun ad5 =>
  opnI .i64 (w1.cell? ((ad5.add (Int.toNat s5 * 5)).add 2)) fun x6 =>
  opnI .i64 (w1.cell? (s3.add 2)) fun x7 =>
  cond (x6 == x7)
  (Q (.bool true) w1)
  (N_r10_within.j3 Q s0 s0n s0c s3 s5 w1))
  (N_r10_within.j3 Q s0 s0n s0c s3 s5 w1))
  (Q (.bool false) w)) :
N_r10_within.j2 Q s0 s0n s0c s3 s5 w := Nd_fold K_r10_within (by kernel_rfl) h
theorem N_r10_within.j3_eq (Q : Value → World → Prop) (s0 : Option Addr) (s0n : Nat) (s0c : Nat) (s3 : Addr) (s5 : Int) (w : World) (h :
  N_r10_within.j2 Q s0 s0n s0c s3 (IntKind.wrap .i64 (s5 + 1)) w) :
N_r10_within.j3 Q s0 s0n s0c s3 s5 w := Nd_fold K_r10_within (by kernel_rfl) h
theorem C_r10_within_eq (Q : Value → World → Prop) (a0 : Option Addr) (a0n : Nat) (a0c : Nat) (a1_0 : Int) (a1_1 : Int) (a1_2 : Int) (a1_3 : Int) (a1_4 : Bool) (w : World) (h :
  alC #[.int .i64 a1_0, .int .i64 a1_1, .int .i64 a1_2, .int .i64 a1_3, .bool a1_4] 32 w fun p1 w2 =>
  N_r10_within.j2 Q a0 a0n a0c p1 0 w2) :
C_r10_within #[.slice a0 a0n a0c, .agg #[.int .i64 a1_0, .int .i64 a1_1, .int .i64 a1_2, .int .i64 a1_3, .bool a1_4]] w Q := C_fold K_r10_within (by kernel_rfl) h
/-! ### ledger/ledgerref10.power -/
noncomputable def B_r10_power : Code := match Tryz.f30.body with | some c => c | _ => .skip
noncomputable def X_r10_power : Cx := { P := PP, fn := 30, N := 6, tab := tab, results := [.tmp 2], iter := fun _ => (.none, .none), dyn := fun _ => false, live := fun _ => none }
theorem K_r10_power : OkF X_r10_power B_r10_power Tryz.f30 := ⟨⟨tab_ok, mix_ok⟩, Tryz.func30, by kernel_rfl, by kernel_rfl, by kernel_rfl, by kernel_rfl⟩
theorem C_r10_power_eq (Q : Value → World → Prop) (a0 : Int) (w : World) (h :
  nn (IntKind.wrap .u64 a0) (
  Q (.int .i64 (shlI .i64 1 (IntKind.wrap .u64 a0))) w)) :
C_r10_power #[.int .i64 a0] w Q := C_fold K_r10_power (by kernel_rfl) h
/-! ### ledger/ledgerref10.top -/
noncomputable def B_r10_top : Code := match Tryz.f31.body with | some c => c | _ => .skip
noncomputable def X_r10_top : Cx := { P := PP, fn := 31, N := 18, tab := tab, results := [.tmp 2], iter := fun _ => (.none, .none), dyn := fun _ => false, live := fun _ => none }
theorem K_r10_top : OkF X_r10_top B_r10_top Tryz.f31 := ⟨⟨tab_ok, mix_ok⟩, Tryz.func31, by kernel_rfl, by kernel_rfl, by kernel_rfl, by kernel_rfl⟩
theorem C_r10_top_eq (Q : Value → World → Prop) (a0_0 : Int) (a0_1 : Int) (a0_2 : Int) (a0_3 : Int) (a0_4 : Bool) (w : World) (h :
  alC #[.int .i64 a0_0, .int .i64 a0_1, .int .i64 a0_2, .int .i64 a0_3, .bool a0_4] 32 w fun p1 w2 =>
  opnI .i64 (w2.cell? (p1.add 0)) fun x3 =>
  opnI .i64 (w2.cell? (p1.add 1)) fun x4 =>
  opnI .i64 (w2.cell? (p1.add 2)) fun x5 =>
  C_r08_Index #[.int .i64 (IntKind.wrap .i64 (x3 * (IntKind.wrap .i64 (x4 + 1)))), .int .i64 x5] w2 fun v6 w7 =>
  opnT (some v6) fun x8 =>
  x8.size = 2 ∧
  opnI .i64 (x8[0]?) fun x9 =>
  opnI .i64 (x8[1]?) fun x10 =>
  Q (.int .i64 x9) w7) :
C_r10_top #[.agg #[.int .i64 a0_0, .int .i64 a0_1, .int .i64 a0_2, .int .i64 a0_3, .bool a0_4]] w Q := C_fold K_r10_top (by kernel_rfl) h
/-! ### ledger/ledgerref10.sorted -/
noncomputable def B_r10_sorted : Code := match Tryz.f32.body with | some c => c | _ => .skip
noncomputable def X_r10_sorted : Cx := { P := PP, fn := 32, N := 81, tab := tab, results := [.tmp 2], iter := fun _ => (.none, .none), dyn := fun _ => false, live := fun r => cond (Nat.beq r 3) (some [0, 3, 4]) (cond (Nat.beq r 6) (some [0, 3, 4, 5, 6]) (cond (Nat.beq r 7) (some [0, 3, 4, 5, 6]) (cond (Nat.beq r 9) (some [0, 3, 4, 6]) (none)))) }
theorem K_r10_sorted : OkF X_r10_sorted B_r10_sorted Tryz.f32 := ⟨⟨tab_ok, mix_ok⟩, Tryz.func32, by kernel_rfl, by kernel_rfl, by kernel_rfl, by kernel_rfl⟩
noncomputable def N_r10_sorted.j3 (Q : Value → World → Prop) (s0 : Option Addr) (s0n : Nat) (s0c : Nat) (s3 : Option Addr) (s3n : Nat) (s3c : Nat) (s4 : Option Addr) (s4n : Nat) (s4c : Nat) (w : World) : Prop := Nd X_r10_sorted Q [(0, 0, .slice s0 s0n s0c), (3, 3, .slice s3 s3n s3c), (4, 4, .slice s4 s4n s4c)] [.code (B_r10_sorted.r.r.r.l.l.l.l.l), .code (B_r10_sorted.r.r.r.l.l.l.l.r), .code (B_r10_sorted.r.r.r.l.l.l.r), .inLoop (B_r10_sorted.r.r.r.l.l.l), .inBlock 0, .code (B_r10_sorted.r.r.r.r)] w
noncomputable def N_r10_sorted.j6 (Q : Value → World → Prop) (s0 : Option Addr) (s0n : Nat) (s0c : Nat) (s3 : Option Addr) (s3n : Nat) (s3c : Nat) (s4 : Option Addr) (s4n : Nat) (s4c : Nat) (s5 : Int) (s6 : Int) (w : World) : Prop := Nd X_r10_sorted Q [(0, 0, .slice s0 s0n s0c), (3, 3, .slice s3 s3n s3c), (4, 4, .slice s4 s4n s4c), (5, 5, .int .i64 s5), (6, 6, .int .i64 s6)] [.code (B_r10_sorted.r.r.r.l.l.l.r.l.r.l.r.l.l.l.l), .code (B_r10_sorted.r.r.r.l.l.l.r.l.r.l.r.l.l.l.r), .code (B_r10_sorted.r.r.r.l.l.l.r.l.r.l.r.l.l.r), .inLoop (B_r10_sorted.r.r.r.l.l.l.r.l.r.l.r.l.l), .inBlock 2, .code (B_r10_sorted.r.r.r.l.l.l.r.l.r.r), .inBlock 1, .inLoop (B_r10_sorted.r.r.r.l.l.l), .inBlock 0, .code (B_r10_sorted.r.r.r.r)] w
noncomputable def N_r10_sorted.j7 (Q : Value → World → Prop) (s0 : Option Addr) (s0n : Nat) (s0c : Nat) (s3 : Option Addr) (s3n : Nat) (s3c : Nat) (s4 : Option Addr) (s4n : Nat) (s4c : Nat) (s5 : Int) (s6 : Int) (w : World) : Prop := Nd X_r10_sorted Q [(0, 0, .slice s0 s0n s0c), (3, 3, .slice s3 s3n s3c), (4, 4, .slice s4 s4n s4c), (5, 5, .int .i64 s5), (6, 6, .int .i64 s6)] [.code (B_r10_sorted.r.r.r.l.l.l.r.l.r.l.r.l.l.r.r), .inLoop (B_r10_sorted.r.r.r.l.l.l.r.l.r.l.r.l.l), .inBlock 2, .code (B_r10_sorted.r.r.r.l.l.l.r.l.r.r), .inBlock 1, .inLoop (B_r10_sorted.r.r.r.l.l.l), .inBlock 0, .code (B_r10_sorted.r.r.r.r)] w
noncomputable def N_r10_sorted.j9 (Q : Value → World → Prop) (s0 : Option Addr) (s0n : Nat) (s0c : Nat) (s3 : Option Addr) (s3n : Nat) (s3c : Nat) (s4 : Option Addr) (s4n : Nat) (s4c : Nat) (s6 : Int) (w : World) : Prop := Nd X_r10_sorted Q [(0, 0, .slice s0 s0n s0c), (3, 3, .slice s3 s3n s3c), (4, 4, .slice s4 s4n s4c), (6, 6, .int .i64 s6)] [.code (B_r10_sorted.r.r.r.l.l.l.r.l.r.l.r.l.l.r.l.l.r.l), .inBlock 3, .code (B_r10_sorted.r.r.r.l.l.l.r.l.r.l.r.l.l.r.r), .inLoop (B_r10_sorted.r.r.r.l.l.l.r.l.r.l.r.l.l), .inBlock 2, .code (B_r10_sorted.r.r.r.l.l.l.r.l.r.r), .inBlock 1, .inLoop (B_r10_sorted.r.r.r.l.l.l), .inBlock 0, .code (B_r10_sorted.r.r.r.r)] w
theorem N_r10_sorted.j3_eq (Q : Value → World → Prop) (s0 : Option Addr) (s0n : Nat) (s0c : Nat) (s3 : Option Addr) (s3n : Nat) (s3c : Nat) (s4 : Option Addr) (s4n : Nat) (s4c : Nat) (w : World) (h :
  cond (decide (((s3n : Nat) : Int) < ((s0n : Nat) : Int)))
  (N_r10_sorted.j6 Q s0 s0n s0c s3 s3n s3c s4 s4n s4c (-1) 0 w)
  (Q (.slice s3 s3n s3c) w)) :
N_r10_sorted.j3 Q s0 s0n s0c s3 s3n s3c s4 s4n s4c w := Nd_fold K_r10_sorted (by kernel_rfl) h
theorem N_r10_sorted.j6_eq (Q : Value → World → Prop) (s0 : Option Addr) (s0n : Nat) (s0c : Nat) (s3 : Option Addr) (s3n : Nat) (s3c : Nat) (s4 : Option Addr) (s4n : Nat) (s4c : Nat) (s5 : Int) (s6 : Int) (w : World) (h :
  cond (decide (s6 < ((s0n : Nat) : Int)))
  (drw w fun w1 =>
  (0 : Int) ≤ s6 ∧
  s6 < ((s4n : Nat) : Int) ∧
  opnA s4 fun ad2 =>
  opnB (w1.cell? (ad2.add (Int.toNat s6 * 1))) fun x3 =>
  cond (!x3)
  (cond (decide (s5 < 0))
  (N_r10_sorted.j9 Q s0 s0n s0c s3 s3n s3c s4 s4n s4c s6 w1)
  ((0 : Int) ≤ s6 ∧
  s6 < ((s0n : Nat) : Int) ∧
  opnA s0 fun ad4 =>
  (0 : Int) ≤ s5 ∧
  s5 < ((s0n : Nat) : Int) ∧
  opnA s0 fun ad5 =>
  opnI .i64 (w1.cell? ((ad4.add (Int.toNat s6 * 5)).add 1)) fun x6 =>
  opnI .i64 (w1.cell? ((ad5.add (Int.toNat s5 * 5)).add 1)) fun x7 =>
  cond (decide (x6 > x7))
  (N_r10_sorted.j9 Q s0 s0n s0c s3 s3n s3c s4 s4n s4c s6 w1)
  ((0 : Int) ≤ s6 ∧
  s6 < ((s0n : Nat) : Int) ∧
  opnA s0 fun ad8 =>
  (0 : Int) ≤ s5 ∧
  s5 < ((s0n : Nat) : Int) ∧
  opnA s0 fun ad9 =>
  opnI .i64 (w1.cell? ((ad8.add (Int.toNat s6 * 5)).add 1)) fun x10 =>
  opnI .i64 (w1.cell? ((ad9.add (Int.toNat s5 * 5)).add 1)) fun x11 =>
  cond (x10 == x11)
  ((0 : Int) ≤ s6 ∧
  s6 < ((s0n : Nat) : Int) ∧
  opnA s0 fun ad12 =>
  (0 : Int) ≤ s5 ∧
  s5 < ((s0n : Nat) : Int) ∧
  opnA s0 fun ad13 =>
  opnI .i64 (w1.cell? ((ad12.add (Int.toNat s6 * 5)).add 2)) fun x14 =>
  opnI .i64 (w1.cell? ((ad13.add (Int.toNat s5 * 5)).add 2)) fun x15 =>
  cond (decide (x14 < x15))
  (N_r10_sorted.j9 Q s0 s0n s0c s3 s3n s3c s4 s4n s4c s6 w1)
  (N_r10_sorted.j7 Q s0 s0n s0c s3 s3n s3c s4 s4n s4c s5 s6 w1))
  (N_r10_sorted.j7 Q s0 s0n s0c s3 s3n s3c s4 s4n s4c s5 s6 w1))))
  (N_r10_sorted.j7 Q s0 s0n s0c s3 s3n s3c s4 s4n s4c s5 s6 w1))
  ((0 : Int) ≤ s5 ∧
  s5 < ((s4n : Nat) : Int) ∧
  opnA s4 fun ad16 =>
  stC (ad16.add (Int.toNat s5 * 1)) (.bool true) w fun w17 =>
  (0 : Int) ≤ s5 ∧
  s5 < ((s0n : Nat) : Int) ∧
  opnA s0 fun ad18 =>
  opnI .i64 (w17.cell? ((ad18.add (Int.toNat s5 * 5)).add 0)) fun x19 =>
  opnI .i64 (w17.cell? ((ad18.add (Int.toNat s5 * 5)).add 1)) fun x20 =>
  opnI .i64 (w17.cell? ((ad18.add (Int.toNat s5 * 5)).add 2)) fun x21 =>
  opnI .i64 (w17.cell? ((ad18.add (Int.toNat s5 * 5)).add 3)) fun x22 =>
  opnB (w17.cell? ((ad18.add (Int.toNat s5 * 5)).add 4)) fun x23 =>
  alC #[.int .i64 x19, .int .i64 x20, .int .i64 x21, .int .i64 x22, .bool x23] 32 w17 fun p24 w25 =>
  sem PP (Builtin.append_ #[28, 28] 28 #[.slice s3 s3n s3c, .slice (some p24) 1 1]) w25 fun v26 w27 =>
  opnL (some v26) fun x28 x28n x28c =>
  N_r10_sorted.j3 Q s0 s0n s0c x28 x28n x28c s4 s4n s4c w27)) :
N_r10_sorted.j6 Q s0 s0n s0c s3 s3n s3c s4 s4n s4c s5 s6 w := Nd_fold K_r10_sorted (by kernel_rfl) h
theorem N_r10_sorted.j7_eq (Q : Value → World → Prop) (s0 : Option Addr) (s0n : Nat) (s0c : Nat) (s3 : Option Addr) (s3n : Nat) (s3c : Nat) (s4 : Option Addr) (s4n : Nat) (s4c : Nat) (s5 : Int) (s6 : Int) (w : World) (h :
  N_r10_sorted.j6 Q s0 s0n s0c s3 s3n s3c s4 s4n s4c s5 (IntKind.wrap .i64 (s6 + 1)) w) :
N_r10_sorted.j7 Q s0 s0n s0c s3 s3n s3c s4 s4n s4c s5 s6 w := Nd_fold K_r10_sorted (by kernel_rfl) h
theorem N_r10_sorted.j9_eq (Q : Value → World → Prop) (s0 : Option Addr) (s0n : Nat) (s0c : Nat) (s3 : Option Addr) (s3n : Nat) (s3c : Nat) (s4 : Option Addr) (s4n : Nat) (s4c : Nat) (s6 : Int) (w : World) (h :
  N_r10_sorted.j7 Q s0 s0n s0c s3 s3n s3c s4 s4n s4c s6 s6 w) :
N_r10_sorted.j9 Q s0 s0n s0c s3 s3n s3c s4 s4n s4c s6 w := Nd_fold K_r10_sorted (by kernel_rfl) h
theorem C_r10_sorted_eq (Q : Value → World → Prop) (a0 : Option Addr) (a0n : Nat) (a0c : Nat) (w : World) (h :
  sem PP (Instr.makeSlice 114 (.int .i64 ((a0n : Nat) : Int)) (.int .i64 ((a0n : Nat) : Int))) w fun v1 w2 =>
  opnL (some v1) fun x3 x3n x3c =>
  N_r10_sorted.j3 Q a0 a0n a0c none 0 0 x3 x3n x3c w2) :
C_r10_sorted #[.slice a0 a0n a0c] w Q := C_fold K_r10_sorted (by kernel_rfl) h
/-! ### ledger/ledgerref08.Fold -/
noncomputable def B_r08_Fold : Code := match Tryz.f33.body with | some c => c | _ => .skip
noncomputable def X_r08_Fold : Cx := { P := PP, fn := 33, N := 33, tab := tab, results := [.cell 4 22], iter := fun _ => (.none, .none), dyn := fun _ => false, live := fun r => cond (Nat.beq r 5) (some [0, 1, 4, 5, 6]) (none) }
theorem K_r08_Fold : OkF X_r08_Fold B_r08_Fold Tryz.f33 := ⟨⟨tab_ok, mix_ok⟩, Tryz.func33, by kernel_rfl, by kernel_rfl, by kernel_rfl, by kernel_rfl⟩
noncomputable def N_r08_Fold.j5 (Q : Value → World → Prop) (s0 : Int) (s1 : Option Addr) (s1n : Nat) (s1c : Nat) (s4 : Addr) (s5 : Addr) (s6 : Int) (w : World) : Prop := Nd X_r08_Fold Q [(0, 0, .int .i64 s0), (1, 1, .slice s1 s1n s1c), (4, 4, .pointer (some s4)), (5, 5, .pointer (some s5)), (6, 6, .int .i64 s6)] [.code (B_r08_Fold.r.r.r.l.r.l.l.l.l), .code (B_r08_Fold.r.r.r.l.r.l.l.l.r), .code (B_r08_Fold.r.r.r.l.r.l.l.r), .inLoop (B_r08_Fold.r.r.r.l.r.l.l), .inBlock 0, .code (B_r08_Fold.r.r.r.r)] w
theorem N_r08_Fold.j5_eq (Q : Value → World → Prop) (s0 : Int) (s1 : Option Addr) (s1n : Nat) (s1c : Nat) (s4 : Addr) (s5 : Addr) (s6 : Int) (w : World) (h :
  cond (decide (s6 ≥ 0))
  (drw w fun w1 =>
  (0 : Int) ≤ s6 ∧
  s6 < ((s1n : Nat) : Int) ∧
  opnA s1 fun ad2 =>
  opnRow w1 (ad2.add (Int.toNat s6 * 32)) (32 * 1) fun x3 =>
  opnRow w1 s5 (32 * 1) fun x4 =>
  C_r08_Node #[.int .i64 s0, .agg x3, .agg x4] w1 fun v5 w6 =>
  opnG (some v5) fun x7 =>
  stRow s5 x7 (32 * 1) w6 fun w8 =>
  N_r08_Fold.j5 Q s0 s1 s1n s1c s4 s5 (IntKind.wrap .i64 (s6 - 1)) w8)
  (opnRow w s5 (32 * 1) fun x9 =>
  stRow s4 x9 (32 * 1) w fun w10 =>
  opnRow w10 s4 (32 * 1) fun x11 =>
  Q (.agg x11) w10)) :
N_r08_Fold.j5 Q s0 s1 s1n s1c s4 s5 s6 w := Nd_fold K_r08_Fold (by kernel_rfl) h
theorem C_r08_Fold_eq (Q : Value → World → Prop) (a0 : Int) (a1 : Option Addr) (a1n : Nat) (a1c : Nat) (w : World) (h :
  alZ PP 22 w fun p1 w2 =>
  cond (((a1n : Nat) : Int) == 0)
  (C_r08_Empty #[.int .i64 a0] w2 fun v3 w4 =>
  opnG (some v3) fun x5 =>
  stRow p1 x5 (32 * 1) w4 fun w6 =>
  opnRow w6 p1 (32 * 1) fun x7 =>
  Q (.agg x7) w6)
  ((0 : Int) ≤ IntKind.wrap .i64 (((a1n : Nat) : Int) - 1) ∧
  (IntKind.wrap .i64 (((a1n : Nat) : Int) - 1)) < ((a1n : Nat) : Int) ∧
  opnA a1 fun ad8 =>
  opnRow w2 (ad8.add (Int.toNat (IntKind.wrap .i64 (((a1n : Nat) : Int) - 1)) * 32)) (32 * 1) fun x9 =>
  alZ PP 22 w2 fun p10 w11 =>
  stRow p10 x9 (32 * 1) w11 fun w12 =>
  N_r08_Fold.j5 Q a0 a1 a1n a1c p1 p10 (IntKind.wrap .i64 (((a1n : Nat) : Int) - 2)) w12)) :
C_r08_Fold #[.int .i64 a0, .slice a1 a1n a1c] w Q := C_fold K_r08_Fold (by kernel_rfl) h
/-! ### ledger/ledgerref10.joined -/
noncomputable def B_r10_joined : Code := match Tryz.f34.body with | some c => c | _ => .skip
noncomputable def X_r10_joined : Cx := { P := PP, fn := 34, N := 38, tab := tab, results := [.cell 8 22], iter := fun _ => (.none, .none), dyn := fun _ => false, live := fun _ => none }
theorem K_r10_joined : OkF X_r10_joined B_r10_joined Tryz.f34 := ⟨⟨tab_ok, mix_ok⟩, Tryz.func34, by kernel_rfl, by kernel_rfl, by kernel_rfl, by kernel_rfl⟩
theorem C_r10_joined_eq (Q : Value → World → Prop) (a0 : Int) (a1 : Option Addr) (a1n : Nat) (a1c : Nat) (a2 : Int) (a3 : Int) (w : World) (h :
  alZ PP 22 w fun p1 w2 =>
  cond (a3 == 0)
  (C_r10_hashAt #[.slice a1 a1n a1c, .int .i64 a2] w2 fun v3 w4 =>
  opnG (some v3) fun x5 =>
  stRow p1 x5 (32 * 1) w4 fun w6 =>
  opnRow w6 p1 (32 * 1) fun x7 =>
  Q (.agg x7) w6)
  (C_r10_power #[.int .i64 (IntKind.wrap .i64 (a3 - 1))] w2 fun v8 w9 =>
  opnI .i64 (some v8) fun x10 =>
  C_r10_joined #[.int .i64 a0, .slice a1 a1n a1c, .int .i64 a2, .int .i64 (IntKind.wrap .i64 (a3 - 1))] w9 fun v11 w12 =>
  opnG (some v11) fun x13 =>
  alZ PP 22 w12 fun p14 w15 =>
  stRow p14 x13 (32 * 1) w15 fun w16 =>
  C_r10_joined #[.int .i64 a0, .slice a1 a1n a1c, .int .i64 (IntKind.wrap .i64 (a2 + x10)), .int .i64 (IntKind.wrap .i64 (a3 - 1))] w16 fun v17 w18 =>
  opnG (some v17) fun x19 =>
  alZ PP 22 w18 fun p20 w21 =>
  stRow p20 x19 (32 * 1) w21 fun w22 =>
  opnRow w22 p14 (32 * 1) fun x23 =>
  opnRow w22 p20 (32 * 1) fun x24 =>
  C_r08_Node #[.int .i64 a0, .agg x23, .agg x24] w22 fun v25 w26 =>
  opnG (some v25) fun x27 =>
  stRow p1 x27 (32 * 1) w26 fun w28 =>
  opnRow w28 p1 (32 * 1) fun x29 =>
  Q (.agg x29) w28)) :
C_r10_joined #[.int .i64 a0, .slice a1 a1n a1c, .int .i64 a2, .int .i64 a3] w Q := C_fold K_r10_joined (by kernel_rfl) h
/-! ### ledger/ledgerref10.Of -/
noncomputable def B_r10_Of : Code := match Tryz.f35.body with | some c => c | _ => .skip
noncomputable def X_r10_Of : Cx := { P := PP, fn := 35, N := 52, tab := tab, results := [.cell 4 32, .tmp 5], iter := fun _ => (.none, .none), dyn := fun _ => false, live := fun r => cond (Nat.beq r 2) (some [4]) (cond (Nat.beq r 9) (some [0, 4, 9, 10, 11]) (cond (Nat.beq r 10) (some [4, 11]) (none))) }
theorem K_r10_Of : OkF X_r10_Of B_r10_Of Tryz.f35 := ⟨⟨tab_ok, mix_ok⟩, Tryz.func35, by kernel_rfl, by kernel_rfl, by kernel_rfl, by kernel_rfl⟩
noncomputable def N_r10_Of.j2 (Q : Value → World → Prop) (s4 : Addr) (w : World) : Prop := Nd X_r10_Of Q [(4, 4, .pointer (some s4))] [.code (B_r10_Of.r.l.r.l.l), .code (B_r10_Of.r.l.r.l.r), .code (B_r10_Of.r.r)] w
noncomputable def N_r10_Of.j9 (Q : Value → World → Prop) (s0 : Int) (s4 : Addr) (s9 : Int) (s10 : Int) (s11 : Addr) (w : World) : Prop := Nd X_r10_Of Q [(0, 0, .int .i64 s0), (4, 4, .pointer (some s4)), (9, 9, .int .i64 s9), (10, 10, .int .i64 s10), (11, 11, .pointer (some s11))] [.code (B_r10_Of.r.r.r.r.r.r.r.l), .code (B_r10_Of.r.r.r.r.r.r.r.r)] w
noncomputable def N_r10_Of.j10 (Q : Value → World → Prop) (s4 : Addr) (s11 : Addr) (w : World) : Prop := Nd X_r10_Of Q [(4, 4, .pointer (some s4)), (11, 11, .pointer (some s11))] [.code (B_r10_Of.r.r.r.r.r.r.r.r.l), .code (B_r10_Of.r.r.r.r.r.r.r.r.r)] w
theorem N_r10_Of.j2_eq (Q : Value → World → Prop) (s4 : Addr) (w : World) (h :
  Array.size (#[.int .i64 0, .int .i64 0, .int .i64 0, .int .i64 0, .bool false] : Array Value) = 5 ∧
  stC (s4.add 0) (.int .i64 0) w fun w1 =>
  stC (s4.add 1) (.int .i64 0) w1 fun w2 =>
  stC (s4.add 2) (.int .i64 0) w2 fun w3 =>
  stC (s4.add 3) (.int .i64 0) w3 fun w4 =>
  stC (s4.add 4) (.bool false) w4 fun w5 =>
  opnI .i64 (w5.cell? (s4.add 0)) fun x6 =>
  opnI .i64 (w5.cell? (s4.add 1)) fun x7 =>
  opnI .i64 (w5.cell? (s4.add 2)) fun x8 =>
  opnI .i64 (w5.cell? (s4.add 3)) fun x9 =>
  opnB (w5.cell? (s4.add 4)) fun x10 =>
  Q (.tuple #[.agg #[.int .i64 x6, .int .i64 x7, .int .i64 x8, .int .i64 x9, .bool x10], .int .i64 1]) w5) :
N_r10_Of.j2 Q s4 w := Nd_fold K_r10_Of (by kernel_rfl) h
theorem N_r10_Of.j9_eq (Q : Value → World → Prop) (s0 : Int) (s4 : Addr) (s9 : Int) (s10 : Int) (s11 : Addr) (w : World) (h :
  C_r10_power #[.int .i64 s0] w fun v1 w2 =>
  opnI .i64 (some v1) fun x3 =>
  x3 ≠ (0 : Int) ∧
  stC (s11.add 3) (.int .i64 (IntKind.wrap .i64 ((Int.tmod s10 x3) + s9))) w2 fun w4 =>
  N_r10_Of.j10 Q s4 s11 w4) :
N_r10_Of.j9 Q s0 s4 s9 s10 s11 w := Nd_fold K_r10_Of (by kernel_rfl) h
theorem N_r10_Of.j10_eq (Q : Value → World → Prop) (s4 : Addr) (s11 : Addr) (w : World) (h :
  opnI .i64 (w.cell? (s11.add 0)) fun x1 =>
  opnI .i64 (w.cell? (s11.add 1)) fun x2 =>
  opnI .i64 (w.cell? (s11.add 2)) fun x3 =>
  opnI .i64 (w.cell? (s11.add 3)) fun x4 =>
  opnB (w.cell? (s11.add 4)) fun x5 =>
  Array.size (#[.int .i64 x1, .int .i64 x2, .int .i64 x3, .int .i64 x4, .bool x5] : Array Value) = 5 ∧
  stC (s4.add 0) (.int .i64 x1) w fun w6 =>
  stC (s4.add 1) (.int .i64 x2) w6 fun w7 =>
  stC (s4.add 2) (.int .i64 x3) w7 fun w8 =>
  stC (s4.add 3) (.int .i64 x4) w8 fun w9 =>
  stC (s4.add 4) (.bool x5) w9 fun w10 =>
  opnI .i64 (w10.cell? (s4.add 0)) fun x11 =>
  opnI .i64 (w10.cell? (s4.add 1)) fun x12 =>
  opnI .i64 (w10.cell? (s4.add 2)) fun x13 =>
  opnI .i64 (w10.cell? (s4.add 3)) fun x14 =>
  opnB (w10.cell? (s4.add 4)) fun x15 =>
  Q (.tuple #[.agg #[.int .i64 x11, .int .i64 x12, .int .i64 x13, .int .i64 x14, .bool x15], .int .i64 0]) w10) :
N_r10_Of.j10 Q s4 s11 w := Nd_fold K_r10_Of (by kernel_rfl) h
theorem C_r10_Of_eq (Q : Value → World → Prop) (a0 : Int) (a1 : Int) (w : World) (h :
  alC #[.int .i64 0, .int .i64 0, .int .i64 0, .int .i64 0, .bool false] 32 w fun p1 w2 =>
  cond (decide (a0 < 1))
  (N_r10_Of.j2 Q p1 w2)
  (cond (decide (a0 > 8))
  (N_r10_Of.j2 Q p1 w2)
  (C_r08_SplitIndex #[.int .i64 a1] w2 fun v3 w4 =>
  opnT (some v3) fun x5 =>
  x5.size = 3 ∧
  opnI .i64 (x5[0]?) fun x6 =>
  opnI .i64 (x5[1]?) fun x7 =>
  opnI .i64 (x5[2]?) fun x8 =>
  cond (x8 != 0)
  (Array.size (#[.int .i64 0, .int .i64 0, .int .i64 0, .int .i64 0, .bool false] : Array Value) = 5 ∧
  stC (p1.add 0) (.int .i64 0) w4 fun w9 =>
  stC (p1.add 1) (.int .i64 0) w9 fun w10 =>
  stC (p1.add 2) (.int .i64 0) w10 fun w11 =>
  stC (p1.add 3) (.int .i64 0) w11 fun w12 =>
  stC (p1.add 4) (.bool false) w12 fun w13 =>
  opnI .i64 (w13.cell? (p1.add 0)) fun x14 =>
  opnI .i64 (w13.cell? (p1.add 1)) fun x15 =>
  opnI .i64 (w13.cell? (p1.add 2)) fun x16 =>
  opnI .i64 (w13.cell? (p1.add 3)) fun x17 =>
  opnB (w13.cell? (p1.add 4)) fun x18 =>
  Q (.tuple #[.agg #[.int .i64 x14, .int .i64 x15, .int .i64 x16, .int .i64 x17, .bool x18], .int .i64 1]) w13)
  (a0 ≠ (0 : Int) ∧
  C_r10_power #[.int .i64 (Int.tmod x6 a0)] w4 fun v19 w20 =>
  opnI .i64 (some v19) fun x21 =>
  drw w20 fun w22 =>
  a0 ≠ (0 : Int) ∧
  (C_r10_power #[.int .i64 a0] w22 fun v23 w24 =>
  opnI .i64 (some v23) fun x25 =>
  x25 ≠ (0 : Int) ∧
  alC #[.int .i64 0, .int .i64 0, .int .i64 0, .int .i64 0, .bool false] 32 w24 fun p26 w27 =>
  Array.size (#[.int .i64 a0, .int .i64 (IntKind.wrap .i64 (Int.tdiv x6 a0)), .int .i64 (IntKind.wrap .i64 (Int.tdiv (IntKind.wrap .i64 (x7 * x21)) x25)), .int .i64 0, .bool false] : Array Value) = 5 ∧
  stC (p26.add 0) (.int .i64 a0) w27 fun w28 =>
  stC (p26.add 1) (.int .i64 (IntKind.wrap .i64 (Int.tdiv x6 a0))) w28 fun w29 =>
  stC (p26.add 2) (.int .i64 (IntKind.wrap .i64 (Int.tdiv (IntKind.wrap .i64 (x7 * x21)) x25))) w29 fun w30 =>
  stC (p26.add 3) (.int .i64 0) w30 fun w31 =>
  stC (p26.add 4) (.bool false) w31 fun w32 =>
  N_r10_Of.j9 Q a0 p1 x21 (IntKind.wrap .i64 (x7 * x21)) p26 w32) ∧
  (alC #[.int .i64 0, .int .i64 0, .int .i64 0, .int .i64 0, .bool false] 32 w22 fun p33 w34 =>
  C_r10_power #[.int .i64 a0] w34 fun v35 w36 =>
  opnI .i64 (some v35) fun x37 =>
  x37 ≠ (0 : Int) ∧
  Array.size (#[.int .i64 a0, .int .i64 (IntKind.wrap .i64 (Int.tdiv x6 a0)), .int .i64 (IntKind.wrap .i64 (Int.tdiv (IntKind.wrap .i64 (x7 * x21)) x37)), .int .i64 0, .bool false] : Array Value) = 5 ∧
  stC (p33.add 0) (.int .i64 a0) w36 fun w38 =>
  stC (p33.add 1) (.int .i64 (IntKind.wrap .i64 (Int.tdiv x6 a0))) w38 fun w39 =>
  stC (p33.add 2) (.int .i64 (IntKind.wrap .i64 (Int.tdiv (IntKind.wrap .i64 (x7 * x21)) x37))) w39 fun w40 =>
  stC (p33.add 3) (.int .i64 0) w40 fun w41 =>
  stC (p33.add 4) (.bool false) w41 fun w42 =>
  N_r10_Of.j9 Q a0 p1 x21 (IntKind.wrap .i64 (x7 * x21)) p33 w42))))) :
C_r10_Of #[.int .i64 a0, .int .i64 a1] w Q := C_fold K_r10_Of (by kernel_rfl) h
/-! ### ledger/ledgerref10.dataOf -/
noncomputable def B_r10_dataOf : Code := match Tryz.f36.body with | some c => c | _ => .skip
noncomputable def X_r10_dataOf : Cx := { P := PP, fn := 36, N := 36, tab := tab, results := [.tmp 6], iter := fun _ => (.none, .none), dyn := fun _ => false, live := fun r => cond (Nat.beq r 2) (some [0, 1, 5, 7]) (cond (Nat.beq r 3) (some [0, 1, 5, 7]) (none)) }
theorem K_r10_dataOf : OkF X_r10_dataOf B_r10_dataOf Tryz.f36 := ⟨⟨tab_ok, mix_ok⟩, Tryz.func36, by kernel_rfl, by kernel_rfl, by kernel_rfl, by kernel_rfl⟩
noncomputable def N_r10_dataOf.j2 (Q : Value → World → Prop) (s0 : Option Addr) (s0n : Nat) (s0c : Nat) (s1 : Option Addr) (s1n : Nat) (s1c : Nat) (s5 : Addr) (s7 : Int) (w : World) : Prop := Nd X_r10_dataOf Q [(0, 0, .slice s0 s0n s0c), (1, 1, .slice s1 s1n s1c), (5, 5, .pointer (some s5)), (7, 7, .int .i64 s7)] [.code (B_r10_dataOf.r.l.r.l.l.l.l), .code (B_r10_dataOf.r.l.r.l.l.l.r), .code (B_r10_dataOf.r.l.r.l.l.r), .inLoop (B_r10_dataOf.r.l.r.l.l), .inBlock 0, .code (B_r10_dataOf.r.r)] w
noncomputable def N_r10_dataOf.j3 (Q : Value → World → Prop) (s0 : Option Addr) (s0n : Nat) (s0c : Nat) (s1 : Option Addr) (s1n : Nat) (s1c : Nat) (s5 : Addr) (s7 : Int) (w : World) : Prop := Nd X_r10_dataOf Q [(0, 0, .slice s0 s0n s0c), (1, 1, .slice s1 s1n s1c), (5, 5, .pointer (some s5)), (7, 7, .int .i64 s7)] [.code (B_r10_dataOf.r.l.r.l.l.r.r), .inLoop (B_r10_dataOf.r.l.r.l.l), .inBlock 0, .code (B_r10_dataOf.r.r)] w
theorem N_r10_dataOf.j2_eq (Q : Value → World → Prop) (s0 : Option Addr) (s0n : Nat) (s0c : Nat) (s1 : Option Addr) (s1n : Nat) (s1c : Nat) (s5 : Addr) (s7 : Int) (w : World) (h :
  cond (decide (s7 < ((s0n : Nat) : Int)))
  (drw w fun w1 =>
  (0 : Int) ≤ s7 ∧
  s7 < ((s0n : Nat) : Int) ∧
  opnA s0 fun ad2 =>
  opnI .i64 (w1.cell? ((ad2.add (Int.toNat s7 * 5)).add 1)) fun x3 =>
  opnI .i64 (w1.cell? (s5.add 1)) fun x4 =>
  cond (x3 == x4)
  ((0 : Int) ≤ s7 ∧
  s7 < ((s0n : Nat) : Int) ∧
  opnA s0 fun ad5 =>
  opnI .i64 (w1.cell? ((ad5.add (Int.toNat s7 * 5)).add 2)) fun x6 =>
  opnI .i64 (w1.cell? (s5.add 2)) fun x7 =>
  cond (x6 == x7)
  ((0 : Int) ≤ s7 ∧
  s7 < ((s1n : Nat) : Int) ∧
  opnA s1 fun ad8 =>
  opnL (w1.cell? (ad8.add (Int.toNat s7 * 1))) fun x9 x9n x9c =>
  Q (.slice x9 x9n x9c) w1)
  (N_r10_dataOf.j3 Q s0 s0n s0c s1 s1n s1c s5 s7 w1))
  (N_r10_dataOf.j3 Q s0 s0n s0c s1 s1n s1c s5 s7 w1))
  (Q (.slice none 0 0) w)) :
N_r10_dataOf.j2 Q s0 s0n s0c s1 s1n s1c s5 s7 w := Nd_fold K_r10_dataOf (by kernel_rfl) h
theorem N_r10_dataOf.j3_eq (Q : Value → World → Prop) (s0 : Option Addr) (s0n : Nat) (s0c : Nat) (s1 : Option Addr) (s1n : Nat) (s1c : Nat) (s5 : Addr) (s7 : Int) (w : World) (h :
  N_r10_dataOf.j2 Q s0 s0n s0c s1 s1n s1c s5 (IntKind.wrap .i64 (s7 + 1)) w) :
N_r10_dataOf.j3 Q s0 s0n s0c s1 s1n s1c s5 s7 w := Nd_fold K_r10_dataOf (by kernel_rfl) h
theorem C_r10_dataOf_eq (Q : Value → World → Prop) (a0 : Option Addr) (a0n : Nat) (a0c : Nat) (a1 : Option Addr) (a1n : Nat) (a1c : Nat) (a2_0 : Int) (a2_1 : Int) (a2_2 : Int) (a2_3 : Int) (a2_4 : Bool) (w : World) (h :
  alC #[.int .i64 a2_0, .int .i64 a2_1, .int .i64 a2_2, .int .i64 a2_3, .bool a2_4] 32 w fun p1 w2 =>
  N_r10_dataOf.j2 Q a0 a0n a0c a1 a1n a1c p1 0 w2) :
C_r10_dataOf #[.slice a0 a0n a0c, .slice a1 a1n a1c, .agg #[.int .i64 a2_0, .int .i64 a2_1, .int .i64 a2_2, .int .i64 a2_3, .bool a2_4]] w Q := C_fold K_r10_dataOf (by kernel_rfl) h
/-! ### ledger/ledgerref08.SplitIndex -/
noncomputable def B_r08_SplitIndex : Code := match Tryz.f37.body with | some c => c | _ => .skip
noncomputable def X_r08_SplitIndex : Cx := { P := PP, fn := 37, N := 26, tab := tab, results := [.tmp 2, .tmp 3, .tmp 4], iter := fun _ => (.none, .none), dyn := fun _ => false, live := fun r => cond (Nat.beq r 2) (some []) (none) }
theorem K_r08_SplitIndex : OkF X_r08_SplitIndex B_r08_SplitIndex Tryz.f37 := ⟨⟨tab_ok, mix_ok⟩, Tryz.func37, by kernel_rfl, by kernel_rfl, by kernel_rfl, by kernel_rfl⟩
noncomputable def N_r08_SplitIndex.j2 (Q : Value → World → Prop) (w : World) : Prop := Nd X_r08_SplitIndex Q [] [.code (B_r08_SplitIndex.r.l.r.l.l), .code (B_r08_SplitIndex.r.l.r.l.r), .code (B_r08_SplitIndex.r.r)] w
theorem N_r08_SplitIndex.j2_eq (Q : Value → World → Prop) (w : World) (h :
  Q (.tuple #[.int .i64 0, .int .i64 0, .int .i64 1]) w) :
N_r08_SplitIndex.j2 Q w := Nd_fold K_r08_SplitIndex (by kernel_rfl) h
theorem C_r08_SplitIndex_eq (Q : Value → World → Prop) (a0 : Int) (w : World) (h :
  cond (decide (a0 < 0))
  (N_r08_SplitIndex.j2 Q w)
  (cond (decide (a0 ≥ 562949953421311))
  (N_r08_SplitIndex.j2 Q w)
  (C_r08_record #[.int .i64 a0] w fun v1 w2 =>
  opnI .i64 (some v1) fun x3 =>
  C_r08_laid #[.int .i64 x3] w2 fun v4 w5 =>
  opnI .i64 (some v4) fun x6 =>
  drw w5 fun w7 =>
  C_r08_power #[.int .i64 (IntKind.wrap .i64 (a0 - x6))] w7 fun v8 w9 =>
  opnI .i64 (some v8) fun x10 =>
  x10 ≠ (0 : Int) ∧
  Q (.tuple #[.int .i64 (IntKind.wrap .i64 (a0 - x6)), .int .i64 (IntKind.wrap .i64 ((IntKind.wrap .i64 (Int.tdiv (IntKind.wrap .i64 (x3 + 1)) x10)) - 1)), .int .i64 0]) w9))) :
C_r08_SplitIndex #[.int .i64 a0] w Q := C_fold K_r08_SplitIndex (by kernel_rfl) h
/-! ### ledger/tile.sizes -/
noncomputable def B_tile_sizes : Code := match Tryz.f38.body with | some c => c | _ => .skip
noncomputable def X_tile_sizes : Cx := { P := PP, fn := 38, N := 19, tab := tab, results := [.tmp 4], iter := fun _ => (.none, .none), dyn := fun _ => false, live := fun _ => none }
theorem K_tile_sizes : OkF X_tile_sizes B_tile_sizes Tryz.f38 := ⟨⟨tab_ok, mix_ok⟩, Tryz.func38, by kernel_rfl, by kernel_rfl, by kernel_rfl, by kernel_rfl⟩
theorem C_tile_sizes_eq (Q : Value → World → Prop) (a0 : Int) (a1 : Int) (w : World) (h :
  cond (decide (a0 ≥ 1))
  (cond (decide (a0 ≤ 8))
  (cond (decide (a1 ≥ 0))
  (Q (.bool (decide (a1 ≤ 281474976710656))) w)
  (Q (.bool false) w))
  (Q (.bool false) w))
  (Q (.bool false) w)) :
C_tile_sizes #[.int .i64 a0, .int .i64 a1] w Q := C_fold K_tile_sizes (by kernel_rfl) h
/-! ### ledger/tlog.Count -/
noncomputable def B_tlog_Count : Code := match Tryz.f39.body with | some c => c | _ => .skip
noncomputable def X_tlog_Count : Cx := { P := PP, fn := 39, N := 12, tab := tab, results := [.tmp 2, .tmp 3], iter := fun _ => (.none, .none), dyn := fun _ => false, live := fun r => cond (Nat.beq r 2) (some []) (none) }
theorem K_tlog_Count : OkF X_tlog_Count B_tlog_Count Tryz.f39 := ⟨⟨tab_ok, mix_ok⟩, Tryz.func39, by kernel_rfl, by kernel_rfl, by kernel_rfl, by kernel_rfl⟩
noncomputable def N_tlog_Count.j2 (Q : Value → World → Prop) (w : World) : Prop := Nd X_tlog_Count Q [] [.code (B_tlog_Count.r.l.r.l.l), .code (B_tlog_Count.r.l.r.l.r), .code (B_tlog_Count.r.r)] w
theorem N_tlog_Count.j2_eq (Q : Value → World → Prop) (w : World) (h :
  Q (.tuple #[.int .i64 0, .int .i64 1]) w) :
N_tlog_Count.j2 Q w := Nd_fold K_tlog_Count (by kernel_rfl) h
theorem C_tlog_Count_eq (Q : Value → World → Prop) (a0 : Int) (w : World) (h :
  cond (decide (a0 < 0))
  (N_tlog_Count.j2 Q w)
  (cond (decide (a0 > 281474976710656))
  (N_tlog_Count.j2 Q w)
  (C_tlog_count #[.int .i64 a0] w fun v1 w2 =>
  opnI .i64 (some v1) fun x3 =>
  Q (.tuple #[.int .i64 x3, .int .i64 0]) w2))) :
C_tlog_Count #[.int .i64 a0] w Q := C_fold K_tlog_Count (by kernel_rfl) h
/-! ### ledger/tile.need -/
noncomputable def B_tile_need : Code := match Tryz.f40.body with | some c => c | _ => .skip
noncomputable def X_tile_need : Cx := { P := PP, fn := 40, N := 44, tab := tab, results := [], iter := fun _ => (.none, .none), dyn := fun _ => false, live := fun r => cond (Nat.beq r 0) (some [0, 1, 2, 3]) (cond (Nat.beq r 3) (some [0, 1, 2, 10, 23, 24]) (none)) }
theorem K_tile_need : OkF X_tile_need B_tile_need Tryz.f40 := ⟨⟨tab_ok, mix_ok⟩, Tryz.func40, by kernel_rfl, by kernel_rfl, by kernel_rfl, by kernel_rfl⟩
noncomputable def N_tile_need.j0 (Q : Value → World → Prop) (s0 : Option Nat) (s1 : Int) (s2 : Int) (s3 : Int) (w : World) : Prop := Nd X_tile_need Q [(0, 0, .map s0), (1, 1, .int .i64 s1), (2, 2, .int .i64 s2), (3, 3, .int .i64 s3)] [.code (B_tile_need.l.r.l.l.l.l), .code (B_tile_need.l.r.l.l.l.r), .inBlock 1, .inLoop (B_tile_need.l.r.l.l), .inBlock 0, .inScope (B_tile_need.l)] w
noncomputable def N_tile_need.j3 (Q : Value → World → Prop) (s0 : Option Nat) (s1 : Int) (s2 : Int) (s10 : Addr) (s23 : Int) (s24 : Int) (w : World) : Prop := Nd X_tile_need Q [(0, 0, .map s0), (1, 1, .int .i64 s1), (2, 2, .int .i64 s2), (10, 10, .pointer (some s10)), (23, 23, .int .i64 s23), (24, 24, .int .i64 s24)] [.code (B_tile_need.l.r.l.l.l.r.r.l.r.l.l.l), .code (B_tile_need.l.r.l.l.l.r.r.l.r.l.l.r), .inLoop (B_tile_need.l.r.l.l.l.r.r.l.r.l.l), .inBlock 2, .code (B_tile_need.l.r.l.l.l.r.r.r), .inBlock 1, .inLoop (B_tile_need.l.r.l.l), .inBlock 0, .inScope (B_tile_need.l)] w
theorem N_tile_need.j0_eq (Q : Value → World → Prop) (s0 : Option Nat) (s1 : Int) (s2 : Int) (s3 : Int) (w : World) (h :
  C_tile_seatOf #[.int .i64 s1, .int .i64 s3] w fun v1 w2 =>
  opnT (some v1) fun x3 =>
  x3.size = 2 ∧
  opnG (x3[0]?) fun x4 =>
  x4.size = 7 ∧
  opnI .i64 (x4[0]?) fun x5 =>
  opnI .i64 (x4[1]?) fun x6 =>
  opnI .i64 (x4[2]?) fun x7 =>
  opnI .i64 (x4[3]?) fun x8 =>
  opnB (x4[4]?) fun x9 =>
  opnI .i64 (x4[5]?) fun x10 =>
  opnI .i64 (x4[6]?) fun x11 =>
  opnB (x3[1]?) fun x12 =>
  alC #[.int .i64 0, .int .i64 0, .int .i64 0, .int .i64 0, .bool false, .int .i64 0, .int .i64 0] 105 w2 fun p13 w14 =>
  Array.size (#[.int .i64 x5, .int .i64 x6, .int .i64 x7, .int .i64 x8, .bool x9, .int .i64 x10, .int .i64 x11] : Array Value) = 7 ∧
  stC (p13.add 0) (.int .i64 x5) w14 fun w15 =>
  stC (p13.add 1) (.int .i64 x6) w15 fun w16 =>
  stC (p13.add 2) (.int .i64 x7) w16 fun w17 =>
  stC (p13.add 3) (.int .i64 x8) w17 fun w18 =>
  stC (p13.add 4) (.bool x9) w18 fun w19 =>
  stC (p13.add 5) (.int .i64 x10) w19 fun w20 =>
  stC (p13.add 6) (.int .i64 x11) w20 fun w21 =>
  opnI .i64 (w21.cell? ((p13.add 0).add 0)) fun x22 =>
  opnI .i64 (w21.cell? ((p13.add 0).add 1)) fun x23 =>
  opnI .i64 (w21.cell? ((p13.add 0).add 2)) fun x24 =>
  opnI .i64 (w21.cell? ((p13.add 0).add 3)) fun x25 =>
  opnB (w21.cell? ((p13.add 0).add 4)) fun x26 =>
  C_tile_wide #[.agg #[.int .i64 x22, .int .i64 x23, .int .i64 x24, .int .i64 x25, .bool x26], .int .i64 s2] w21 fun v27 w28 =>
  opnG (some v27) fun x29 =>
  x29.size = 5 ∧
  opnI .i64 (x29[0]?) fun x30 =>
  opnI .i64 (x29[1]?) fun x31 =>
  opnI .i64 (x29[2]?) fun x32 =>
  opnI .i64 (x29[3]?) fun x33 =>
  opnB (x29[4]?) fun x34 =>
  alC #[.int .i64 0, .int .i64 0, .int .i64 0, .int .i64 0, .bool false] 34 w28 fun p35 w36 =>
  Array.size (#[.int .i64 x30, .int .i64 x31, .int .i64 x32, .int .i64 x33, .bool x34] : Array Value) = 5 ∧
  stC (p35.add 0) (.int .i64 x30) w36 fun w37 =>
  stC (p35.add 1) (.int .i64 x31) w37 fun w38 =>
  stC (p35.add 2) (.int .i64 x32) w38 fun w39 =>
  stC (p35.add 3) (.int .i64 x33) w39 fun w40 =>
  stC (p35.add 4) (.bool x34) w40 fun w41 =>
  opnI .i64 (w41.cell? (p35.add 0)) fun x42 =>
  opnI .i64 (w41.cell? (p35.add 1)) fun x43 =>
  opnI .i64 (w41.cell? (p35.add 2)) fun x44 =>
  opnI .i64 (w41.cell? (p35.add 3)) fun x45 =>
  opnB (w41.cell? (p35.add 4)) fun x46 =>
  semR PP (Instr.lookup 57 (.map s0) (.agg #[.int .i64 x42, .int .i64 x43, .int .i64 x44, .int .i64 x45, .bool x46]) false) w41 fun x47 =>
  opnI .i64 (some x47) fun x48 =>
  N_tile_need.j3 Q s0 s1 s2 p35 x48 0 w41) :
N_tile_need.j0 Q s0 s1 s2 s3 w := Nd_fold K_tile_need (by kernel_rfl) h
theorem N_tile_need.j3_eq (Q : Value → World → Prop) (s0 : Option Nat) (s1 : Int) (s2 : Int) (s10 : Addr) (s23 : Int) (s24 : Int) (w : World) (h :
  cond (decide (s24 < s23))
  (Q (.tuple #[]) w)
  (opnI .i64 (w.cell? (s10.add 0)) fun x1 =>
  opnI .i64 (w.cell? (s10.add 1)) fun x2 =>
  opnI .i64 (w.cell? (s10.add 2)) fun x3 =>
  opnI .i64 (w.cell? (s10.add 3)) fun x4 =>
  opnB (w.cell? (s10.add 4)) fun x5 =>
  semU PP (Instr.mapUpdate 57 (.map s0) (.agg #[.int .i64 x1, .int .i64 x2, .int .i64 x3, .int .i64 x4, .bool x5]) (.int .i64 1)) w fun w6 =>
  drw w6 fun w7 =>
  opnI .i64 (w7.cell? (s10.add 3)) fun x8 =>
  C_tile_full #[.int .i64 s1] w7 fun v9 w10 =>
  opnI .i64 (some v9) fun x11 =>
  (opnI .i64 (w10.cell? (s10.add 3)) fun x12 =>
  ((.int .i64 x12) : Value) = .int .i64 x8) ∧
  cond (decide (x8 < x11))
  (Q (.tuple #[]) w10)
  (opnI .i64 (w10.cell? (s10.add 1)) fun x13 =>
  cond (decide ((IntKind.wrap .i64 (s1 * (IntKind.wrap .i64 (x13 + 1)))) > 48))
  (Q (.tuple #[]) w10)
  (opnI .i64 (w10.cell? (s10.add 0)) fun x14 =>
  opnI .i64 (w10.cell? (s10.add 1)) fun x15 =>
  opnI .i64 (w10.cell? (s10.add 2)) fun x16 =>
  opnI .i64 (w10.cell? (s10.add 3)) fun x17 =>
  opnB (w10.cell? (s10.add 4)) fun x18 =>
  C_tile_topOf #[.agg #[.int .i64 x14, .int .i64 x15, .int .i64 x16, .int .i64 x17, .bool x18]] w10 fun v19 w20 =>
  opnI .i64 (some v19) fun x21 =>
  N_tile_need.j0 Q s0 s1 s2 x21 w20)))) :
N_tile_need.j3 Q s0 s1 s2 s10 s23 s24 w := Nd_fold K_tile_need (by kernel_rfl) h
theorem C_tile_need_eq (Q : Value → World → Prop) (a0 : Option Nat) (a1 : Int) (a2 : Int) (a3 : Int) (w : World) (h :
  N_tile_need.j0 Q a0 a1 a2 a3 w) :
C_tile_need #[.map a0, .int .i64 a1, .int .i64 a2, .int .i64 a3] w Q := C_fold K_tile_need (by kernel_rfl) h
/-! ### ledger/tile.Plan$1 -/
noncomputable def B_tile_Plan_S1 : Code := match Tryz.f42.body with | some c => c | _ => .skip
noncomputable def X_tile_Plan_S1 : Cx := { P := PP, fn := 42, N := 17, tab := tab, results := [.tmp 4], iter := fun _ => (.none, .none), dyn := fun _ => false, live := fun _ => none }
theorem K_tile_Plan_S1 : OkF X_tile_Plan_S1 B_tile_Plan_S1 Tryz.f42 := ⟨⟨tab_ok, mix_ok⟩, Tryz.func42, by kernel_rfl, by kernel_rfl, by kernel_rfl, by kernel_rfl⟩
theorem C_tile_Plan_S1_eq (Q : Value → World → Prop) (a0_0 : Int) (a0_1 : Int) (a0_2 : Int) (a0_3 : Int) (a0_4 : Bool) (a1_0 : Int) (a1_1 : Int) (a1_2 : Int) (a1_3 : Int) (a1_4 : Bool) (w : World) (h :
  alC #[.int .i64 a0_0, .int .i64 a0_1, .int .i64 a0_2, .int .i64 a0_3, .bool a0_4] 34 w fun p1 w2 =>
  alC #[.int .i64 a1_0, .int .i64 a1_1, .int .i64 a1_2, .int .i64 a1_3, .bool a1_4] 34 w2 fun p3 w4 =>
  drw w4 fun w5 =>
  opnI .i64 (w5.cell? (p3.add 1)) fun x6 =>
  opnI .i64 (w5.cell? (p1.add 1)) fun x7 =>
  opnI .i64 (w5.cell? (p1.add 2)) fun x8 =>
  opnI .i64 (w5.cell? (p3.add 2)) fun x9 =>
  C_cmp_Compare_int #[.int .i64 x6, .int .i64 x7] w5 fun v10 w11 =>
  opnI .i64 (some v10) fun x12 =>
  (opnI .i64 (w11.cell? (p3.add 2)) fun x13 =>
  ((.int .i64 x13) : Value) = .int .i64 x9) ∧
  (opnI .i64 (w11.cell? (p1.add 2)) fun x14 =>
  ((.int .i64 x14) : Value) = .int .i64 x8) ∧
  C_cmp_Compare_int64 #[.int .i64 x8, .int .i64 x9] w11 fun v15 w16 =>
  opnI .i64 (some v15) fun x17 =>
  alC #[.int .i64 x12, .int .i64 x17] 3 w16 fun p18 w19 =>
  C_cmp_Or_int #[.slice (some p18) 2 2] w19 fun v20 w21 =>
  opnI .i64 (some v20) fun x22 =>
  Q (.int .i64 x22) w21) :
C_tile_Plan_S1 #[.agg #[.int .i64 a0_0, .int .i64 a0_1, .int .i64 a0_2, .int .i64 a0_3, .bool a0_4], .agg #[.int .i64 a1_0, .int .i64 a1_1, .int .i64 a1_2, .int .i64 a1_3, .bool a1_4]] w Q := C_fold K_tile_Plan_S1 (by kernel_rfl) h
/-! ### cmp.Or[int] -/
noncomputable def B_cmp_Or_int : Code := match Tryz.f43.body with | some c => c | _ => .skip
noncomputable def X_cmp_Or_int : Cx := { P := PP, fn := 43, N := 18, tab := tab, results := [.tmp 2], iter := fun _ => (.none, .none), dyn := fun _ => false, live := fun r => cond (Nat.beq r 3) (some [3, 6, 7, 8]) (none) }
theorem K_cmp_Or_int : OkF X_cmp_Or_int B_cmp_Or_int Tryz.f43 := ⟨⟨tab_ok, mix_ok⟩, Tryz.func43, by kernel_rfl, by kernel_rfl, by kernel_rfl, by kernel_rfl⟩
noncomputable def N_cmp_Or_int.j3 (Q : Value → World → Prop) (s3 : Int) (s6 : Option Addr) (s6n : Nat) (s6c : Nat) (s7 : Int) (s8 : Int) (w : World) : Prop := Nd X_cmp_Or_int Q [(3, 3, .int .i64 s3), (6, 6, .slice s6 s6n s6c), (7, 7, .int .i64 s7), (8, 8, .int .i64 s8)] [.code (B_cmp_Or_int.r.r.l.r.l.l.l), .code (B_cmp_Or_int.r.r.l.r.l.l.r), .inLoop (B_cmp_Or_int.r.r.l.r.l.l), .inBlock 0, .code (B_cmp_Or_int.r.r.r)] w
theorem N_cmp_Or_int.j3_eq (Q : Value → World → Prop) (s3 : Int) (s6 : Option Addr) (s6n : Nat) (s6c : Nat) (s7 : Int) (s8 : Int) (w : World) (h :
  cond (decide (s8 < s7))
  ((0 : Int) ≤ s8 ∧
  s8 < ((s6n : Nat) : Int) ∧
  opnA s6 fun ad1 =>
  opnI .i64 (w.cell? (ad1.add (Int.toNat s8 * 1))) fun x2 =>
  cond (x2 != s3)
  (Q (.int .i64 x2) w)
  (N_cmp_Or_int.j3 Q s3 s6 s6n s6c s7 (IntKind.wrap .i64 (s8 + 1)) w))
  (Q (.int .i64 s3) w)) :
N_cmp_Or_int.j3 Q s3 s6 s6n s6c s7 s8 w := Nd_fold K_cmp_Or_int (by kernel_rfl) h
theorem C_cmp_Or_int_eq (Q : Value → World → Prop) (a0 : Option Addr) (a0n : Nat) (a0c : Nat) (w : World) (h :
  N_cmp_Or_int.j3 Q 0 a0 a0n a0c ((a0n : Nat) : Int) 0 w) :
C_cmp_Or_int #[.slice a0 a0n a0c] w Q := C_fold K_cmp_Or_int (by kernel_rfl) h
/-! ### cmp.Compare[int] -/
noncomputable def B_cmp_Compare_int : Code := match Tryz.f44.body with | some c => c | _ => .skip
noncomputable def X_cmp_Compare_int : Cx := { P := PP, fn := 44, N := 20, tab := tab, results := [.tmp 4], iter := fun _ => (.none, .none), dyn := fun _ => false, live := fun _ => none }
theorem K_cmp_Compare_int : OkF X_cmp_Compare_int B_cmp_Compare_int Tryz.f44 := ⟨⟨tab_ok, mix_ok⟩, Tryz.func44, by kernel_rfl, by kernel_rfl, by kernel_rfl, by kernel_rfl⟩
theorem C_cmp_Compare_int_eq (Q : Value → World → Prop) (a0 : Int) (a1 : Int) (w : World) (h :
  C_cmp_isNaN_int #[.int .i64 a0] w fun v1 w2 =>
  opnB (some v1) fun x3 =>
  C_cmp_isNaN_int #[.int .i64 a1] w2 fun v4 w5 =>
  opnB (some v4) fun x6 =>
  cond x3
  (cond x6
  (Q (.int .i64 0) w5)
  (Q (.int .i64 (-1)) w5))
  (cond x6
  (Q (.int .i64 1) w5)
  (cond (decide (a0 < a1))
  (Q (.int .i64 (-1)) w5)
  (cond (decide (a0 > a1))
  (Q (.int .i64 1) w5)
  (Q (.int .i64 0) w5))))) :
C_cmp_Compare_int #[.int .i64 a0, .int .i64 a1] w Q := C_fold K_cmp_Compare_int (by kernel_rfl) h
/-! ### cmp.Compare[int64] -/
noncomputable def B_cmp_Compare_int64 : Code := match Tryz.f45.body with | some c => c | _ => .skip
noncomputable def X_cmp_Compare_int64 : Cx := { P := PP, fn := 45, N := 20, tab := tab, results := [.tmp 4], iter := fun _ => (.none, .none), dyn := fun _ => false, live := fun _ => none }
theorem K_cmp_Compare_int64 : OkF X_cmp_Compare_int64 B_cmp_Compare_int64 Tryz.f45 := ⟨⟨tab_ok, mix_ok⟩, Tryz.func45, by kernel_rfl, by kernel_rfl, by kernel_rfl, by kernel_rfl⟩
theorem C_cmp_Compare_int64_eq (Q : Value → World → Prop) (a0 : Int) (a1 : Int) (w : World) (h :
  C_cmp_isNaN_int64 #[.int .i64 a0] w fun v1 w2 =>
  opnB (some v1) fun x3 =>
  C_cmp_isNaN_int64 #[.int .i64 a1] w2 fun v4 w5 =>
  opnB (some v4) fun x6 =>
  cond x3
  (cond x6
  (Q (.int .i64 0) w5)
  (Q (.int .i64 (-1)) w5))
  (cond x6
  (Q (.int .i64 1) w5)
  (cond (decide (a0 < a1))
  (Q (.int .i64 (-1)) w5)
  (cond (decide (a0 > a1))
  (Q (.int .i64 1) w5)
  (Q (.int .i64 0) w5))))) :
C_cmp_Compare_int64 #[.int .i64 a0, .int .i64 a1] w Q := C_fold K_cmp_Compare_int64 (by kernel_rfl) h
end Go.Proofs.YtccjncflbbhldaaGreatDoor
