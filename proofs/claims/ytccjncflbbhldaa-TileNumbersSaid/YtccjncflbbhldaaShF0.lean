/- Functions' equations (printed by wip/gen/drive.py). -/
import Derived.Test.YtccjncflbbhldaaShT
set_option maxRecDepth 100000
namespace Go.Proofs.Ytccjncflbbhldaa
open Go.Sh
/-! ### gosem.cut.init -/
noncomputable def B_gosem_cut_init : Code := match Try.f2.body with | some c => c | _ => .skip
noncomputable def X_gosem_cut_init : Cx := { P := PP, fn := 2, N := 1, tab := tab, results := [], iter := fun _ => (.none, .none), dyn := fun _ => false, live := fun _ => none }
theorem K_gosem_cut_init : OkF X_gosem_cut_init B_gosem_cut_init Try.f2 := ⟨⟨tab_ok, mix_ok⟩, Try.func2, by kernel_rfl, by kernel_rfl, by kernel_rfl, by kernel_rfl⟩
theorem C_gosem_cut_init_eq (Q : Value → World → Prop) (w : World) (h :
  C_gosem_cut #[] w fun v1 w2 =>
  opnT (some v1) fun x3 =>
  x3.size = 0 ∧
  Q (.tuple #[]) w2) :
C_gosem_cut_init #[] w Q := C_fold K_gosem_cut_init (by kernel_rfl) h
/-! ### ledger/ledgerlaw10.TileRecords -/
noncomputable def B_l10_TileRecords : Code := match Try.f3.body with | some c => c | _ => .skip
noncomputable def X_l10_TileRecords : Cx := { P := PP, fn := 3, N := 217, tab := tab, results := [.tmp 6], iter := fun _ => (.none, .none), dyn := fun _ => false, live := fun r => cond (Nat.beq r 4) (some [0, 1, 2, 7, 8, 9]) (cond (Nat.beq r 12) (some []) (cond (Nat.beq r 16) (some []) (cond (Nat.beq r 22) (some []) (cond (Nat.beq r 26) (some [1, 2, 16, 17, 18, 19, 20, 21, 22]) (cond (Nat.beq r 29) (some [1, 2, 16, 17, 18, 19, 20, 21, 22, 23]) (cond (Nat.beq r 33) (some [1, 2, 16, 17, 18, 19, 20, 21, 24]) (cond (Nat.beq r 37) (some [1, 2, 16, 17, 19, 20, 21, 25]) (cond (Nat.beq r 42) (some []) (cond (Nat.beq r 44) (some [20, 21, 26]) (cond (Nat.beq r 47) (some []) (none))))))))))) }
theorem K_l10_TileRecords : OkF X_l10_TileRecords B_l10_TileRecords Try.f3 := ⟨⟨tab_ok, mix_ok⟩, Try.func3, by kernel_rfl, by kernel_rfl, by kernel_rfl, by kernel_rfl⟩
noncomputable def N_l10_TileRecords.j4 (Q : Value → World → Prop) (s0 : Option Addr) (s0n : Nat) (s0c : Nat) (s1 : Option Addr) (s1n : Nat) (s1c : Nat) (s2 : Int) (s7 : Option Addr) (s7n : Nat) (s7c : Nat) (s8 : Option Addr) (s8n : Nat) (s8c : Nat) (s9 : Int) (w : World) : Prop := Nd X_l10_TileRecords Q [(0, 0, .slice s0 s0n s0c), (1, 1, .slice s1 s1n s1c), (2, 2, .int .i64 s2), (7, 7, .slice s7 s7n s7c), (8, 8, .slice s8 s8n s8c), (9, 9, .int .i64 s9)] [.code (B_l10_TileRecords.r.r.r.l.r.l.l.l.l), .code (B_l10_TileRecords.r.r.r.l.r.l.l.l.r), .code (B_l10_TileRecords.r.r.r.l.r.l.l.r), .inLoop (B_l10_TileRecords.r.r.r.l.r.l.l), .inBlock 0, .code (B_l10_TileRecords.r.r.r.r)] w
noncomputable def N_l10_TileRecords.j12 (Q : Value → World → Prop) (w : World) : Prop := Nd X_l10_TileRecords Q [] [.code (B_l10_TileRecords.r.r.r.r.r.r.l.r.l.l), .code (B_l10_TileRecords.r.r.r.r.r.r.l.r.l.r), .code (B_l10_TileRecords.r.r.r.r.r.r.r)] w
noncomputable def N_l10_TileRecords.j16 (Q : Value → World → Prop) (w : World) : Prop := Nd X_l10_TileRecords Q [] [.code (B_l10_TileRecords.r.r.r.r.r.r.r.r.r.l.r.l.l), .code (B_l10_TileRecords.r.r.r.r.r.r.r.r.r.l.r.l.r), .code (B_l10_TileRecords.r.r.r.r.r.r.r.r.r.r)] w
noncomputable def N_l10_TileRecords.j22 (Q : Value → World → Prop) (w : World) : Prop := Nd X_l10_TileRecords Q [] [.code (B_l10_TileRecords.r.r.r.r.r.r.r.r.r.r.r.r.r.r.l.r.l.l), .code (B_l10_TileRecords.r.r.r.r.r.r.r.r.r.r.r.r.r.r.l.r.l.r), .code (B_l10_TileRecords.r.r.r.r.r.r.r.r.r.r.r.r.r.r.r)] w
noncomputable def N_l10_TileRecords.j26 (Q : Value → World → Prop) (s1 : Option Addr) (s1n : Nat) (s1c : Nat) (s2 : Int) (s16 : Option Addr) (s16n : Nat) (s16c : Nat) (s17 : Option Addr) (s17n : Nat) (s17c : Nat) (s18 : Option Addr) (s18n : Nat) (s18c : Nat) (s19 : Option Addr) (s19n : Nat) (s19c : Nat) (s20 : Option Addr) (s20n : Nat) (s20c : Nat) (s21 : Option Addr) (s21n : Nat) (s21c : Nat) (s22 : Int) (w : World) : Prop := Nd X_l10_TileRecords Q [(1, 1, .slice s1 s1n s1c), (2, 2, .int .i64 s2), (16, 16, .slice s16 s16n s16c), (17, 17, .slice s17 s17n s17c), (18, 18, .slice s18 s18n s18c), (19, 19, .slice s19 s19n s19c), (20, 20, .slice s20 s20n s20c), (21, 21, .slice s21 s21n s21c), (22, 22, .int .i64 s22)] [.code (B_l10_TileRecords.r.r.r.r.r.r.r.r.r.r.r.r.r.r.r.r.r.l.r.l.l.l.l), .code (B_l10_TileRecords.r.r.r.r.r.r.r.r.r.r.r.r.r.r.r.r.r.l.r.l.l.l.r), .code (B_l10_TileRecords.r.r.r.r.r.r.r.r.r.r.r.r.r.r.r.r.r.l.r.l.l.r), .inLoop (B_l10_TileRecords.r.r.r.r.r.r.r.r.r.r.r.r.r.r.r.r.r.l.r.l.l), .inBlock 2, .code (B_l10_TileRecords.r.r.r.r.r.r.r.r.r.r.r.r.r.r.r.r.r.r)] w
noncomputable def N_l10_TileRecords.j29 (Q : Value → World → Prop) (s1 : Option Addr) (s1n : Nat) (s1c : Nat) (s2 : Int) (s16 : Option Addr) (s16n : Nat) (s16c : Nat) (s17 : Option Addr) (s17n : Nat) (s17c : Nat) (s18 : Option Addr) (s18n : Nat) (s18c : Nat) (s19 : Option Addr) (s19n : Nat) (s19c : Nat) (s20 : Option Addr) (s20n : Nat) (s20c : Nat) (s21 : Option Addr) (s21n : Nat) (s21c : Nat) (s22 : Int) (s23 : Int) (w : World) : Prop := Nd X_l10_TileRecords Q [(1, 1, .slice s1 s1n s1c), (2, 2, .int .i64 s2), (16, 16, .slice s16 s16n s16c), (17, 17, .slice s17 s17n s17c), (18, 18, .slice s18 s18n s18c), (19, 19, .slice s19 s19n s19c), (20, 20, .slice s20 s20n s20c), (21, 21, .slice s21 s21n s21c), (22, 22, .int .i64 s22), (23, 23, .int .i64 s23)] [.code (B_l10_TileRecords.r.r.r.r.r.r.r.r.r.r.r.r.r.r.r.r.r.l.r.l.l.r.l.l.r.l.l.l.l), .code (B_l10_TileRecords.r.r.r.r.r.r.r.r.r.r.r.r.r.r.r.r.r.l.r.l.l.r.l.l.r.l.l.l.r), .code (B_l10_TileRecords.r.r.r.r.r.r.r.r.r.r.r.r.r.r.r.r.r.l.r.l.l.r.l.l.r.l.l.r), .inLoop (B_l10_TileRecords.r.r.r.r.r.r.r.r.r.r.r.r.r.r.r.r.r.l.r.l.l.r.l.l.r.l.l), .inBlock 4, .inBlock 3, .code (B_l10_TileRecords.r.r.r.r.r.r.r.r.r.r.r.r.r.r.r.r.r.l.r.l.l.r.r), .inLoop (B_l10_TileRecords.r.r.r.r.r.r.r.r.r.r.r.r.r.r.r.r.r.l.r.l.l), .inBlock 2, .code (B_l10_TileRecords.r.r.r.r.r.r.r.r.r.r.r.r.r.r.r.r.r.r)] w
noncomputable def N_l10_TileRecords.j33 (Q : Value → World → Prop) (s1 : Option Addr) (s1n : Nat) (s1c : Nat) (s2 : Int) (s16 : Option Addr) (s16n : Nat) (s16c : Nat) (s17 : Option Addr) (s17n : Nat) (s17c : Nat) (s18 : Option Addr) (s18n : Nat) (s18c : Nat) (s19 : Option Addr) (s19n : Nat) (s19c : Nat) (s20 : Option Addr) (s20n : Nat) (s20c : Nat) (s21 : Option Addr) (s21n : Nat) (s21c : Nat) (s24 : Int) (w : World) : Prop := Nd X_l10_TileRecords Q [(1, 1, .slice s1 s1n s1c), (2, 2, .int .i64 s2), (16, 16, .slice s16 s16n s16c), (17, 17, .slice s17 s17n s17c), (18, 18, .slice s18 s18n s18c), (19, 19, .slice s19 s19n s19c), (20, 20, .slice s20 s20n s20c), (21, 21, .slice s21 s21n s21c), (24, 24, .int .i64 s24)] [.code (B_l10_TileRecords.r.r.r.r.r.r.r.r.r.r.r.r.r.r.r.r.r.r.l.r.l.l.l.l), .code (B_l10_TileRecords.r.r.r.r.r.r.r.r.r.r.r.r.r.r.r.r.r.r.l.r.l.l.l.r), .code (B_l10_TileRecords.r.r.r.r.r.r.r.r.r.r.r.r.r.r.r.r.r.r.l.r.l.l.r), .inLoop (B_l10_TileRecords.r.r.r.r.r.r.r.r.r.r.r.r.r.r.r.r.r.r.l.r.l.l), .inBlock 6, .code (B_l10_TileRecords.r.r.r.r.r.r.r.r.r.r.r.r.r.r.r.r.r.r.r)] w
noncomputable def N_l10_TileRecords.j37 (Q : Value → World → Prop) (s1 : Option Addr) (s1n : Nat) (s1c : Nat) (s2 : Int) (s16 : Option Addr) (s16n : Nat) (s16c : Nat) (s17 : Option Addr) (s17n : Nat) (s17c : Nat) (s19 : Option Addr) (s19n : Nat) (s19c : Nat) (s20 : Option Addr) (s20n : Nat) (s20c : Nat) (s21 : Option Addr) (s21n : Nat) (s21c : Nat) (s25 : Int) (w : World) : Prop := Nd X_l10_TileRecords Q [(1, 1, .slice s1 s1n s1c), (2, 2, .int .i64 s2), (16, 16, .slice s16 s16n s16c), (17, 17, .slice s17 s17n s17c), (19, 19, .slice s19 s19n s19c), (20, 20, .slice s20 s20n s20c), (21, 21, .slice s21 s21n s21c), (25, 25, .int .i64 s25)] [.code (B_l10_TileRecords.r.r.r.r.r.r.r.r.r.r.r.r.r.r.r.r.r.r.r.l.r.l.l.l.l), .code (B_l10_TileRecords.r.r.r.r.r.r.r.r.r.r.r.r.r.r.r.r.r.r.r.l.r.l.l.l.r), .code (B_l10_TileRecords.r.r.r.r.r.r.r.r.r.r.r.r.r.r.r.r.r.r.r.l.r.l.l.r), .inLoop (B_l10_TileRecords.r.r.r.r.r.r.r.r.r.r.r.r.r.r.r.r.r.r.r.l.r.l.l), .inBlock 8, .code (B_l10_TileRecords.r.r.r.r.r.r.r.r.r.r.r.r.r.r.r.r.r.r.r.r)] w
noncomputable def N_l10_TileRecords.j42 (Q : Value → World → Prop) (w : World) : Prop := Nd X_l10_TileRecords Q [] [.code (B_l10_TileRecords.r.r.r.r.r.r.r.r.r.r.r.r.r.r.r.r.r.r.r.r.r.l.r.l.l), .code (B_l10_TileRecords.r.r.r.r.r.r.r.r.r.r.r.r.r.r.r.r.r.r.r.r.r.l.r.l.r), .code (B_l10_TileRecords.r.r.r.r.r.r.r.r.r.r.r.r.r.r.r.r.r.r.r.r.r.r)] w
noncomputable def N_l10_TileRecords.j44 (Q : Value → World → Prop) (s20 : Option Addr) (s20n : Nat) (s20c : Nat) (s21 : Option Addr) (s21n : Nat) (s21c : Nat) (s26 : Int) (w : World) : Prop := Nd X_l10_TileRecords Q [(20, 20, .slice s20 s20n s20c), (21, 21, .slice s21 s21n s21c), (26, 26, .int .i64 s26)] [.code (B_l10_TileRecords.r.r.r.r.r.r.r.r.r.r.r.r.r.r.r.r.r.r.r.r.r.r.l.r.l.l.l.l), .code (B_l10_TileRecords.r.r.r.r.r.r.r.r.r.r.r.r.r.r.r.r.r.r.r.r.r.r.l.r.l.l.l.r), .code (B_l10_TileRecords.r.r.r.r.r.r.r.r.r.r.r.r.r.r.r.r.r.r.r.r.r.r.l.r.l.l.r), .inLoop (B_l10_TileRecords.r.r.r.r.r.r.r.r.r.r.r.r.r.r.r.r.r.r.r.r.r.r.l.r.l.l), .inBlock 10, .code (B_l10_TileRecords.r.r.r.r.r.r.r.r.r.r.r.r.r.r.r.r.r.r.r.r.r.r.r)] w
noncomputable def N_l10_TileRecords.j47 (Q : Value → World → Prop) (w : World) : Prop := Nd X_l10_TileRecords Q [] [.code (B_l10_TileRecords.r.r.r.r.r.r.r.r.r.r.r.r.r.r.r.r.r.r.r.r.r.r.l.r.l.l.r.l.l.r.l.l), .code (B_l10_TileRecords.r.r.r.r.r.r.r.r.r.r.r.r.r.r.r.r.r.r.r.r.r.r.l.r.l.l.r.l.l.r.l.r), .inBlock 11, .code (B_l10_TileRecords.r.r.r.r.r.r.r.r.r.r.r.r.r.r.r.r.r.r.r.r.r.r.l.r.l.l.r.r), .inLoop (B_l10_TileRecords.r.r.r.r.r.r.r.r.r.r.r.r.r.r.r.r.r.r.r.r.r.r.l.r.l.l), .inBlock 10, .code (B_l10_TileRecords.r.r.r.r.r.r.r.r.r.r.r.r.r.r.r.r.r.r.r.r.r.r.r)] w
theorem N_l10_TileRecords.j4_eq (Q : Value → World → Prop) (s0 : Option Addr) (s0n : Nat) (s0c : Nat) (s1 : Option Addr) (s1n : Nat) (s1c : Nat) (s2 : Int) (s7 : Option Addr) (s7n : Nat) (s7c : Nat) (s8 : Option Addr) (s8n : Nat) (s8c : Nat) (s9 : Int) (w : World) (h :
  cond (decide (s9 < ((s0n : Nat) : Int)))
  ((0 : Int) ≤ s9 ∧
  s9 < ((s0n : Nat) : Int) ∧
  opnA s0 fun ad1 =>
  opnL (w.cell? (ad1.add (Int.toNat s9 * 1))) fun x2 x2n x2c =>
  C_l10_lent #[.slice x2 x2n x2c] w fun v3 w4 =>
  opnL (some v3) fun x5 x5n x5c =>
  alC #[.slice x5 x5n x5c] 23 w4 fun p6 w7 =>
  sem PP (Builtin.append_ #[22, 22] 22 #[.slice s8 s8n s8c, .slice (some p6) 1 1]) w7 fun v8 w9 =>
  opnL (some v8) fun x10 x10n x10c =>
  (0 : Int) ≤ s9 ∧
  s9 < ((s0n : Nat) : Int) ∧
  opnA s0 fun ad11 =>
  opnL (w9.cell? (ad11.add (Int.toNat s9 * 1))) fun x12 x12n x12c =>
  (0 : Int) ≤ ((x12n : Nat) : Int) ∧
  ((x12n : Nat) : Int) ≤ ((x5c : Nat) : Int) ∧
  alC #[.slice (slA x5 0 x5c 1) ((Int.toNat ((x12n : Nat) : Int)) - 0) (x5c - 0)] 23 w9 fun p13 w14 =>
  sem PP (Builtin.append_ #[22, 22] 22 #[.slice s7 s7n s7c, .slice (some p13) 1 1]) w14 fun v15 w16 =>
  opnL (some v15) fun x17 x17n x17c =>
  N_l10_TileRecords.j4 Q s0 s0n s0c s1 s1n s1c s2 x17 x17n x17c x10 x10n x10c (IntKind.wrap .i64 (s9 + 1)) w16)
  (C_tile_Join #[.slice s7 s7n s7c] w fun v18 w19 =>
  opnT (some v18) fun x20 =>
  x20.size = 2 ∧
  opnL (x20[0]?) fun x21 x21n x21c =>
  opnI .i64 (x20[1]?) fun x22 =>
  C_r10_Join #[.slice s0 s0n s0c] w19 fun v23 w24 =>
  opnT (some v23) fun x25 =>
  x25.size = 2 ∧
  opnL (x25[0]?) fun x26 x26n x26c =>
  opnI .i64 (x25[1]?) fun x27 =>
  semR PP (convert 23 9 (.slice x21 x21n x21c)) w24 fun x28 =>
  opnS (some x28) fun x29 =>
  semR PP (convert 23 9 (.slice x26 x26n x26c)) w24 fun x30 =>
  opnS (some x30) fun x31 =>
  cond (!(x29.toList == x31.toList))
  (N_l10_TileRecords.j12 Q w24)
  (C_l10_num #[.int .i64 x22] w24 fun v32 w33 =>
  opnI .i64 (some v32) fun x34 =>
  cond (x34 != x27)
  (N_l10_TileRecords.j12 Q w33)
  (C_l10_owned #[.slice x21 x21n x21c, .int .u8 9] w33 fun v35 w36 =>
  opnL (some v35) fun x37 x37n x37c =>
  C_tile_Join #[.slice s7 s7n s7c] w36 fun v38 w39 =>
  opnT (some v38) fun x40 =>
  x40.size = 2 ∧
  opnL (x40[0]?) fun x41 x41n x41c =>
  opnI .i64 (x40[1]?) fun x42 =>
  semR PP (convert 23 9 (.slice x41 x41n x41c)) w39 fun x43 =>
  opnS (some x43) fun x44 =>
  semR PP (convert 23 9 (.slice x26 x26n x26c)) w39 fun x45 =>
  opnS (some x45) fun x46 =>
  cond (!(x44.toList == x46.toList))
  (N_l10_TileRecords.j16 Q w39)
  (C_l10_marked #[.slice x37 x37n x37c, .int .u8 9] w39 fun v47 w48 =>
  opnB (some v47) fun x49 =>
  cond (!x49)
  (N_l10_TileRecords.j16 Q w48)
  (C_l10_untouched #[.slice s8 s8n s8c, .slice s0 s0n s0c] w48 fun v50 w51 =>
  opnB (some v50) fun x52 =>
  cond (!x52)
  (N_l10_TileRecords.j16 Q w51)
  (C_l10_lent #[.slice s1 s1n s1c] w51 fun v53 w54 =>
  opnL (some v53) fun x55 x55n x55c =>
  (0 : Int) ≤ ((s1n : Nat) : Int) ∧
  ((s1n : Nat) : Int) ≤ ((x55c : Nat) : Int) ∧
  C_tile_Cut #[.slice (slA x55 0 x55c 1) ((Int.toNat ((s1n : Nat) : Int)) - 0) (x55c - 0), .int .i64 s2] w54 fun v56 w57 =>
  opnT (some v56) fun x58 =>
  x58.size = 2 ∧
  opnL (x58[0]?) fun x59 x59n x59c =>
  opnI .i64 (x58[1]?) fun x60 =>
  C_r10_Cut #[.slice s1 s1n s1c, .int .i64 s2] w57 fun v61 w62 =>
  opnT (some v61) fun x63 =>
  x63.size = 2 ∧
  opnL (x63[0]?) fun x64 x64n x64c =>
  opnI .i64 (x63[1]?) fun x65 =>
  C_l10_lists #[.slice x59 x59n x59c, .slice x64 x64n x64c] w62 fun v66 w67 =>
  opnB (some v66) fun x68 =>
  cond (!x68)
  (N_l10_TileRecords.j22 Q w67)
  (C_l10_num #[.int .i64 x60] w67 fun v69 w70 =>
  opnI .i64 (some v69) fun x71 =>
  cond (x71 != x65)
  (N_l10_TileRecords.j22 Q w70)
  (C_l10_whole #[.slice x55 x55n x55c, .slice s1 s1n s1c] w70 fun v72 w73 =>
  opnB (some v72) fun x74 =>
  cond (!x74)
  (N_l10_TileRecords.j22 Q w73)
  (N_l10_TileRecords.j26 Q s1 s1n s1c s2 x55 x55n x55c (slA x55 0 x55c 1) ((Int.toNat ((s1n : Nat) : Int)) - 0) (x55c - 0) x59 x59n x59c x64 x64n x64c x59 x59n x59c none 0 0 0 w73)))))))))) :
N_l10_TileRecords.j4 Q s0 s0n s0c s1 s1n s1c s2 s7 s7n s7c s8 s8n s8c s9 w := Nd_fold K_l10_TileRecords (by kernel_rfl) h
theorem N_l10_TileRecords.j12_eq (Q : Value → World → Prop) (w : World) (h :
  Q (.bool false) w) :
N_l10_TileRecords.j12 Q w := Nd_fold K_l10_TileRecords (by kernel_rfl) h
theorem N_l10_TileRecords.j16_eq (Q : Value → World → Prop) (w : World) (h :
  Q (.bool false) w) :
N_l10_TileRecords.j16 Q w := Nd_fold K_l10_TileRecords (by kernel_rfl) h
theorem N_l10_TileRecords.j22_eq (Q : Value → World → Prop) (w : World) (h :
  Q (.bool false) w) :
N_l10_TileRecords.j22 Q w := Nd_fold K_l10_TileRecords (by kernel_rfl) h
theorem N_l10_TileRecords.j26_eq (Q : Value → World → Prop) (s1 : Option Addr) (s1n : Nat) (s1c : Nat) (s2 : Int) (s16 : Option Addr) (s16n : Nat) (s16c : Nat) (s17 : Option Addr) (s17n : Nat) (s17c : Nat) (s18 : Option Addr) (s18n : Nat) (s18c : Nat) (s19 : Option Addr) (s19n : Nat) (s19c : Nat) (s20 : Option Addr) (s20n : Nat) (s20c : Nat) (s21 : Option Addr) (s21n : Nat) (s21c : Nat) (s22 : Int) (w : World) (h :
  cond (decide (s22 < ((s18n : Nat) : Int)))
  (N_l10_TileRecords.j29 Q s1 s1n s1c s2 s16 s16n s16c s17 s17n s17c s18 s18n s18c s19 s19n s19c s20 s20n s20c s21 s21n s21c s22 0 w)
  (N_l10_TileRecords.j33 Q s1 s1n s1c s2 s16 s16n s16c s17 s17n s17c s18 s18n s18c s19 s19n s19c s20 s20n s20c s21 s21n s21c 0 w)) :
N_l10_TileRecords.j26 Q s1 s1n s1c s2 s16 s16n s16c s17 s17n s17c s18 s18n s18c s19 s19n s19c s20 s20n s20c s21 s21n s21c s22 w := Nd_fold K_l10_TileRecords (by kernel_rfl) h
theorem N_l10_TileRecords.j29_eq (Q : Value → World → Prop) (s1 : Option Addr) (s1n : Nat) (s1c : Nat) (s2 : Int) (s16 : Option Addr) (s16n : Nat) (s16c : Nat) (s17 : Option Addr) (s17n : Nat) (s17c : Nat) (s18 : Option Addr) (s18n : Nat) (s18c : Nat) (s19 : Option Addr) (s19n : Nat) (s19c : Nat) (s20 : Option Addr) (s20n : Nat) (s20c : Nat) (s21 : Option Addr) (s21n : Nat) (s21c : Nat) (s22 : Int) (s23 : Int) (w : World) (h :
  (0 : Int) ≤ s22 ∧
  s22 < ((s18n : Nat) : Int) ∧
  opnA s18 fun ad1 =>
  opnL (w.cell? (ad1.add (Int.toNat s22 * 1))) fun x2 x2n x2c =>
  cond (decide (s23 < ((x2n : Nat) : Int)))
  ((0 : Int) ≤ s22 ∧
  s22 < ((s18n : Nat) : Int) ∧
  opnA s18 fun ad3 =>
  opnL (w.cell? (ad3.add (Int.toNat s22 * 1))) fun x4 x4n x4c =>
  (0 : Int) ≤ s23 ∧
  s23 < ((x4n : Nat) : Int) ∧
  opnA x4 fun ad5 =>
  stC (ad5.add (Int.toNat s23 * 1)) (.int .u8 (IntKind.wrap .u8 s22)) w fun w6 =>
  N_l10_TileRecords.j29 Q s1 s1n s1c s2 s16 s16n s16c s17 s17n s17c s18 s18n s18c s19 s19n s19c s20 s20n s20c s21 s21n s21c s22 (IntKind.wrap .i64 (s23 + 1)) w6)
  (N_l10_TileRecords.j26 Q s1 s1n s1c s2 s16 s16n s16c s17 s17n s17c s18 s18n s18c s19 s19n s19c s20 s20n s20c s21 s21n s21c (IntKind.wrap .i64 (s22 + 1)) w)) :
N_l10_TileRecords.j29 Q s1 s1n s1c s2 s16 s16n s16c s17 s17n s17c s18 s18n s18c s19 s19n s19c s20 s20n s20c s21 s21n s21c s22 s23 w := Nd_fold K_l10_TileRecords (by kernel_rfl) h
theorem N_l10_TileRecords.j33_eq (Q : Value → World → Prop) (s1 : Option Addr) (s1n : Nat) (s1c : Nat) (s2 : Int) (s16 : Option Addr) (s16n : Nat) (s16c : Nat) (s17 : Option Addr) (s17n : Nat) (s17c : Nat) (s18 : Option Addr) (s18n : Nat) (s18c : Nat) (s19 : Option Addr) (s19n : Nat) (s19c : Nat) (s20 : Option Addr) (s20n : Nat) (s20c : Nat) (s21 : Option Addr) (s21n : Nat) (s21c : Nat) (s24 : Int) (w : World) (h :
  cond (decide (s24 < ((s18n : Nat) : Int)))
  ((0 : Int) ≤ s24 ∧
  s24 < ((s18n : Nat) : Int) ∧
  opnA s18 fun ad1 =>
  opnL (w.cell? (ad1.add (Int.toNat s24 * 1))) fun x2 x2n x2c =>
  C_l10_owned #[.slice x2 x2n x2c, .int .u8 (IntKind.wrap .u8 s24)] w fun v3 w4 =>
  opnL (some v3) fun x5 x5n x5c =>
  alC #[.slice x5 x5n x5c] 22 w4 fun p6 w7 =>
  sem PP (Builtin.append_ #[39, 39] 39 #[.slice s21 s21n s21c, .slice (some p6) 1 1]) w7 fun v8 w9 =>
  opnL (some v8) fun x10 x10n x10c =>
  N_l10_TileRecords.j33 Q s1 s1n s1c s2 s16 s16n s16c s17 s17n s17c s18 s18n s18c s19 s19n s19c s20 s20n s20c x10 x10n x10c (IntKind.wrap .i64 (s24 + 1)) w9)
  (N_l10_TileRecords.j37 Q s1 s1n s1c s2 s16 s16n s16c s17 s17n s17c s19 s19n s19c s20 s20n s20c s21 s21n s21c 0 w)) :
N_l10_TileRecords.j33 Q s1 s1n s1c s2 s16 s16n s16c s17 s17n s17c s18 s18n s18c s19 s19n s19c s20 s20n s20c s21 s21n s21c s24 w := Nd_fold K_l10_TileRecords (by kernel_rfl) h
theorem N_l10_TileRecords.j37_eq (Q : Value → World → Prop) (s1 : Option Addr) (s1n : Nat) (s1c : Nat) (s2 : Int) (s16 : Option Addr) (s16n : Nat) (s16c : Nat) (s17 : Option Addr) (s17n : Nat) (s17c : Nat) (s19 : Option Addr) (s19n : Nat) (s19c : Nat) (s20 : Option Addr) (s20n : Nat) (s20c : Nat) (s21 : Option Addr) (s21n : Nat) (s21c : Nat) (s25 : Int) (w : World) (h :
  cond (decide (s25 < ((s20n : Nat) : Int)))
  ((0 : Int) ≤ s25 ∧
  s25 < ((s20n : Nat) : Int) ∧
  opnA s20 fun ad1 =>
  stC (ad1.add (Int.toNat s25 * 1)) (.slice none 0 0) w fun w2 =>
  N_l10_TileRecords.j37 Q s1 s1n s1c s2 s16 s16n s16c s17 s17n s17c s19 s19n s19c s20 s20n s20c s21 s21n s21c (IntKind.wrap .i64 (s25 + 1)) w2)
  (C_tile_Cut #[.slice s17 s17n s17c, .int .i64 s2] w fun v3 w4 =>
  opnT (some v3) fun x5 =>
  x5.size = 2 ∧
  opnL (x5[0]?) fun x6 x6n x6c =>
  opnI .i64 (x5[1]?) fun x7 =>
  C_l10_lists #[.slice x6 x6n x6c, .slice s19 s19n s19c] w4 fun v8 w9 =>
  opnB (some v8) fun x10 =>
  cond (!x10)
  (N_l10_TileRecords.j42 Q w9)
  (C_l10_whole #[.slice s16 s16n s16c, .slice s1 s1n s1c] w9 fun v11 w12 =>
  opnB (some v11) fun x13 =>
  cond (!x13)
  (N_l10_TileRecords.j42 Q w12)
  (N_l10_TileRecords.j44 Q s20 s20n s20c s21 s21n s21c 0 w12)))) :
N_l10_TileRecords.j37 Q s1 s1n s1c s2 s16 s16n s16c s17 s17n s17c s19 s19n s19c s20 s20n s20c s21 s21n s21c s25 w := Nd_fold K_l10_TileRecords (by kernel_rfl) h
theorem N_l10_TileRecords.j42_eq (Q : Value → World → Prop) (w : World) (h :
  Q (.bool false) w) :
N_l10_TileRecords.j42 Q w := Nd_fold K_l10_TileRecords (by kernel_rfl) h
theorem N_l10_TileRecords.j44_eq (Q : Value → World → Prop) (s20 : Option Addr) (s20n : Nat) (s20c : Nat) (s21 : Option Addr) (s21n : Nat) (s21c : Nat) (s26 : Int) (w : World) (h :
  cond (decide (s26 < ((s21n : Nat) : Int)))
  ((0 : Int) ≤ s26 ∧
  s26 < ((s21n : Nat) : Int) ∧
  opnA s21 fun ad1 =>
  opnL (w.cell? (ad1.add (Int.toNat s26 * 1))) fun x2 x2n x2c =>
  C_l10_marked #[.slice x2 x2n x2c, .int .u8 (IntKind.wrap .u8 s26)] w fun v3 w4 =>
  opnB (some v3) fun x5 =>
  cond (!x5)
  (N_l10_TileRecords.j47 Q w4)
  ((0 : Int) ≤ s26 ∧
  s26 < ((s20n : Nat) : Int) ∧
  opnA s20 fun ad6 =>
  opnL (w4.cell? (ad6.add (Int.toNat s26 * 1))) fun x7 x7n x7c =>
  cond (((x7n : Nat) : Int) != 0)
  (N_l10_TileRecords.j47 Q w4)
  (N_l10_TileRecords.j44 Q s20 s20n s20c s21 s21n s21c (IntKind.wrap .i64 (s26 + 1)) w4)))
  (Q (.bool true) w)) :
N_l10_TileRecords.j44 Q s20 s20n s20c s21 s21n s21c s26 w := Nd_fold K_l10_TileRecords (by kernel_rfl) h
theorem N_l10_TileRecords.j47_eq (Q : Value → World → Prop) (w : World) (h :
  Q (.bool false) w) :
N_l10_TileRecords.j47 Q w := Nd_fold K_l10_TileRecords (by kernel_rfl) h
theorem C_l10_TileRecords_eq (Q : Value → World → Prop) (a0 : Option Addr) (a0n : Nat) (a0c : Nat) (a1 : Option Addr) (a1n : Nat) (a1c : Nat) (a2 : Int) (w : World) (h :
  N_l10_TileRecords.j4 Q a0 a0n a0c a1 a1n a1c a2 none 0 0 none 0 0 0 w) :
C_l10_TileRecords #[.slice a0 a0n a0c, .slice a1 a1n a1c, .int .i64 a2] w Q := C_fold K_l10_TileRecords (by kernel_rfl) h
/-! ### ledger/ledgerlaw10.TileJoins -/
noncomputable def B_l10_TileJoins : Code := match Try.f4.body with | some c => c | _ => .skip
noncomputable def X_l10_TileJoins : Cx := { P := PP, fn := 4, N := 144, tab := tab, results := [.tmp 6], iter := fun _ => (.none, .none), dyn := fun _ => false, live := fun r => cond (Nat.beq r 3) (some []) (cond (Nat.beq r 9) (some []) (cond (Nat.beq r 11) (some [0, 1, 2, 8, 9, 13]) (cond (Nat.beq r 17) (some [0, 1, 2, 8, 14, 15]) (cond (Nat.beq r 18) (some [0, 1, 2, 8, 14, 15]) (none))))) }
theorem K_l10_TileJoins : OkF X_l10_TileJoins B_l10_TileJoins Try.f4 := ⟨⟨tab_ok, mix_ok⟩, Try.func4, by kernel_rfl, by kernel_rfl, by kernel_rfl, by kernel_rfl⟩
noncomputable def N_l10_TileJoins.j3 (Q : Value → World → Prop) (w : World) : Prop := Nd X_l10_TileJoins Q [] [.code (B_l10_TileJoins.r.r.l.r.l.l), .code (B_l10_TileJoins.r.r.l.r.l.r), .code (B_l10_TileJoins.r.r.r)] w
noncomputable def N_l10_TileJoins.j9 (Q : Value → World → Prop) (w : World) : Prop := Nd X_l10_TileJoins Q [] [.code (B_l10_TileJoins.r.r.r.r.l.r.l.r.r.l.r.l.l), .code (B_l10_TileJoins.r.r.r.r.l.r.l.r.r.l.r.l.r), .code (B_l10_TileJoins.r.r.r.r.l.r.l.r.r.r), .code (B_l10_TileJoins.r.r.r.r.r)] w
noncomputable def N_l10_TileJoins.j11 (Q : Value → World → Prop) (s0 : Option Addr) (s0n : Nat) (s0c : Nat) (s1 : Option Addr) (s1n : Nat) (s1c : Nat) (s2 : Int) (s8 : Int) (s9 : Option Addr) (s9n : Nat) (s9c : Nat) (s13 : Int) (w : World) : Prop := Nd X_l10_TileJoins Q [(0, 0, .slice s0 s0n s0c), (1, 1, .slice s1 s1n s1c), (2, 2, .int .i64 s2), (8, 8, .int .i64 s8), (9, 9, .slice s9 s9n s9c), (13, 13, .int .i64 s13)] [.code (B_l10_TileJoins.r.r.r.r.l.r.l.r.r.r.r.l.l.l.l), .code (B_l10_TileJoins.r.r.r.r.l.r.l.r.r.r.r.l.l.l.r), .code (B_l10_TileJoins.r.r.r.r.l.r.l.r.r.r.r.l.l.r), .inLoop (B_l10_TileJoins.r.r.r.r.l.r.l.r.r.r.r.l.l), .inBlock 0, .code (B_l10_TileJoins.r.r.r.r.r)] w
noncomputable def N_l10_TileJoins.j17 (Q : Value → World → Prop) (s0 : Option Addr) (s0n : Nat) (s0c : Nat) (s1 : Option Addr) (s1n : Nat) (s1c : Nat) (s2 : Int) (s8 : Int) (s14 : Bool) (s15 : Int) (w : World) : Prop := Nd X_l10_TileJoins Q [(0, 0, .slice s0 s0n s0c), (1, 1, .slice s1 s1n s1c), (2, 2, .int .i64 s2), (8, 8, .int .i64 s8), (14, 14, .bool s14), (15, 15, .int .i64 s15)] [.code (B_l10_TileJoins.r.r.r.r.r.r.l.r.l.l.l.l), .code (B_l10_TileJoins.r.r.r.r.r.r.l.r.l.l.l.r), .code (B_l10_TileJoins.r.r.r.r.r.r.l.r.l.l.r), .inLoop (B_l10_TileJoins.r.r.r.r.r.r.l.r.l.l), .inBlock 2, .code (B_l10_TileJoins.r.r.r.r.r.r.r)] w
noncomputable def N_l10_TileJoins.j18 (Q : Value → World → Prop) (s0 : Option Addr) (s0n : Nat) (s0c : Nat) (s1 : Option Addr) (s1n : Nat) (s1c : Nat) (s2 : Int) (s8 : Int) (s14 : Bool) (s15 : Int) (w : World) : Prop := Nd X_l10_TileJoins Q [(0, 0, .slice s0 s0n s0c), (1, 1, .slice s1 s1n s1c), (2, 2, .int .i64 s2), (8, 8, .int .i64 s8), (14, 14, .bool s14), (15, 15, .int .i64 s15)] [.code (B_l10_TileJoins.r.r.r.r.r.r.l.r.l.l.r.r), .inLoop (B_l10_TileJoins.r.r.r.r.r.r.l.r.l.l), .inBlock 2, .code (B_l10_TileJoins.r.r.r.r.r.r.r)] w
theorem N_l10_TileJoins.j3_eq (Q : Value → World → Prop) (w : World) (h :
  Q (.bool false) w) :
N_l10_TileJoins.j3 Q w := Nd_fold K_l10_TileJoins (by kernel_rfl) h
theorem N_l10_TileJoins.j9_eq (Q : Value → World → Prop) (w : World) (h :
  Q (.bool false) w) :
N_l10_TileJoins.j9 Q w := Nd_fold K_l10_TileJoins (by kernel_rfl) h
theorem N_l10_TileJoins.j11_eq (Q : Value → World → Prop) (s0 : Option Addr) (s0n : Nat) (s0c : Nat) (s1 : Option Addr) (s1n : Nat) (s1c : Nat) (s2 : Int) (s8 : Int) (s9 : Option Addr) (s9n : Nat) (s9c : Nat) (s13 : Int) (w : World) (h :
  cond (decide (s13 < ((s9n : Nat) : Int)))
  (drw w fun w1 =>
  (0 : Int) ≤ s13 ∧
  s13 < ((s9n : Nat) : Int) ∧
  opnA s9 fun ad2 =>
  (0 : Int) ≤ s13 ∧
  s13 < ((s0n : Nat) : Int) ∧
  opnA s0 fun ad3 =>
  opnL (w1.cell? (ad2.add (Int.toNat s13 * 1))) fun x4 x4n x4c =>
  semR PP (convert 23 9 (.slice x4 x4n x4c)) w1 fun x5 =>
  opnS (some x5) fun x6 =>
  opnL (w1.cell? (ad3.add (Int.toNat s13 * 1))) fun x7 x7n x7c =>
  semR PP (convert 23 9 (.slice x7 x7n x7c)) w1 fun x8 =>
  opnS (some x8) fun x9 =>
  cond (!(x6.toList == x9.toList))
  (Q (.bool false) w1)
  (N_l10_TileJoins.j11 Q s0 s0n s0c s1 s1n s1c s2 s8 s9 s9n s9c (IntKind.wrap .i64 (s13 + 1)) w1))
  (N_l10_TileJoins.j17 Q s0 s0n s0c s1 s1n s1c s2 s8 (decide (((s0n : Nat) : Int) > 256)) 0 w)) :
N_l10_TileJoins.j11 Q s0 s0n s0c s1 s1n s1c s2 s8 s9 s9n s9c s13 w := Nd_fold K_l10_TileJoins (by kernel_rfl) h
theorem N_l10_TileJoins.j17_eq (Q : Value → World → Prop) (s0 : Option Addr) (s0n : Nat) (s0c : Nat) (s1 : Option Addr) (s1n : Nat) (s1c : Nat) (s2 : Int) (s8 : Int) (s14 : Bool) (s15 : Int) (w : World) (h :
  cond (decide (s15 < ((s0n : Nat) : Int)))
  (cond s14
  (N_l10_TileJoins.j18 Q s0 s0n s0c s1 s1n s1c s2 s8 true s15 w)
  ((0 : Int) ≤ s15 ∧
  s15 < ((s0n : Nat) : Int) ∧
  opnA s0 fun ad1 =>
  opnL (w.cell? (ad1.add (Int.toNat s15 * 1))) fun x2 x2n x2c =>
  N_l10_TileJoins.j18 Q s0 s0n s0c s1 s1n s1c s2 s8 (decide (((x2n : Nat) : Int) > 1024)) s15 w))
  (C_l10_num #[.int .i64 s8] w fun v3 w4 =>
  opnI .i64 (some v3) fun x5 =>
  cond (!((x5 != 0) == s14))
  (Q (.bool false) w4)
  (C_tile_Cut #[.slice s1 s1n s1c, .int .i64 s2] w4 fun v6 w7 =>
  opnT (some v6) fun x8 =>
  x8.size = 2 ∧
  opnL (x8[0]?) fun x9 x9n x9c =>
  opnI .i64 (x8[1]?) fun x10 =>
  C_l10_num #[.int .i64 x10] w7 fun v11 w12 =>
  opnI .i64 (some v11) fun x13 =>
  cond (x13 != 0)
  (Q (.bool (((x9n : Nat) : Int) == 0)) w12)
  (C_tile_Join #[.slice x9 x9n x9c] w12 fun v14 w15 =>
  opnT (some v14) fun x16 =>
  x16.size = 2 ∧
  opnL (x16[0]?) fun x17 x17n x17c =>
  opnI .i64 (x16[1]?) fun x18 =>
  C_l10_num #[.int .i64 x18] w15 fun v19 w20 =>
  opnI .i64 (some v19) fun x21 =>
  cond (x21 == 0)
  (semR PP (convert 23 9 (.slice x17 x17n x17c)) w20 fun x22 =>
  opnS (some x22) fun x23 =>
  semR PP (convert 23 9 (.slice s1 s1n s1c)) w20 fun x24 =>
  opnS (some x24) fun x25 =>
  cond (x23.toList == x25.toList)
  (Q (.bool (((x9n : Nat) : Int) == s2)) w20)
  (Q (.bool false) w20))
  (Q (.bool false) w20))))) :
N_l10_TileJoins.j17 Q s0 s0n s0c s1 s1n s1c s2 s8 s14 s15 w := Nd_fold K_l10_TileJoins (by kernel_rfl) h
theorem N_l10_TileJoins.j18_eq (Q : Value → World → Prop) (s0 : Option Addr) (s0n : Nat) (s0c : Nat) (s1 : Option Addr) (s1n : Nat) (s1c : Nat) (s2 : Int) (s8 : Int) (s14 : Bool) (s15 : Int) (w : World) (h :
  N_l10_TileJoins.j17 Q s0 s0n s0c s1 s1n s1c s2 s8 s14 (IntKind.wrap .i64 (s15 + 1)) w) :
N_l10_TileJoins.j18 Q s0 s0n s0c s1 s1n s1c s2 s8 s14 s15 w := Nd_fold K_l10_TileJoins (by kernel_rfl) h
theorem C_l10_TileJoins_eq (Q : Value → World → Prop) (a0 : Option Addr) (a0n : Nat) (a0c : Nat) (a1 : Option Addr) (a1n : Nat) (a1c : Nat) (a2 : Int) (w : World) (h :
  alC #[.int .u8 97, .int .u8 98] 5 w fun p1 w2 =>
  sem PP (convert 23 23 (.slice (some p1) 2 2)) w2 fun v3 w4 =>
  opnL (some v3) fun x5 x5n x5c =>
  alC #[.slice x5 x5n x5c, .slice none 0 0] 23 w4 fun p6 w7 =>
  C_tile_Join #[.slice (some p6) 2 2] w7 fun v8 w9 =>
  opnT (some v8) fun x10 =>
  x10.size = 2 ∧
  opnL (x10[0]?) fun x11 x11n x11c =>
  opnI .i64 (x10[1]?) fun x12 =>
  C_l10_num #[.int .i64 x12] w9 fun v13 w14 =>
  opnI .i64 (some v13) fun x15 =>
  cond (x15 != 0)
  (N_l10_TileJoins.j3 Q w14)
  (semR PP (convert 23 9 (.slice x11 x11n x11c)) w14 fun x16 =>
  opnS (some x16) fun x17 =>
  cond (!(x17.toList == (⟨#[0, 2, 97, 98, 0, 0]⟩ : ByteArray).toList))
  (N_l10_TileJoins.j3 Q w14)
  (C_tile_Join #[.slice a0 a0n a0c] w14 fun v18 w19 =>
  opnT (some v18) fun x20 =>
  x20.size = 2 ∧
  opnL (x20[0]?) fun x21 x21n x21c =>
  opnI .i64 (x20[1]?) fun x22 =>
  C_l10_num #[.int .i64 x22] w19 fun v23 w24 =>
  opnI .i64 (some v23) fun x25 =>
  cond (x25 == 0)
  (C_tile_Cut #[.slice x21 x21n x21c, .int .i64 ((a0n : Nat) : Int)] w24 fun v26 w27 =>
  opnT (some v26) fun x28 =>
  x28.size = 2 ∧
  opnL (x28[0]?) fun x29 x29n x29c =>
  opnI .i64 (x28[1]?) fun x30 =>
  C_tile_Cut #[.slice x21 x21n x21c, .int .i64 (IntKind.wrap .i64 (((a0n : Nat) : Int) + 1))] w27 fun v31 w32 =>
  opnT (some v31) fun x33 =>
  x33.size = 2 ∧
  opnL (x33[0]?) fun x34 x34n x34c =>
  opnI .i64 (x33[1]?) fun x35 =>
  C_l10_num #[.int .i64 x30] w32 fun v36 w37 =>
  opnI .i64 (some v36) fun x38 =>
  cond (x38 != 0)
  (N_l10_TileJoins.j9 Q w37)
  (C_l10_num #[.int .i64 x35] w37 fun v39 w40 =>
  opnI .i64 (some v39) fun x41 =>
  cond (x41 == 0)
  (N_l10_TileJoins.j9 Q w40)
  (cond (((x29n : Nat) : Int) != ((a0n : Nat) : Int))
  (N_l10_TileJoins.j9 Q w40)
  (N_l10_TileJoins.j11 Q a0 a0n a0c a1 a1n a1c a2 x22 x29 x29n x29c 0 w40))))
  (N_l10_TileJoins.j17 Q a0 a0n a0c a1 a1n a1c a2 x22 (decide (((a0n : Nat) : Int) > 256)) 0 w24)))) :
C_l10_TileJoins #[.slice a0 a0n a0c, .slice a1 a1n a1c, .int .i64 a2] w Q := C_fold K_l10_TileJoins (by kernel_rfl) h
/-! ### ledger/ledgerlaw10.TileCovers -/
noncomputable def B_l10_TileCovers : Code := match Try.f5.body with | some c => c | _ => .skip
noncomputable def X_l10_TileCovers : Cx := { P := PP, fn := 5, N := 189, tab := tab, results := [.tmp 6], iter := fun _ => (.none, .none), dyn := fun _ => false, live := fun r => cond (Nat.beq r 8) (some []) (cond (Nat.beq r 12) (some [0, 7, 9, 11, 13, 14, 15]) (cond (Nat.beq r 20) (some [7, 9, 11, 13, 16, 17]) (cond (Nat.beq r 21) (some [7, 9, 11, 13, 16, 17]) (cond (Nat.beq r 24) (some []) (cond (Nat.beq r 27) (some [7, 9, 11, 13, 16, 18, 19]) (cond (Nat.beq r 28) (some [7, 9, 11, 13, 16, 18, 19]) (cond (Nat.beq r 31) (some [7, 9, 11, 13, 16, 18, 19, 20, 21]) (cond (Nat.beq r 32) (some [7, 9, 11, 13, 16, 18, 19, 20, 21]) (cond (Nat.beq r 36) (some []) (none)))))))))) }
theorem K_l10_TileCovers : OkF X_l10_TileCovers B_l10_TileCovers Try.f5 := ⟨⟨tab_ok, mix_ok⟩, Try.func5, by kernel_rfl, by kernel_rfl, by kernel_rfl, by kernel_rfl⟩
noncomputable def N_l10_TileCovers.j8 (Q : Value → World → Prop) (w : World) : Prop := Nd X_l10_TileCovers Q [] [.code (B_l10_TileCovers.r.r.r.r.r.r.r.l.r.l.l), .code (B_l10_TileCovers.r.r.r.r.r.r.r.l.r.l.r), .code (B_l10_TileCovers.r.r.r.r.r.r.r.r)] w
noncomputable def N_l10_TileCovers.j12 (Q : Value → World → Prop) (s0 : Int) (s7 : Option Addr) (s7n : Nat) (s7c : Nat) (s9 : Option Addr) (s9n : Nat) (s9c : Nat) (s11 : Option Addr) (s11n : Nat) (s11c : Nat) (s13 : Int) (s14 : Int) (s15 : Int) (w : World) : Prop := Nd X_l10_TileCovers Q [(0, 0, .int .i64 s0), (7, 7, .slice s7 s7n s7c), (9, 9, .slice s9 s9n s9c), (11, 11, .slice s11 s11n s11c), (13, 13, .int .i64 s13), (14, 14, .int .i64 s14), (15, 15, .int .i64 s15)] [.code (B_l10_TileCovers.r.r.r.r.r.r.r.r.r.r.l.r.l.l.l.l), .code (B_l10_TileCovers.r.r.r.r.r.r.r.r.r.r.l.r.l.l.l.r), .code (B_l10_TileCovers.r.r.r.r.r.r.r.r.r.r.l.r.l.l.r), .inLoop (B_l10_TileCovers.r.r.r.r.r.r.r.r.r.r.l.r.l.l), .inBlock 0, .code (B_l10_TileCovers.r.r.r.r.r.r.r.r.r.r.r)] w
noncomputable def N_l10_TileCovers.j20 (Q : Value → World → Prop) (s7 : Option Addr) (s7n : Nat) (s7c : Nat) (s9 : Option Addr) (s9n : Nat) (s9c : Nat) (s11 : Option Addr) (s11n : Nat) (s11c : Nat) (s13 : Int) (s16 : Int) (s17 : Int) (w : World) : Prop := Nd X_l10_TileCovers Q [(7, 7, .slice s7 s7n s7c), (9, 9, .slice s9 s9n s9c), (11, 11, .slice s11 s11n s11c), (13, 13, .int .i64 s13), (16, 16, .int .i64 s16), (17, 17, .int .i64 s17)] [.code (B_l10_TileCovers.r.r.r.r.r.r.r.r.r.r.r.r.l.r.l.l.l.l), .code (B_l10_TileCovers.r.r.r.r.r.r.r.r.r.r.r.r.l.r.l.l.l.r), .code (B_l10_TileCovers.r.r.r.r.r.r.r.r.r.r.r.r.l.r.l.l.r), .inLoop (B_l10_TileCovers.r.r.r.r.r.r.r.r.r.r.r.r.l.r.l.l), .inBlock 2, .code (B_l10_TileCovers.r.r.r.r.r.r.r.r.r.r.r.r.r)] w
noncomputable def N_l10_TileCovers.j21 (Q : Value → World → Prop) (s7 : Option Addr) (s7n : Nat) (s7c : Nat) (s9 : Option Addr) (s9n : Nat) (s9c : Nat) (s11 : Option Addr) (s11n : Nat) (s11c : Nat) (s13 : Int) (s16 : Int) (s17 : Int) (w : World) : Prop := Nd X_l10_TileCovers Q [(7, 7, .slice s7 s7n s7c), (9, 9, .slice s9 s9n s9c), (11, 11, .slice s11 s11n s11c), (13, 13, .int .i64 s13), (16, 16, .int .i64 s16), (17, 17, .int .i64 s17)] [.code (B_l10_TileCovers.r.r.r.r.r.r.r.r.r.r.r.r.l.r.l.l.r.r), .inLoop (B_l10_TileCovers.r.r.r.r.r.r.r.r.r.r.r.r.l.r.l.l), .inBlock 2, .code (B_l10_TileCovers.r.r.r.r.r.r.r.r.r.r.r.r.r)] w
noncomputable def N_l10_TileCovers.j24 (Q : Value → World → Prop) (w : World) : Prop := Nd X_l10_TileCovers Q [] [.code (B_l10_TileCovers.r.r.r.r.r.r.r.r.r.r.r.r.l.r.l.l.r.l.l.r.r.l.l), .code (B_l10_TileCovers.r.r.r.r.r.r.r.r.r.r.r.r.l.r.l.l.r.l.l.r.r.l.r), .inBlock 3, .code (B_l10_TileCovers.r.r.r.r.r.r.r.r.r.r.r.r.l.r.l.l.r.r), .inLoop (B_l10_TileCovers.r.r.r.r.r.r.r.r.r.r.r.r.l.r.l.l), .inBlock 2, .code (B_l10_TileCovers.r.r.r.r.r.r.r.r.r.r.r.r.r)] w
noncomputable def N_l10_TileCovers.j27 (Q : Value → World → Prop) (s7 : Option Addr) (s7n : Nat) (s7c : Nat) (s9 : Option Addr) (s9n : Nat) (s9c : Nat) (s11 : Option Addr) (s11n : Nat) (s11c : Nat) (s13 : Int) (s16 : Int) (s18 : Int) (s19 : Int) (w : World) : Prop := Nd X_l10_TileCovers Q [(7, 7, .slice s7 s7n s7c), (9, 9, .slice s9 s9n s9c), (11, 11, .slice s11 s11n s11c), (13, 13, .int .i64 s13), (16, 16, .int .i64 s16), (18, 18, .int .i64 s18), (19, 19, .int .i64 s19)] [.code (B_l10_TileCovers.r.r.r.r.r.r.r.r.r.r.r.r.r.r.l.r.l.l.l.l), .code (B_l10_TileCovers.r.r.r.r.r.r.r.r.r.r.r.r.r.r.l.r.l.l.l.r), .code (B_l10_TileCovers.r.r.r.r.r.r.r.r.r.r.r.r.r.r.l.r.l.l.r), .inLoop (B_l10_TileCovers.r.r.r.r.r.r.r.r.r.r.r.r.r.r.l.r.l.l), .inBlock 4, .code (B_l10_TileCovers.r.r.r.r.r.r.r.r.r.r.r.r.r.r.r)] w
noncomputable def N_l10_TileCovers.j28 (Q : Value → World → Prop) (s7 : Option Addr) (s7n : Nat) (s7c : Nat) (s9 : Option Addr) (s9n : Nat) (s9c : Nat) (s11 : Option Addr) (s11n : Nat) (s11c : Nat) (s13 : Int) (s16 : Int) (s18 : Int) (s19 : Int) (w : World) : Prop := Nd X_l10_TileCovers Q [(7, 7, .slice s7 s7n s7c), (9, 9, .slice s9 s9n s9c), (11, 11, .slice s11 s11n s11c), (13, 13, .int .i64 s13), (16, 16, .int .i64 s16), (18, 18, .int .i64 s18), (19, 19, .int .i64 s19)] [.code (B_l10_TileCovers.r.r.r.r.r.r.r.r.r.r.r.r.r.r.l.r.l.l.r.r), .inLoop (B_l10_TileCovers.r.r.r.r.r.r.r.r.r.r.r.r.r.r.l.r.l.l), .inBlock 4, .code (B_l10_TileCovers.r.r.r.r.r.r.r.r.r.r.r.r.r.r.r)] w
noncomputable def N_l10_TileCovers.j31 (Q : Value → World → Prop) (s7 : Option Addr) (s7n : Nat) (s7c : Nat) (s9 : Option Addr) (s9n : Nat) (s9c : Nat) (s11 : Option Addr) (s11n : Nat) (s11c : Nat) (s13 : Int) (s16 : Int) (s18 : Int) (s19 : Int) (s20 : Bool) (s21 : Int) (w : World) : Prop := Nd X_l10_TileCovers Q [(7, 7, .slice s7 s7n s7c), (9, 9, .slice s9 s9n s9c), (11, 11, .slice s11 s11n s11c), (13, 13, .int .i64 s13), (16, 16, .int .i64 s16), (18, 18, .int .i64 s18), (19, 19, .int .i64 s19), (20, 20, .bool s20), (21, 21, .int .i64 s21)] [.code (B_l10_TileCovers.r.r.r.r.r.r.r.r.r.r.r.r.r.r.l.r.l.l.r.l.l.r.l.r.l.l.l.l), .code (B_l10_TileCovers.r.r.r.r.r.r.r.r.r.r.r.r.r.r.l.r.l.l.r.l.l.r.l.r.l.l.l.r), .code (B_l10_TileCovers.r.r.r.r.r.r.r.r.r.r.r.r.r.r.l.r.l.l.r.l.l.r.l.r.l.l.r), .inLoop (B_l10_TileCovers.r.r.r.r.r.r.r.r.r.r.r.r.r.r.l.r.l.l.r.l.l.r.l.r.l.l), .inBlock 6, .code (B_l10_TileCovers.r.r.r.r.r.r.r.r.r.r.r.r.r.r.l.r.l.l.r.l.l.r.r), .inBlock 5, .code (B_l10_TileCovers.r.r.r.r.r.r.r.r.r.r.r.r.r.r.l.r.l.l.r.r), .inLoop (B_l10_TileCovers.r.r.r.r.r.r.r.r.r.r.r.r.r.r.l.r.l.l), .inBlock 4, .code (B_l10_TileCovers.r.r.r.r.r.r.r.r.r.r.r.r.r.r.r)] w
noncomputable def N_l10_TileCovers.j32 (Q : Value → World → Prop) (s7 : Option Addr) (s7n : Nat) (s7c : Nat) (s9 : Option Addr) (s9n : Nat) (s9c : Nat) (s11 : Option Addr) (s11n : Nat) (s11c : Nat) (s13 : Int) (s16 : Int) (s18 : Int) (s19 : Int) (s20 : Bool) (s21 : Int) (w : World) : Prop := Nd X_l10_TileCovers Q [(7, 7, .slice s7 s7n s7c), (9, 9, .slice s9 s9n s9c), (11, 11, .slice s11 s11n s11c), (13, 13, .int .i64 s13), (16, 16, .int .i64 s16), (18, 18, .int .i64 s18), (19, 19, .int .i64 s19), (20, 20, .bool s20), (21, 21, .int .i64 s21)] [.code (B_l10_TileCovers.r.r.r.r.r.r.r.r.r.r.r.r.r.r.l.r.l.l.r.l.l.r.l.r.l.l.r.r), .inLoop (B_l10_TileCovers.r.r.r.r.r.r.r.r.r.r.r.r.r.r.l.r.l.l.r.l.l.r.l.r.l.l), .inBlock 6, .code (B_l10_TileCovers.r.r.r.r.r.r.r.r.r.r.r.r.r.r.l.r.l.l.r.l.l.r.r), .inBlock 5, .code (B_l10_TileCovers.r.r.r.r.r.r.r.r.r.r.r.r.r.r.l.r.l.l.r.r), .inLoop (B_l10_TileCovers.r.r.r.r.r.r.r.r.r.r.r.r.r.r.l.r.l.l), .inBlock 4, .code (B_l10_TileCovers.r.r.r.r.r.r.r.r.r.r.r.r.r.r.r)] w
noncomputable def N_l10_TileCovers.j36 (Q : Value → World → Prop) (w : World) : Prop := Nd X_l10_TileCovers Q [] [.code (B_l10_TileCovers.r.r.r.r.r.r.r.r.r.r.r.r.r.r.l.r.l.l.r.l.l.r.r.r.l.r.l.l), .code (B_l10_TileCovers.r.r.r.r.r.r.r.r.r.r.r.r.r.r.l.r.l.l.r.l.l.r.r.r.l.r.l.r), .code (B_l10_TileCovers.r.r.r.r.r.r.r.r.r.r.r.r.r.r.l.r.l.l.r.l.l.r.r.r.r), .inBlock 5, .code (B_l10_TileCovers.r.r.r.r.r.r.r.r.r.r.r.r.r.r.l.r.l.l.r.r), .inLoop (B_l10_TileCovers.r.r.r.r.r.r.r.r.r.r.r.r.r.r.l.r.l.l), .inBlock 4, .code (B_l10_TileCovers.r.r.r.r.r.r.r.r.r.r.r.r.r.r.r)] w
theorem N_l10_TileCovers.j8_eq (Q : Value → World → Prop) (w : World) (h :
  Q (.bool false) w) :
N_l10_TileCovers.j8 Q w := Nd_fold K_l10_TileCovers (by kernel_rfl) h
theorem N_l10_TileCovers.j12_eq (Q : Value → World → Prop) (s0 : Int) (s7 : Option Addr) (s7n : Nat) (s7c : Nat) (s9 : Option Addr) (s9n : Nat) (s9c : Nat) (s11 : Option Addr) (s11n : Nat) (s11c : Nat) (s13 : Int) (s14 : Int) (s15 : Int) (w : World) (h :
  cond (decide (s14 > 0))
  (C_l10_covered #[.slice s7 s7n s7c, .int .i64 s0, .int .i64 s15] w fun v1 w2 =>
  opnI .i64 (some v1) fun x3 =>
  cond (x3 != s14)
  (Q (.bool false) w2)
  (nn (IntKind.wrap .u64 s0) (
  N_l10_TileCovers.j12 Q s0 s7 s7n s7c s9 s9n s9c s11 s11n s11c (IntKind.wrap .i64 (s13 + s14)) (shrI .i64 s14 (IntKind.wrap .u64 s0)) (IntKind.wrap .i64 (s15 + 1)) w2)))
  (N_l10_TileCovers.j20 Q s7 s7n s7c s9 s9n s9c s11 s11n s11c s13 0 0 w)) :
N_l10_TileCovers.j12 Q s0 s7 s7n s7c s9 s9n s9c s11 s11n s11c s13 s14 s15 w := Nd_fold K_l10_TileCovers (by kernel_rfl) h
theorem N_l10_TileCovers.j20_eq (Q : Value → World → Prop) (s7 : Option Addr) (s7n : Nat) (s7c : Nat) (s9 : Option Addr) (s9n : Nat) (s9c : Nat) (s11 : Option Addr) (s11n : Nat) (s11c : Nat) (s13 : Int) (s16 : Int) (s17 : Int) (w : World) (h :
  cond (decide (s17 < ((s7n : Nat) : Int)))
  ((0 : Int) ≤ s17 ∧
  s17 < ((s7n : Nat) : Int) ∧
  opnA s7 fun ad1 =>
  opnI .i64 (w.cell? ((ad1.add (Int.toNat s17 * 5)).add 3)) fun x2 =>
  drw w fun w3 =>
  cond (decide (s17 > 0))
  ((0 : Int) ≤ s17 ∧
  s17 < ((s7n : Nat) : Int) ∧
  opnA s7 fun ad4 =>
  (0 : Int) ≤ IntKind.wrap .i64 (s17 - 1) ∧
  (IntKind.wrap .i64 (s17 - 1)) < ((s7n : Nat) : Int) ∧
  opnA s7 fun ad5 =>
  opnI .i64 (w3.cell? ((ad4.add (Int.toNat s17 * 5)).add 1)) fun x6 =>
  opnI .i64 (w3.cell? ((ad5.add (Int.toNat (IntKind.wrap .i64 (s17 - 1)) * 5)).add 1)) fun x7 =>
  cond (decide (x6 < x7))
  (N_l10_TileCovers.j24 Q w3)
  ((0 : Int) ≤ s17 ∧
  s17 < ((s7n : Nat) : Int) ∧
  opnA s7 fun ad8 =>
  (0 : Int) ≤ IntKind.wrap .i64 (s17 - 1) ∧
  (IntKind.wrap .i64 (s17 - 1)) < ((s7n : Nat) : Int) ∧
  opnA s7 fun ad9 =>
  opnI .i64 (w3.cell? ((ad8.add (Int.toNat s17 * 5)).add 1)) fun x10 =>
  opnI .i64 (w3.cell? ((ad9.add (Int.toNat (IntKind.wrap .i64 (s17 - 1)) * 5)).add 1)) fun x11 =>
  cond (x10 == x11)
  ((0 : Int) ≤ s17 ∧
  s17 < ((s7n : Nat) : Int) ∧
  opnA s7 fun ad12 =>
  (0 : Int) ≤ IntKind.wrap .i64 (s17 - 1) ∧
  (IntKind.wrap .i64 (s17 - 1)) < ((s7n : Nat) : Int) ∧
  opnA s7 fun ad13 =>
  opnI .i64 (w3.cell? ((ad12.add (Int.toNat s17 * 5)).add 2)) fun x14 =>
  opnI .i64 (w3.cell? ((ad13.add (Int.toNat (IntKind.wrap .i64 (s17 - 1)) * 5)).add 2)) fun x15 =>
  cond (decide (x14 ≤ x15))
  (N_l10_TileCovers.j24 Q w3)
  (N_l10_TileCovers.j21 Q s7 s7n s7c s9 s9n s9c s11 s11n s11c s13 (IntKind.wrap .i64 (s16 + x2)) s17 w3))
  (N_l10_TileCovers.j21 Q s7 s7n s7c s9 s9n s9c s11 s11n s11c s13 (IntKind.wrap .i64 (s16 + x2)) s17 w3)))
  (N_l10_TileCovers.j21 Q s7 s7n s7c s9 s9n s9c s11 s11n s11c s13 (IntKind.wrap .i64 (s16 + x2)) s17 w3))
  (N_l10_TileCovers.j27 Q s7 s7n s7c s9 s9n s9c s11 s11n s11c s13 s16 0 0 w)) :
N_l10_TileCovers.j20 Q s7 s7n s7c s9 s9n s9c s11 s11n s11c s13 s16 s17 w := Nd_fold K_l10_TileCovers (by kernel_rfl) h
theorem N_l10_TileCovers.j21_eq (Q : Value → World → Prop) (s7 : Option Addr) (s7n : Nat) (s7c : Nat) (s9 : Option Addr) (s9n : Nat) (s9c : Nat) (s11 : Option Addr) (s11n : Nat) (s11c : Nat) (s13 : Int) (s16 : Int) (s17 : Int) (w : World) (h :
  N_l10_TileCovers.j20 Q s7 s7n s7c s9 s9n s9c s11 s11n s11c s13 s16 (IntKind.wrap .i64 (s17 + 1)) w) :
N_l10_TileCovers.j21 Q s7 s7n s7c s9 s9n s9c s11 s11n s11c s13 s16 s17 w := Nd_fold K_l10_TileCovers (by kernel_rfl) h
theorem N_l10_TileCovers.j24_eq (Q : Value → World → Prop) (w : World) (h :
  Q (.bool false) w) :
N_l10_TileCovers.j24 Q w := Nd_fold K_l10_TileCovers (by kernel_rfl) h
theorem N_l10_TileCovers.j27_eq (Q : Value → World → Prop) (s7 : Option Addr) (s7n : Nat) (s7c : Nat) (s9 : Option Addr) (s9n : Nat) (s9c : Nat) (s11 : Option Addr) (s11n : Nat) (s11c : Nat) (s13 : Int) (s16 : Int) (s18 : Int) (s19 : Int) (w : World) (h :
  cond (decide (s19 < ((s7n : Nat) : Int)))
  (N_l10_TileCovers.j31 Q s7 s7n s7c s9 s9n s9c s11 s11n s11c s13 s16 s18 s19 false 0 w)
  (cond (s16 == s13)
  (Q (.bool (s18 == ((s11n : Nat) : Int))) w)
  (Q (.bool false) w))) :
N_l10_TileCovers.j27 Q s7 s7n s7c s9 s9n s9c s11 s11n s11c s13 s16 s18 s19 w := Nd_fold K_l10_TileCovers (by kernel_rfl) h
theorem N_l10_TileCovers.j28_eq (Q : Value → World → Prop) (s7 : Option Addr) (s7n : Nat) (s7c : Nat) (s9 : Option Addr) (s9n : Nat) (s9c : Nat) (s11 : Option Addr) (s11n : Nat) (s11c : Nat) (s13 : Int) (s16 : Int) (s18 : Int) (s19 : Int) (w : World) (h :
  N_l10_TileCovers.j27 Q s7 s7n s7c s9 s9n s9c s11 s11n s11c s13 s16 s18 (IntKind.wrap .i64 (s19 + 1)) w) :
N_l10_TileCovers.j28 Q s7 s7n s7c s9 s9n s9c s11 s11n s11c s13 s16 s18 s19 w := Nd_fold K_l10_TileCovers (by kernel_rfl) h
theorem N_l10_TileCovers.j31_eq (Q : Value → World → Prop) (s7 : Option Addr) (s7n : Nat) (s7c : Nat) (s9 : Option Addr) (s9n : Nat) (s9c : Nat) (s11 : Option Addr) (s11n : Nat) (s11c : Nat) (s13 : Int) (s16 : Int) (s18 : Int) (s19 : Int) (s20 : Bool) (s21 : Int) (w : World) (h :
  cond (decide (s21 < ((s9n : Nat) : Int)))
  (drw w fun w1 =>
  cond s20
  (N_l10_TileCovers.j32 Q s7 s7n s7c s9 s9n s9c s11 s11n s11c s13 s16 s18 s19 true s21 w1)
  ((0 : Int) ≤ s21 ∧
  s21 < ((s9n : Nat) : Int) ∧
  opnA s9 fun ad2 =>
  (0 : Int) ≤ s19 ∧
  s19 < ((s7n : Nat) : Int) ∧
  opnA s7 fun ad3 =>
  opnI .i64 (w1.cell? ((ad2.add (Int.toNat s21 * 5)).add 0)) fun x4 =>
  opnI .i64 (w1.cell? ((ad2.add (Int.toNat s21 * 5)).add 1)) fun x5 =>
  opnI .i64 (w1.cell? ((ad2.add (Int.toNat s21 * 5)).add 2)) fun x6 =>
  opnI .i64 (w1.cell? ((ad2.add (Int.toNat s21 * 5)).add 3)) fun x7 =>
  opnB (w1.cell? ((ad2.add (Int.toNat s21 * 5)).add 4)) fun x8 =>
  opnI .i64 (w1.cell? ((ad3.add (Int.toNat s19 * 5)).add 0)) fun x9 =>
  opnI .i64 (w1.cell? ((ad3.add (Int.toNat s19 * 5)).add 1)) fun x10 =>
  opnI .i64 (w1.cell? ((ad3.add (Int.toNat s19 * 5)).add 2)) fun x11 =>
  opnI .i64 (w1.cell? ((ad3.add (Int.toNat s19 * 5)).add 3)) fun x12 =>
  opnB (w1.cell? ((ad3.add (Int.toNat s19 * 5)).add 4)) fun x13 =>
  semR PP (do eqGuard .eql 49 (.tmp 155) (.tmp 159) (.agg #[.int .i64 x4, .int .i64 x5, .int .i64 x6, .int .i64 x7, .bool x8]) (.agg #[.int .i64 x9, .int .i64 x10, .int .i64 x11, .int .i64 x12, .bool x13]); binOp .eql 49 (.agg #[.int .i64 x4, .int .i64 x5, .int .i64 x6, .int .i64 x7, .bool x8]) (.agg #[.int .i64 x9, .int .i64 x10, .int .i64 x11, .int .i64 x12, .bool x13])) w1 fun x14 =>
  opnB (some x14) fun x15 =>
  N_l10_TileCovers.j32 Q s7 s7n s7c s9 s9n s9c s11 s11n s11c s13 s16 s18 s19 x15 s21 w1))
  (cond s20
  (N_l10_TileCovers.j28 Q s7 s7n s7c s9 s9n s9c s11 s11n s11c s13 s16 s18 s19 w)
  (drw w fun w16 =>
  cond (decide (s18 ≥ ((s11n : Nat) : Int)))
  (N_l10_TileCovers.j36 Q w16)
  ((0 : Int) ≤ s18 ∧
  s18 < ((s11n : Nat) : Int) ∧
  opnA s11 fun ad17 =>
  (0 : Int) ≤ s19 ∧
  s19 < ((s7n : Nat) : Int) ∧
  opnA s7 fun ad18 =>
  opnI .i64 (w16.cell? ((ad17.add (Int.toNat s18 * 5)).add 0)) fun x19 =>
  opnI .i64 (w16.cell? ((ad17.add (Int.toNat s18 * 5)).add 1)) fun x20 =>
  opnI .i64 (w16.cell? ((ad17.add (Int.toNat s18 * 5)).add 2)) fun x21 =>
  opnI .i64 (w16.cell? ((ad17.add (Int.toNat s18 * 5)).add 3)) fun x22 =>
  opnB (w16.cell? ((ad17.add (Int.toNat s18 * 5)).add 4)) fun x23 =>
  opnI .i64 (w16.cell? ((ad18.add (Int.toNat s19 * 5)).add 0)) fun x24 =>
  opnI .i64 (w16.cell? ((ad18.add (Int.toNat s19 * 5)).add 1)) fun x25 =>
  opnI .i64 (w16.cell? ((ad18.add (Int.toNat s19 * 5)).add 2)) fun x26 =>
  opnI .i64 (w16.cell? ((ad18.add (Int.toNat s19 * 5)).add 3)) fun x27 =>
  opnB (w16.cell? ((ad18.add (Int.toNat s19 * 5)).add 4)) fun x28 =>
  semR PP (do eqGuard .neq 49 (.tmp 171) (.tmp 175) (.agg #[.int .i64 x19, .int .i64 x20, .int .i64 x21, .int .i64 x22, .bool x23]) (.agg #[.int .i64 x24, .int .i64 x25, .int .i64 x26, .int .i64 x27, .bool x28]); binOp .neq 49 (.agg #[.int .i64 x19, .int .i64 x20, .int .i64 x21, .int .i64 x22, .bool x23]) (.agg #[.int .i64 x24, .int .i64 x25, .int .i64 x26, .int .i64 x27, .bool x28])) w16 fun x29 =>
  opnB (some x29) fun x30 =>
  cond x30
  (N_l10_TileCovers.j36 Q w16)
  (N_l10_TileCovers.j28 Q s7 s7n s7c s9 s9n s9c s11 s11n s11c s13 s16 (IntKind.wrap .i64 (s18 + 1)) s19 w16))))) :
N_l10_TileCovers.j31 Q s7 s7n s7c s9 s9n s9c s11 s11n s11c s13 s16 s18 s19 s20 s21 w := Nd_fold K_l10_TileCovers (by kernel_rfl) h
theorem N_l10_TileCovers.j32_eq (Q : Value → World → Prop) (s7 : Option Addr) (s7n : Nat) (s7c : Nat) (s9 : Option Addr) (s9n : Nat) (s9c : Nat) (s11 : Option Addr) (s11n : Nat) (s11c : Nat) (s13 : Int) (s16 : Int) (s18 : Int) (s19 : Int) (s20 : Bool) (s21 : Int) (w : World) (h :
  N_l10_TileCovers.j31 Q s7 s7n s7c s9 s9n s9c s11 s11n s11c s13 s16 s18 s19 s20 (IntKind.wrap .i64 (s21 + 1)) w) :
N_l10_TileCovers.j32 Q s7 s7n s7c s9 s9n s9c s11 s11n s11c s13 s16 s18 s19 s20 s21 w := Nd_fold K_l10_TileCovers (by kernel_rfl) h
theorem N_l10_TileCovers.j36_eq (Q : Value → World → Prop) (w : World) (h :
  Q (.bool false) w) :
N_l10_TileCovers.j36 Q w := Nd_fold K_l10_TileCovers (by kernel_rfl) h
theorem C_l10_TileCovers_eq (Q : Value → World → Prop) (a0 : Int) (a1 : Int) (a2 : Int) (w : World) (h :
  C_l10_within #[.int .i64 a0, .int .i64 8] w fun v1 w2 =>
  opnI .i64 (some v1) fun x3 =>
  C_l10_within #[.int .i64 a2, .int .i64 600] w2 fun v4 w5 =>
  opnI .i64 (some v4) fun x6 =>
  C_l10_within #[.int .i64 a1, .int .i64 (IntKind.wrap .i64 (x6 + 1))] w5 fun v7 w8 =>
  opnI .i64 (some v7) fun x9 =>
  C_tile_All #[.int .i64 (IntKind.wrap .i64 (x3 + 1)), .int .i64 x6] w8 fun v10 w11 =>
  opnT (some v10) fun x12 =>
  x12.size = 2 ∧
  opnL (x12[0]?) fun x13 x13n x13c =>
  opnI .i64 (x12[1]?) fun x14 =>
  C_tile_All #[.int .i64 (IntKind.wrap .i64 (x3 + 1)), .int .i64 x9] w11 fun v15 w16 =>
  opnT (some v15) fun x17 =>
  x17.size = 2 ∧
  opnL (x17[0]?) fun x18 x18n x18c =>
  opnI .i64 (x17[1]?) fun x19 =>
  C_tile_Fresh #[.int .i64 (IntKind.wrap .i64 (x3 + 1)), .int .i64 x9, .int .i64 x6] w16 fun v20 w21 =>
  opnT (some v20) fun x22 =>
  x22.size = 2 ∧
  opnL (x22[0]?) fun x23 x23n x23c =>
  opnI .i64 (x22[1]?) fun x24 =>
  C_l10_num #[.int .i64 x14] w21 fun v25 w26 =>
  opnI .i64 (some v25) fun x27 =>
  cond (x27 != 0)
  (N_l10_TileCovers.j8 Q w26)
  (C_l10_num #[.int .i64 x19] w26 fun v28 w29 =>
  opnI .i64 (some v28) fun x30 =>
  cond (x30 != 0)
  (N_l10_TileCovers.j8 Q w29)
  (C_l10_num #[.int .i64 x24] w29 fun v31 w32 =>
  opnI .i64 (some v31) fun x33 =>
  cond (x33 != 0)
  (N_l10_TileCovers.j8 Q w32)
  (N_l10_TileCovers.j12 Q (IntKind.wrap .i64 (x3 + 1)) x13 x13n x13c x18 x18n x18c x23 x23n x23c 0 x6 0 w32)))) :
C_l10_TileCovers #[.int .i64 a0, .int .i64 a1, .int .i64 a2] w Q := C_fold K_l10_TileCovers (by kernel_rfl) h
/-! ### ledger/ledgerlaw10.TileNumbers -/
noncomputable def B_l10_TileNumbers : Code := match Try.f6.body with | some c => c | _ => .skip
noncomputable def X_l10_TileNumbers : Cx := { P := PP, fn := 6, N := 277, tab := tab, results := [.tmp 2], iter := fun _ => (.none, .none), dyn := fun _ => false, live := fun r => cond (Nat.beq r 4) (some []) (cond (Nat.beq r 8) (some []) (cond (Nat.beq r 12) (some []) (cond (Nat.beq r 16) (some []) (cond (Nat.beq r 20) (some [1, 9, 10, 11, 12, 13, 14]) (cond (Nat.beq r 27) (some []) (cond (Nat.beq r 29) (some [1, 9, 10, 11, 12, 13, 15, 16, 17, 18]) (cond (Nat.beq r 34) (some [1, 9, 10, 11, 12, 13, 15, 16, 17, 19]) (none)))))))) }
theorem K_l10_TileNumbers : OkF X_l10_TileNumbers B_l10_TileNumbers Try.f6 := ⟨⟨tab_ok, mix_ok⟩, Try.func6, by kernel_rfl, by kernel_rfl, by kernel_rfl, by kernel_rfl⟩
noncomputable def N_l10_TileNumbers.j4 (Q : Value → World → Prop) (w : World) : Prop := Nd X_l10_TileNumbers Q [] [.code (B_l10_TileNumbers.r.r.r.l.r.l.l), .code (B_l10_TileNumbers.r.r.r.l.r.l.r), .code (B_l10_TileNumbers.r.r.r.r)] w
noncomputable def N_l10_TileNumbers.j8 (Q : Value → World → Prop) (w : World) : Prop := Nd X_l10_TileNumbers Q [] [.code (B_l10_TileNumbers.r.r.r.r.r.r.l.r.l.l), .code (B_l10_TileNumbers.r.r.r.r.r.r.l.r.l.r), .code (B_l10_TileNumbers.r.r.r.r.r.r.r)] w
noncomputable def N_l10_TileNumbers.j12 (Q : Value → World → Prop) (w : World) : Prop := Nd X_l10_TileNumbers Q [] [.code (B_l10_TileNumbers.r.r.r.r.r.r.r.r.r.l.r.l.l), .code (B_l10_TileNumbers.r.r.r.r.r.r.r.r.r.l.r.l.r), .code (B_l10_TileNumbers.r.r.r.r.r.r.r.r.r.r)] w
noncomputable def N_l10_TileNumbers.j16 (Q : Value → World → Prop) (w : World) : Prop := Nd X_l10_TileNumbers Q [] [.code (B_l10_TileNumbers.r.r.r.r.r.r.r.r.r.r.r.r.l.r.l.l), .code (B_l10_TileNumbers.r.r.r.r.r.r.r.r.r.r.r.r.l.r.l.r), .code (B_l10_TileNumbers.r.r.r.r.r.r.r.r.r.r.r.r.r)] w
noncomputable def N_l10_TileNumbers.j20 (Q : Value → World → Prop) (s1 : Addr) (s9 : Option Addr) (s9n : Nat) (s9c : Nat) (s10 : Option Addr) (s10n : Nat) (s10c : Nat) (s11 : Option Addr) (s11n : Nat) (s11c : Nat) (s12 : Option Addr) (s12n : Nat) (s12c : Nat) (s13 : Option Addr) (s13n : Nat) (s13c : Nat) (s14 : Int) (w : World) : Prop := Nd X_l10_TileNumbers Q [(1, 1, .pointer (some s1)), (9, 9, .slice s9 s9n s9c), (10, 10, .slice s10 s10n s10c), (11, 11, .slice s11 s11n s11c), (12, 12, .slice s12 s12n s12c), (13, 13, .slice s13 s13n s13c), (14, 14, .int .i64 s14)] [.code (B_l10_TileNumbers.r.r.r.r.r.r.r.r.r.r.r.r.r.r.r.l.r.l.l.l.l), .code (B_l10_TileNumbers.r.r.r.r.r.r.r.r.r.r.r.r.r.r.r.l.r.l.l.l.r), .code (B_l10_TileNumbers.r.r.r.r.r.r.r.r.r.r.r.r.r.r.r.l.r.l.l.r), .inLoop (B_l10_TileNumbers.r.r.r.r.r.r.r.r.r.r.r.r.r.r.r.l.r.l.l), .inBlock 0, .code (B_l10_TileNumbers.r.r.r.r.r.r.r.r.r.r.r.r.r.r.r.r)] w
noncomputable def N_l10_TileNumbers.j27 (Q : Value → World → Prop) (w : World) : Prop := Nd X_l10_TileNumbers Q [] [.code (B_l10_TileNumbers.r.r.r.r.r.r.r.r.r.r.r.r.r.r.r.r.r.r.r.l.r.l.l), .code (B_l10_TileNumbers.r.r.r.r.r.r.r.r.r.r.r.r.r.r.r.r.r.r.r.l.r.l.r), .code (B_l10_TileNumbers.r.r.r.r.r.r.r.r.r.r.r.r.r.r.r.r.r.r.r.r)] w
noncomputable def N_l10_TileNumbers.j29 (Q : Value → World → Prop) (s1 : Addr) (s9 : Option Addr) (s9n : Nat) (s9c : Nat) (s10 : Option Addr) (s10n : Nat) (s10c : Nat) (s11 : Option Addr) (s11n : Nat) (s11c : Nat) (s12 : Option Addr) (s12n : Nat) (s12c : Nat) (s13 : Option Addr) (s13n : Nat) (s13c : Nat) (s15 : Option Addr) (s15n : Nat) (s15c : Nat) (s16 : Option Addr) (s16n : Nat) (s16c : Nat) (s17 : Option Addr) (s17n : Nat) (s17c : Nat) (s18 : Int) (w : World) : Prop := Nd X_l10_TileNumbers Q [(1, 1, .pointer (some s1)), (9, 9, .slice s9 s9n s9c), (10, 10, .slice s10 s10n s10c), (11, 11, .slice s11 s11n s11c), (12, 12, .slice s12 s12n s12c), (13, 13, .slice s13 s13n s13c), (15, 15, .slice s15 s15n s15c), (16, 16, .slice s16 s16n s16c), (17, 17, .slice s17 s17n s17c), (18, 18, .int .i64 s18)] [.code (B_l10_TileNumbers.r.r.r.r.r.r.r.r.r.r.r.r.r.r.r.r.r.r.r.r.l.r.l.l.l.l), .code (B_l10_TileNumbers.r.r.r.r.r.r.r.r.r.r.r.r.r.r.r.r.r.r.r.r.l.r.l.l.l.r), .code (B_l10_TileNumbers.r.r.r.r.r.r.r.r.r.r.r.r.r.r.r.r.r.r.r.r.l.r.l.l.r), .inLoop (B_l10_TileNumbers.r.r.r.r.r.r.r.r.r.r.r.r.r.r.r.r.r.r.r.r.l.r.l.l), .inBlock 2, .code (B_l10_TileNumbers.r.r.r.r.r.r.r.r.r.r.r.r.r.r.r.r.r.r.r.r.r)] w
noncomputable def N_l10_TileNumbers.j34 (Q : Value → World → Prop) (s1 : Addr) (s9 : Option Addr) (s9n : Nat) (s9c : Nat) (s10 : Option Addr) (s10n : Nat) (s10c : Nat) (s11 : Option Addr) (s11n : Nat) (s11c : Nat) (s12 : Option Addr) (s12n : Nat) (s12c : Nat) (s13 : Option Addr) (s13n : Nat) (s13c : Nat) (s15 : Option Addr) (s15n : Nat) (s15c : Nat) (s16 : Option Addr) (s16n : Nat) (s16c : Nat) (s17 : Option Addr) (s17n : Nat) (s17c : Nat) (s19 : Int) (w : World) : Prop := Nd X_l10_TileNumbers Q [(1, 1, .pointer (some s1)), (9, 9, .slice s9 s9n s9c), (10, 10, .slice s10 s10n s10c), (11, 11, .slice s11 s11n s11c), (12, 12, .slice s12 s12n s12c), (13, 13, .slice s13 s13n s13c), (15, 15, .slice s15 s15n s15c), (16, 16, .slice s16 s16n s16c), (17, 17, .slice s17 s17n s17c), (19, 19, .int .i64 s19)] [.code (B_l10_TileNumbers.r.r.r.r.r.r.r.r.r.r.r.r.r.r.r.r.r.r.r.r.r.l.r.l.l.l.l), .code (B_l10_TileNumbers.r.r.r.r.r.r.r.r.r.r.r.r.r.r.r.r.r.r.r.r.r.l.r.l.l.l.r), .code (B_l10_TileNumbers.r.r.r.r.r.r.r.r.r.r.r.r.r.r.r.r.r.r.r.r.r.l.r.l.l.r), .inLoop (B_l10_TileNumbers.r.r.r.r.r.r.r.r.r.r.r.r.r.r.r.r.r.r.r.r.r.l.r.l.l), .inBlock 4, .code (B_l10_TileNumbers.r.r.r.r.r.r.r.r.r.r.r.r.r.r.r.r.r.r.r.r.r.r)] w
theorem N_l10_TileNumbers.j4_eq (Q : Value → World → Prop) (w : World) (h :
  Q (.bool false) w) :
N_l10_TileNumbers.j4 Q w := Nd_fold K_l10_TileNumbers (by kernel_rfl) h
theorem N_l10_TileNumbers.j8_eq (Q : Value → World → Prop) (w : World) (h :
  Q (.bool false) w) :
N_l10_TileNumbers.j8 Q w := Nd_fold K_l10_TileNumbers (by kernel_rfl) h
theorem N_l10_TileNumbers.j12_eq (Q : Value → World → Prop) (w : World) (h :
  Q (.bool false) w) :
N_l10_TileNumbers.j12 Q w := Nd_fold K_l10_TileNumbers (by kernel_rfl) h
theorem N_l10_TileNumbers.j16_eq (Q : Value → World → Prop) (w : World) (h :
  Q (.bool false) w) :
N_l10_TileNumbers.j16 Q w := Nd_fold K_l10_TileNumbers (by kernel_rfl) h
theorem N_l10_TileNumbers.j20_eq (Q : Value → World → Prop) (s1 : Addr) (s9 : Option Addr) (s9n : Nat) (s9c : Nat) (s10 : Option Addr) (s10n : Nat) (s10c : Nat) (s11 : Option Addr) (s11n : Nat) (s11c : Nat) (s12 : Option Addr) (s12n : Nat) (s12c : Nat) (s13 : Option Addr) (s13n : Nat) (s13c : Nat) (s14 : Int) (w : World) (h :
  cond (decide (s14 < 80))
  (alC #[.int .i64 (-77)] 2 w fun p1 w2 =>
  sem PP (Builtin.append_ #[51, 51] 51 #[.slice s13 s13n s13c, .slice (some p1) 1 1]) w2 fun v3 w4 =>
  opnL (some v3) fun x5 x5n x5c =>
  N_l10_TileNumbers.j20 Q s1 s9 s9n s9c s10 s10n s10c s11 s11n s11c s12 s12n s12c x5 x5n x5c (IntKind.wrap .i64 (s14 + 1)) w4)
  (opnL (w.cell? (s1.add 6)) fun x6 x6n x6c =>
  (0 : Int) ≤ ((x6n : Nat) : Int) ∧
  ((x6n : Nat) : Int) ≤ ((s13c : Nat) : Int) ∧
  opnI .i64 (w.cell? (s1.add 0)) fun x7 =>
  opnI .i64 (w.cell? (s1.add 4)) fun x8 =>
  C_tile_Plan #[.int .i64 x7, .int .i64 x8, .slice (slA s13 0 s13c 1) ((Int.toNat ((x6n : Nat) : Int)) - 0) (s13c - 0)] w fun v9 w10 =>
  opnT (some v9) fun x11 =>
  x11.size = 2 ∧
  opnL (x11[0]?) fun x12 x12n x12c =>
  opnI .i64 (x11[1]?) fun x13 =>
  opnI .i64 (w10.cell? (s1.add 0)) fun x14 =>
  opnI .i64 (w10.cell? (s1.add 4)) fun x15 =>
  opnL (w10.cell? (s1.add 6)) fun x16 x16n x16c =>
  C_r10_Plan #[.int .i64 x14, .int .i64 x15, .slice x16 x16n x16c] w10 fun v17 w18 =>
  opnT (some v17) fun x19 =>
  x19.size = 2 ∧
  opnL (x19[0]?) fun x20 x20n x20c =>
  opnI .i64 (x19[1]?) fun x21 =>
  C_l10_alike #[.slice x12 x12n x12c, .slice x20 x20n x20c] w18 fun v22 w23 =>
  opnB (some v22) fun x24 =>
  cond (!x24)
  (N_l10_TileNumbers.j27 Q w23)
  (C_l10_num #[.int .i64 x13] w23 fun v25 w26 =>
  opnI .i64 (some v25) fun x27 =>
  cond (x27 != x21)
  (N_l10_TileNumbers.j27 Q w26)
  (N_l10_TileNumbers.j29 Q s1 s9 s9n s9c s10 s10n s10c s11 s11n s11c s12 s12n s12c s13 s13n s13c (slA s13 0 s13c 1) ((Int.toNat ((x6n : Nat) : Int)) - 0) (s13c - 0) x12 x12n x12c x20 x20n x20c 0 w26)))) :
N_l10_TileNumbers.j20 Q s1 s9 s9n s9c s10 s10n s10c s11 s11n s11c s12 s12n s12c s13 s13n s13c s14 w := Nd_fold K_l10_TileNumbers (by kernel_rfl) h
theorem N_l10_TileNumbers.j27_eq (Q : Value → World → Prop) (w : World) (h :
  Q (.bool false) w) :
N_l10_TileNumbers.j27 Q w := Nd_fold K_l10_TileNumbers (by kernel_rfl) h
theorem N_l10_TileNumbers.j29_eq (Q : Value → World → Prop) (s1 : Addr) (s9 : Option Addr) (s9n : Nat) (s9c : Nat) (s10 : Option Addr) (s10n : Nat) (s10c : Nat) (s11 : Option Addr) (s11n : Nat) (s11c : Nat) (s12 : Option Addr) (s12n : Nat) (s12c : Nat) (s13 : Option Addr) (s13n : Nat) (s13c : Nat) (s15 : Option Addr) (s15n : Nat) (s15c : Nat) (s16 : Option Addr) (s16n : Nat) (s16c : Nat) (s17 : Option Addr) (s17n : Nat) (s17c : Nat) (s18 : Int) (w : World) (h :
  cond (decide (s18 < ((s15n : Nat) : Int)))
  (drw w fun w1 =>
  (0 : Int) ≤ s18 ∧
  s18 < ((s15n : Nat) : Int) ∧
  opnA s15 fun ad2 =>
  opnI .i64 (w1.cell? (ad2.add (Int.toNat s18 * 1))) fun x3 =>
  opnL (w1.cell? (s1.add 6)) fun x4 x4n x4c =>
  (0 : Int) ≤ s18 ∧
  s18 < ((x4n : Nat) : Int) ∧
  opnA x4 fun ad5 =>
  opnI .i64 (w1.cell? (ad5.add (Int.toNat s18 * 1))) fun x6 =>
  cond (x3 != x6)
  (Q (.bool false) w1)
  (N_l10_TileNumbers.j29 Q s1 s9 s9n s9c s10 s10n s10c s11 s11n s11c s12 s12n s12c s13 s13n s13c s15 s15n s15c s16 s16n s16c s17 s17n s17c (IntKind.wrap .i64 (s18 + 1)) w1))
  (opnL (w.cell? (s1.add 6)) fun x7 x7n x7c =>
  N_l10_TileNumbers.j34 Q s1 s9 s9n s9c s10 s10n s10c s11 s11n s11c s12 s12n s12c s13 s13n s13c s15 s15n s15c s16 s16n s16c s17 s17n s17c ((x7n : Nat) : Int) w)) :
N_l10_TileNumbers.j29 Q s1 s9 s9n s9c s10 s10n s10c s11 s11n s11c s12 s12n s12c s13 s13n s13c s15 s15n s15c s16 s16n s16c s17 s17n s17c s18 w := Nd_fold K_l10_TileNumbers (by kernel_rfl) h
theorem N_l10_TileNumbers.j34_eq (Q : Value → World → Prop) (s1 : Addr) (s9 : Option Addr) (s9n : Nat) (s9c : Nat) (s10 : Option Addr) (s10n : Nat) (s10c : Nat) (s11 : Option Addr) (s11n : Nat) (s11c : Nat) (s12 : Option Addr) (s12n : Nat) (s12c : Nat) (s13 : Option Addr) (s13n : Nat) (s13c : Nat) (s15 : Option Addr) (s15n : Nat) (s15c : Nat) (s16 : Option Addr) (s16n : Nat) (s16c : Nat) (s17 : Option Addr) (s17n : Nat) (s17c : Nat) (s19 : Int) (w : World) (h :
  cond (decide (s19 < ((s13n : Nat) : Int)))
  ((0 : Int) ≤ s19 ∧
  s19 < ((s13n : Nat) : Int) ∧
  opnA s13 fun ad1 =>
  opnI .i64 (w.cell? (ad1.add (Int.toNat s19 * 1))) fun x2 =>
  cond (x2 != (-77))
  (Q (.bool false) w)
  (N_l10_TileNumbers.j34 Q s1 s9 s9n s9c s10 s10n s10c s11 s11n s11c s12 s12n s12c s13 s13n s13c s15 s15n s15c s16 s16n s16c s17 s17n s17c (IntKind.wrap .i64 (s19 + 1)) w))
  (C_l10_over #[.slice s16 s16n s16c, .int .i64 (-5)] w fun v3 w4 =>
  opnL (some v3) fun x5 x5n x5c =>
  C_l10_over #[.slice s9 s9n s9c, .int .i64 (-6)] w4 fun v6 w7 =>
  opnL (some v6) fun x8 x8n x8c =>
  C_l10_over #[.slice s11 s11n s11c, .int .i64 (-7)] w7 fun v9 w10 =>
  opnL (some v9) fun x11 x11n x11c =>
  opnI .i64 (w10.cell? (s1.add 0)) fun x12 =>
  opnI .i64 (w10.cell? (s1.add 4)) fun x13 =>
  C_tile_Plan #[.int .i64 x12, .int .i64 x13, .slice s15 s15n s15c] w10 fun v14 w15 =>
  opnT (some v14) fun x16 =>
  x16.size = 2 ∧
  opnL (x16[0]?) fun x17 x17n x17c =>
  opnI .i64 (x16[1]?) fun x18 =>
  opnI .i64 (w15.cell? (s1.add 0)) fun x19 =>
  opnI .i64 (w15.cell? (s1.add 4)) fun x20 =>
  C_tile_All #[.int .i64 x19, .int .i64 x20] w15 fun v21 w22 =>
  opnT (some v21) fun x23 =>
  x23.size = 2 ∧
  opnL (x23[0]?) fun x24 x24n x24c =>
  opnI .i64 (x23[1]?) fun x25 =>
  opnI .i64 (w22.cell? (s1.add 0)) fun x26 =>
  opnI .i64 (w22.cell? (s1.add 3)) fun x27 =>
  opnI .i64 (w22.cell? (s1.add 4)) fun x28 =>
  C_tile_Fresh #[.int .i64 x26, .int .i64 x27, .int .i64 x28] w22 fun v29 w30 =>
  opnT (some v29) fun x31 =>
  x31.size = 2 ∧
  opnL (x31[0]?) fun x32 x32n x32c =>
  opnI .i64 (x31[1]?) fun x33 =>
  C_l10_alike #[.slice x17 x17n x17c, .slice s17 s17n s17c] w30 fun v34 w35 =>
  opnB (some v34) fun x36 =>
  cond x36
  (C_l10_alike #[.slice x24 x24n x24c, .slice s10 s10n s10c] w35 fun v37 w38 =>
  opnB (some v37) fun x39 =>
  cond x39
  (C_l10_alike #[.slice x32 x32n x32c, .slice s12 s12n s12c] w38 fun v40 w41 =>
  opnB (some v40) fun x42 =>
  cond x42
  (C_l10_stay #[.slice x5 x5n x5c, .int .i64 (-5)] w41 fun v43 w44 =>
  opnB (some v43) fun x45 =>
  cond x45
  (C_l10_stay #[.slice x8 x8n x8c, .int .i64 (-6)] w44 fun v46 w47 =>
  opnB (some v46) fun x48 =>
  cond x48
  (C_l10_stay #[.slice x11 x11n x11c, .int .i64 (-7)] w47 fun v49 w50 =>
  opnB (some v49) fun x51 =>
  Q (.bool x51) w50)
  (Q (.bool false) w47))
  (Q (.bool false) w44))
  (Q (.bool false) w41))
  (Q (.bool false) w38))
  (Q (.bool false) w35))) :
N_l10_TileNumbers.j34 Q s1 s9 s9n s9c s10 s10n s10c s11 s11n s11c s12 s12n s12c s13 s13n s13c s15 s15n s15c s16 s16n s16c s17 s17n s17c s19 w := Nd_fold K_l10_TileNumbers (by kernel_rfl) h
theorem C_l10_TileNumbers_eq (Q : Value → World → Prop) (a0_0 : Int) (a0_1 : Int) (a0_2 : Int) (a0_3 : Int) (a0_4 : Int) (a0_5 : Int) (a0_6 : Option Addr) (a0_6n : Nat) (a0_6c : Nat) (w : World) (h :
  alC #[.int .i64 a0_0, .int .i64 a0_1, .int .i64 a0_2, .int .i64 a0_3, .int .i64 a0_4, .int .i64 a0_5, .slice a0_6 a0_6n a0_6c] 53 w fun p1 w2 =>
  opnI .i64 (w2.cell? (p1.add 0)) fun x3 =>
  opnI .i64 (w2.cell? (p1.add 5)) fun x4 =>
  C_tile_Of #[.int .i64 x3, .int .i64 x4] w2 fun v5 w6 =>
  opnT (some v5) fun x7 =>
  x7.size = 2 ∧
  opnG (x7[0]?) fun x8 =>
  x8.size = 5 ∧
  opnI .i64 (x8[0]?) fun x9 =>
  opnI .i64 (x8[1]?) fun x10 =>
  opnI .i64 (x8[2]?) fun x11 =>
  opnI .i64 (x8[3]?) fun x12 =>
  opnB (x8[4]?) fun x13 =>
  opnI .i64 (x7[1]?) fun x14 =>
  alC #[.int .i64 0, .int .i64 0, .int .i64 0, .int .i64 0, .bool false] 49 w6 fun p15 w16 =>
  Array.size (#[.int .i64 x9, .int .i64 x10, .int .i64 x11, .int .i64 x12, .bool x13] : Array Value) = 5 ∧
  stC (p15.add 0) (.int .i64 x9) w16 fun w17 =>
  stC (p15.add 1) (.int .i64 x10) w17 fun w18 =>
  stC (p15.add 2) (.int .i64 x11) w18 fun w19 =>
  stC (p15.add 3) (.int .i64 x12) w19 fun w20 =>
  stC (p15.add 4) (.bool x13) w20 fun w21 =>
  opnI .i64 (w21.cell? (p1.add 0)) fun x22 =>
  opnI .i64 (w21.cell? (p1.add 5)) fun x23 =>
  C_r10_Of #[.int .i64 x22, .int .i64 x23] w21 fun v24 w25 =>
  opnT (some v24) fun x26 =>
  x26.size = 2 ∧
  opnG (x26[0]?) fun x27 =>
  x27.size = 5 ∧
  opnI .i64 (x27[0]?) fun x28 =>
  opnI .i64 (x27[1]?) fun x29 =>
  opnI .i64 (x27[2]?) fun x30 =>
  opnI .i64 (x27[3]?) fun x31 =>
  opnB (x27[4]?) fun x32 =>
  opnI .i64 (x26[1]?) fun x33 =>
  alC #[.int .i64 0, .int .i64 0, .int .i64 0, .int .i64 0, .bool false] 56 w25 fun p34 w35 =>
  Array.size (#[.int .i64 x28, .int .i64 x29, .int .i64 x30, .int .i64 x31, .bool x32] : Array Value) = 5 ∧
  stC (p34.add 0) (.int .i64 x28) w35 fun w36 =>
  stC (p34.add 1) (.int .i64 x29) w36 fun w37 =>
  stC (p34.add 2) (.int .i64 x30) w37 fun w38 =>
  stC (p34.add 3) (.int .i64 x31) w38 fun w39 =>
  stC (p34.add 4) (.bool x32) w39 fun w40 =>
  drw w40 fun w41 =>
  opnI .i64 (w41.cell? (p15.add 0)) fun x42 =>
  opnI .i64 (w41.cell? (p15.add 1)) fun x43 =>
  opnI .i64 (w41.cell? (p15.add 2)) fun x44 =>
  opnI .i64 (w41.cell? (p15.add 3)) fun x45 =>
  opnB (w41.cell? (p15.add 4)) fun x46 =>
  opnI .i64 (w41.cell? (p34.add 0)) fun x47 =>
  opnI .i64 (w41.cell? (p34.add 1)) fun x48 =>
  opnI .i64 (w41.cell? (p34.add 2)) fun x49 =>
  opnI .i64 (w41.cell? (p34.add 3)) fun x50 =>
  opnB (w41.cell? (p34.add 4)) fun x51 =>
  C_l10_doc #[.agg #[.int .i64 x42, .int .i64 x43, .int .i64 x44, .int .i64 x45, .bool x46]] w41 fun v52 w53 =>
  opnG (some v52) fun x54 =>
  x54.size = 5 ∧
  opnI .i64 (x54[0]?) fun x55 =>
  opnI .i64 (x54[1]?) fun x56 =>
  opnI .i64 (x54[2]?) fun x57 =>
  opnI .i64 (x54[3]?) fun x58 =>
  opnB (x54[4]?) fun x59 =>
  (opnI .i64 (w53.cell? (p34.add 0)) fun x60 =>
  opnI .i64 (w53.cell? (p34.add 1)) fun x61 =>
  opnI .i64 (w53.cell? (p34.add 2)) fun x62 =>
  opnI .i64 (w53.cell? (p34.add 3)) fun x63 =>
  opnB (w53.cell? (p34.add 4)) fun x64 =>
  ((.agg #[.int .i64 x60, .int .i64 x61, .int .i64 x62, .int .i64 x63, .bool x64]) : Value) = .agg #[.int .i64 x47, .int .i64 x48, .int .i64 x49, .int .i64 x50, .bool x51]) ∧
  semR PP (do eqGuard .neq 56 (.tmp 46) (.tmp 47) (.agg #[.int .i64 x55, .int .i64 x56, .int .i64 x57, .int .i64 x58, .bool x59]) (.agg #[.int .i64 x47, .int .i64 x48, .int .i64 x49, .int .i64 x50, .bool x51]); binOp .neq 56 (.agg #[.int .i64 x55, .int .i64 x56, .int .i64 x57, .int .i64 x58, .bool x59]) (.agg #[.int .i64 x47, .int .i64 x48, .int .i64 x49, .int .i64 x50, .bool x51])) w53 fun x65 =>
  opnB (some x65) fun x66 =>
  cond x66
  (N_l10_TileNumbers.j4 Q w53)
  (C_l10_num #[.int .i64 x14] w53 fun v67 w68 =>
  opnI .i64 (some v67) fun x69 =>
  cond (x69 != x33)
  (N_l10_TileNumbers.j4 Q w68)
  (opnI .i64 (w68.cell? (p1.add 0)) fun x70 =>
  opnI .i64 (w68.cell? (p1.add 1)) fun x71 =>
  opnI .i64 (w68.cell? (p1.add 2)) fun x72 =>
  opnI .i64 (w68.cell? (p1.add 4)) fun x73 =>
  C_tile_Width #[.int .i64 x70, .int .i64 x71, .int .i64 x72, .int .i64 x73] w68 fun v74 w75 =>
  opnT (some v74) fun x76 =>
  x76.size = 2 ∧
  opnI .i64 (x76[0]?) fun x77 =>
  opnI .i64 (x76[1]?) fun x78 =>
  opnI .i64 (w75.cell? (p1.add 0)) fun x79 =>
  opnI .i64 (w75.cell? (p1.add 1)) fun x80 =>
  opnI .i64 (w75.cell? (p1.add 2)) fun x81 =>
  opnI .i64 (w75.cell? (p1.add 4)) fun x82 =>
  C_r10_Width #[.int .i64 x79, .int .i64 x80, .int .i64 x81, .int .i64 x82] w75 fun v83 w84 =>
  opnT (some v83) fun x85 =>
  x85.size = 2 ∧
  opnI .i64 (x85[0]?) fun x86 =>
  opnI .i64 (x85[1]?) fun x87 =>
  cond (x77 != x86)
  (N_l10_TileNumbers.j8 Q w84)
  (C_l10_num #[.int .i64 x78] w84 fun v88 w89 =>
  opnI .i64 (some v88) fun x90 =>
  cond (x90 != x87)
  (N_l10_TileNumbers.j8 Q w89)
  (opnI .i64 (w89.cell? (p1.add 0)) fun x91 =>
  opnI .i64 (w89.cell? (p1.add 4)) fun x92 =>
  C_tile_All #[.int .i64 x91, .int .i64 x92] w89 fun v93 w94 =>
  opnT (some v93) fun x95 =>
  x95.size = 2 ∧
  opnL (x95[0]?) fun x96 x96n x96c =>
  opnI .i64 (x95[1]?) fun x97 =>
  opnI .i64 (w94.cell? (p1.add 0)) fun x98 =>
  opnI .i64 (w94.cell? (p1.add 4)) fun x99 =>
  C_r10_All #[.int .i64 x98, .int .i64 x99] w94 fun v100 w101 =>
  opnT (some v100) fun x102 =>
  x102.size = 2 ∧
  opnL (x102[0]?) fun x103 x103n x103c =>
  opnI .i64 (x102[1]?) fun x104 =>
  C_l10_alike #[.slice x96 x96n x96c, .slice x103 x103n x103c] w101 fun v105 w106 =>
  opnB (some v105) fun x107 =>
  cond (!x107)
  (N_l10_TileNumbers.j12 Q w106)
  (C_l10_num #[.int .i64 x97] w106 fun v108 w109 =>
  opnI .i64 (some v108) fun x110 =>
  cond (x110 != x104)
  (N_l10_TileNumbers.j12 Q w109)
  (opnI .i64 (w109.cell? (p1.add 0)) fun x111 =>
  opnI .i64 (w109.cell? (p1.add 3)) fun x112 =>
  opnI .i64 (w109.cell? (p1.add 4)) fun x113 =>
  C_tile_Fresh #[.int .i64 x111, .int .i64 x112, .int .i64 x113] w109 fun v114 w115 =>
  opnT (some v114) fun x116 =>
  x116.size = 2 ∧
  opnL (x116[0]?) fun x117 x117n x117c =>
  opnI .i64 (x116[1]?) fun x118 =>
  opnI .i64 (w115.cell? (p1.add 0)) fun x119 =>
  opnI .i64 (w115.cell? (p1.add 3)) fun x120 =>
  opnI .i64 (w115.cell? (p1.add 4)) fun x121 =>
  C_r10_Fresh #[.int .i64 x119, .int .i64 x120, .int .i64 x121] w115 fun v122 w123 =>
  opnT (some v122) fun x124 =>
  x124.size = 2 ∧
  opnL (x124[0]?) fun x125 x125n x125c =>
  opnI .i64 (x124[1]?) fun x126 =>
  C_l10_alike #[.slice x117 x117n x117c, .slice x125 x125n x125c] w123 fun v127 w128 =>
  opnB (some v127) fun x129 =>
  cond (!x129)
  (N_l10_TileNumbers.j16 Q w128)
  (C_l10_num #[.int .i64 x118] w128 fun v130 w131 =>
  opnI .i64 (some v130) fun x132 =>
  cond (x132 != x126)
  (N_l10_TileNumbers.j16 Q w131)
  (opnL (w131.cell? (p1.add 6)) fun x133 x133n x133c =>
  sem PP (Builtin.append_ #[51, 51] 51 #[.slice none 0 0, .slice x133 x133n x133c]) w131 fun v134 w135 =>
  opnL (some v134) fun x136 x136n x136c =>
  N_l10_TileNumbers.j20 Q p1 x96 x96n x96c x103 x103n x103c x117 x117n x117c x125 x125n x125c x136 x136n x136c 0 w135))))))))) :
C_l10_TileNumbers #[.agg #[.int .i64 a0_0, .int .i64 a0_1, .int .i64 a0_2, .int .i64 a0_3, .int .i64 a0_4, .int .i64 a0_5, .slice a0_6 a0_6n a0_6c]] w Q := C_fold K_l10_TileNumbers (by kernel_rfl) h
/-! ### ledger/ledgerlaw10.lent -/
noncomputable def B_l10_lent : Code := match Try.f7.body with | some c => c | _ => .skip
noncomputable def X_l10_lent : Cx := { P := PP, fn := 7, N := 41, tab := tab, results := [.tmp 2], iter := fun _ => (.none, .none), dyn := fun _ => false, live := fun r => cond (Nat.beq r 3) (some [0, 3, 4]) (cond (Nat.beq r 7) (some [0, 3, 5]) (none)) }
theorem K_l10_lent : OkF X_l10_lent B_l10_lent Try.f7 := ⟨⟨tab_ok, mix_ok⟩, Try.func7, by kernel_rfl, by kernel_rfl, by kernel_rfl, by kernel_rfl⟩
noncomputable def N_l10_lent.j3 (Q : Value → World → Prop) (s0 : Option Addr) (s0n : Nat) (s0c : Nat) (s3 : Option Addr) (s3n : Nat) (s3c : Nat) (s4 : Int) (w : World) : Prop := Nd X_l10_lent Q [(0, 0, .slice s0 s0n s0c), (3, 3, .slice s3 s3n s3c), (4, 4, .int .i64 s4)] [.code (B_l10_lent.r.r.l.r.l.l.l.l), .code (B_l10_lent.r.r.l.r.l.l.l.r), .code (B_l10_lent.r.r.l.r.l.l.r), .inLoop (B_l10_lent.r.r.l.r.l.l), .inBlock 0, .code (B_l10_lent.r.r.r)] w
noncomputable def N_l10_lent.j7 (Q : Value → World → Prop) (s0 : Option Addr) (s0n : Nat) (s0c : Nat) (s3 : Option Addr) (s3n : Nat) (s3c : Nat) (s5 : Int) (w : World) : Prop := Nd X_l10_lent Q [(0, 0, .slice s0 s0n s0c), (3, 3, .slice s3 s3n s3c), (5, 5, .int .i64 s5)] [.code (B_l10_lent.r.r.r.l.r.l.l.l.l), .code (B_l10_lent.r.r.r.l.r.l.l.l.r), .code (B_l10_lent.r.r.r.l.r.l.l.r), .inLoop (B_l10_lent.r.r.r.l.r.l.l), .inBlock 2, .code (B_l10_lent.r.r.r.r)] w
theorem N_l10_lent.j3_eq (Q : Value → World → Prop) (s0 : Option Addr) (s0n : Nat) (s0c : Nat) (s3 : Option Addr) (s3n : Nat) (s3c : Nat) (s4 : Int) (w : World) (h :
  cond (decide (s4 < ((s0n : Nat) : Int)))
  ((0 : Int) ≤ s4 ∧
  s4 < ((s0n : Nat) : Int) ∧
  opnA s0 fun ad1 =>
  opnI .u8 (w.cell? (ad1.add (Int.toNat s4 * 1))) fun x2 =>
  (0 : Int) ≤ s4 ∧
  s4 < ((s3n : Nat) : Int) ∧
  opnA s3 fun ad3 =>
  stC (ad3.add (Int.toNat s4 * 1)) (.int .u8 x2) w fun w4 =>
  N_l10_lent.j3 Q s0 s0n s0c s3 s3n s3c (IntKind.wrap .i64 (s4 + 1)) w4)
  (N_l10_lent.j7 Q s0 s0n s0c s3 s3n s3c ((s0n : Nat) : Int) w)) :
N_l10_lent.j3 Q s0 s0n s0c s3 s3n s3c s4 w := Nd_fold K_l10_lent (by kernel_rfl) h
theorem N_l10_lent.j7_eq (Q : Value → World → Prop) (s0 : Option Addr) (s0n : Nat) (s0c : Nat) (s3 : Option Addr) (s3n : Nat) (s3c : Nat) (s5 : Int) (w : World) (h :
  cond (decide (s5 < ((s3n : Nat) : Int)))
  ((0 : Int) ≤ s5 ∧
  s5 < ((s3n : Nat) : Int) ∧
  opnA s3 fun ad1 =>
  stC (ad1.add (Int.toNat s5 * 1)) (.int .u8 (IntKind.wrap .u8 (IntKind.wrap .i64 ((IntKind.wrap .i64 (192 + s5)) - ((s0n : Nat) : Int))))) w fun w2 =>
  N_l10_lent.j7 Q s0 s0n s0c s3 s3n s3c (IntKind.wrap .i64 (s5 + 1)) w2)
  (Q (.slice s3 s3n s3c) w)) :
N_l10_lent.j7 Q s0 s0n s0c s3 s3n s3c s5 w := Nd_fold K_l10_lent (by kernel_rfl) h
theorem C_l10_lent_eq (Q : Value → World → Prop) (a0 : Option Addr) (a0n : Nat) (a0c : Nat) (w : World) (h :
  sem PP (Instr.makeSlice 23 (.int .i64 (IntKind.wrap .i64 (((a0n : Nat) : Int) + 200))) (.int .i64 (IntKind.wrap .i64 (((a0n : Nat) : Int) + 200)))) w fun v1 w2 =>
  opnL (some v1) fun x3 x3n x3c =>
  N_l10_lent.j3 Q a0 a0n a0c x3 x3n x3c 0 w2) :
C_l10_lent #[.slice a0 a0n a0c] w Q := C_fold K_l10_lent (by kernel_rfl) h
/-! ### ledger/tile.Join -/
noncomputable def B_tile_Join : Code := match Try.f8.body with | some c => c | _ => .skip
noncomputable def X_tile_Join : Cx := { P := PP, fn := 8, N := 39, tab := tab, results := [.tmp 2, .tmp 3], iter := fun _ => (.none, .none), dyn := fun _ => false, live := fun r => cond (Nat.beq r 5) (some [4, 10, 11, 12]) (none) }
theorem K_tile_Join : OkF X_tile_Join B_tile_Join Try.f8 := ⟨⟨tab_ok, mix_ok⟩, Try.func8, by kernel_rfl, by kernel_rfl, by kernel_rfl, by kernel_rfl⟩
noncomputable def N_tile_Join.j5 (Q : Value → World → Prop) (s4 : Option Addr) (s4n : Nat) (s4c : Nat) (s10 : Option Addr) (s10n : Nat) (s10c : Nat) (s11 : Int) (s12 : Int) (w : World) : Prop := Nd X_tile_Join Q [(4, 4, .slice s4 s4n s4c), (10, 10, .slice s10 s10n s10c), (11, 11, .int .i64 s11), (12, 12, .int .i64 s12)] [.code (B_tile_Join.r.r.r.l.r.l.l.l), .code (B_tile_Join.r.r.r.l.r.l.l.r), .inLoop (B_tile_Join.r.r.r.l.r.l.l), .inBlock 0, .code (B_tile_Join.r.r.r.r)] w
theorem N_tile_Join.j5_eq (Q : Value → World → Prop) (s4 : Option Addr) (s4n : Nat) (s4c : Nat) (s10 : Option Addr) (s10n : Nat) (s10c : Nat) (s11 : Int) (s12 : Int) (w : World) (h :
  cond (decide (s12 < s11))
  ((0 : Int) ≤ s12 ∧
  s12 < ((s10n : Nat) : Int) ∧
  opnA s10 fun ad1 =>
  opnL (w.cell? (ad1.add (Int.toNat s12 * 1))) fun x2 x2n x2c =>
  cond (decide (((x2n : Nat) : Int) > 1024))
  (Q (.tuple #[.slice none 0 0, .int .i64 2]) w)
  (alC #[.int .u8 (IntKind.wrap .u8 (shrI .i64 ((x2n : Nat) : Int) 8)), .int .u8 (IntKind.wrap .u8 ((x2n : Nat) : Int))] 5 w fun p3 w4 =>
  sem PP (Builtin.append_ #[23, 23] 23 #[.slice s4 s4n s4c, .slice (some p3) 2 2]) w4 fun v5 w6 =>
  opnL (some v5) fun x7 x7n x7c =>
  sem PP (Builtin.append_ #[23, 23] 23 #[.slice x7 x7n x7c, .slice x2 x2n x2c]) w6 fun v8 w9 =>
  opnL (some v8) fun x10 x10n x10c =>
  N_tile_Join.j5 Q x10 x10n x10c s10 s10n s10c s11 (IntKind.wrap .i64 (s12 + 1)) w9))
  ((0 : Int) ≤ ((s4n : Nat) : Int) ∧
  ((s4n : Nat) : Int) ≤ ((s4c : Nat) : Int) ∧
  (0 : Int) ≤ ((s4n : Nat) : Int) ∧
  ((s4n : Nat) : Int) ≤ ((s4n : Nat) : Int) ∧
  Q (.tuple #[.slice (slA s4 0 (Int.toNat ((s4n : Nat) : Int)) 1) ((Int.toNat ((s4n : Nat) : Int)) - 0) ((Int.toNat ((s4n : Nat) : Int)) - 0), .int .i64 0]) w)) :
N_tile_Join.j5 Q s4 s4n s4c s10 s10n s10c s11 s12 w := Nd_fold K_tile_Join (by kernel_rfl) h
theorem C_tile_Join_eq (Q : Value → World → Prop) (a0 : Option Addr) (a0n : Nat) (a0c : Nat) (w : World) (h :
  cond (decide (((a0n : Nat) : Int) > 256))
  (Q (.tuple #[.slice none 0 0, .int .i64 2]) w)
  (N_tile_Join.j5 Q none 0 0 a0 a0n a0c ((a0n : Nat) : Int) 0 w)) :
C_tile_Join #[.slice a0 a0n a0c] w Q := C_fold K_tile_Join (by kernel_rfl) h
/-! ### ledger/ledgerref10.Join -/
noncomputable def B_r10_Join : Code := match Try.f9.body with | some c => c | _ => .skip
noncomputable def X_r10_Join : Cx := { P := PP, fn := 9, N := 39, tab := tab, results := [.tmp 2, .tmp 3], iter := fun _ => (.none, .none), dyn := fun _ => false, live := fun r => cond (Nat.beq r 5) (some [0, 4, 5]) (none) }
theorem K_r10_Join : OkF X_r10_Join B_r10_Join Try.f9 := ⟨⟨tab_ok, mix_ok⟩, Try.func9, by kernel_rfl, by kernel_rfl, by kernel_rfl, by kernel_rfl⟩
noncomputable def N_r10_Join.j5 (Q : Value → World → Prop) (s0 : Option Addr) (s0n : Nat) (s0c : Nat) (s4 : Option Addr) (s4n : Nat) (s4c : Nat) (s5 : Int) (w : World) : Prop := Nd X_r10_Join Q [(0, 0, .slice s0 s0n s0c), (4, 4, .slice s4 s4n s4c), (5, 5, .int .i64 s5)] [.code (B_r10_Join.r.r.r.l.r.l.l.l.l), .code (B_r10_Join.r.r.r.l.r.l.l.l.r), .code (B_r10_Join.r.r.r.l.r.l.l.r), .inLoop (B_r10_Join.r.r.r.l.r.l.l), .inBlock 0, .code (B_r10_Join.r.r.r.r)] w
theorem N_r10_Join.j5_eq (Q : Value → World → Prop) (s0 : Option Addr) (s0n : Nat) (s0c : Nat) (s4 : Option Addr) (s4n : Nat) (s4c : Nat) (s5 : Int) (w : World) (h :
  cond (decide (s5 < ((s0n : Nat) : Int)))
  ((0 : Int) ≤ s5 ∧
  s5 < ((s0n : Nat) : Int) ∧
  opnA s0 fun ad1 =>
  opnL (w.cell? (ad1.add (Int.toNat s5 * 1))) fun x2 x2n x2c =>
  cond (decide (((x2n : Nat) : Int) > 1024))
  (Q (.tuple #[.slice none 0 0, .int .i64 2]) w)
  (256 ≠ (0 : Int) ∧
  256 ≠ (0 : Int) ∧
  alC #[.int .u8 (IntKind.wrap .u8 (IntKind.wrap .i64 (Int.tdiv ((x2n : Nat) : Int) 256))), .int .u8 (IntKind.wrap .u8 (Int.tmod ((x2n : Nat) : Int) 256))] 5 w fun p3 w4 =>
  sem PP (Builtin.append_ #[23, 23] 23 #[.slice s4 s4n s4c, .slice (some p3) 2 2]) w4 fun v5 w6 =>
  opnL (some v5) fun x7 x7n x7c =>
  (0 : Int) ≤ s5 ∧
  s5 < ((s0n : Nat) : Int) ∧
  opnA s0 fun ad8 =>
  opnL (w6.cell? (ad8.add (Int.toNat s5 * 1))) fun x9 x9n x9c =>
  sem PP (Builtin.append_ #[23, 23] 23 #[.slice x7 x7n x7c, .slice x9 x9n x9c]) w6 fun v10 w11 =>
  opnL (some v10) fun x12 x12n x12c =>
  N_r10_Join.j5 Q s0 s0n s0c x12 x12n x12c (IntKind.wrap .i64 (s5 + 1)) w11))
  (Q (.tuple #[.slice s4 s4n s4c, .int .i64 0]) w)) :
N_r10_Join.j5 Q s0 s0n s0c s4 s4n s4c s5 w := Nd_fold K_r10_Join (by kernel_rfl) h
theorem C_r10_Join_eq (Q : Value → World → Prop) (a0 : Option Addr) (a0n : Nat) (a0c : Nat) (w : World) (h :
  cond (decide (((a0n : Nat) : Int) > 256))
  (Q (.tuple #[.slice none 0 0, .int .i64 2]) w)
  (N_r10_Join.j5 Q a0 a0n a0c none 0 0 0 w)) :
C_r10_Join #[.slice a0 a0n a0c] w Q := C_fold K_r10_Join (by kernel_rfl) h
/-! ### ledger/ledgerlaw10.num -/
noncomputable def B_l10_num : Code := match Try.f10.body with | some c => c | _ => .skip
noncomputable def X_l10_num : Cx := { P := PP, fn := 10, N := 4, tab := tab, results := [.tmp 2], iter := fun _ => (.none, .none), dyn := fun _ => false, live := fun _ => none }
theorem K_l10_num : OkF X_l10_num B_l10_num Try.f10 := ⟨⟨tab_ok, mix_ok⟩, Try.func10, by kernel_rfl, by kernel_rfl, by kernel_rfl, by kernel_rfl⟩
theorem C_l10_num_eq (Q : Value → World → Prop) (a0 : Int) (w : World) (h :
  Q (.int .i64 a0) w) :
C_l10_num #[.int .i64 a0] w Q := C_fold K_l10_num (by kernel_rfl) h
/-! ### ledger/ledgerlaw10.owned -/
noncomputable def B_l10_owned : Code := match Try.f11.body with | some c => c | _ => .skip
noncomputable def X_l10_owned : Cx := { P := PP, fn := 11, N := 24, tab := tab, results := [.tmp 4], iter := fun _ => (.none, .none), dyn := fun _ => false, live := fun r => cond (Nat.beq r 2) (some [0, 1, 5]) (none) }
theorem K_l10_owned : OkF X_l10_owned B_l10_owned Try.f11 := ⟨⟨tab_ok, mix_ok⟩, Try.func11, by kernel_rfl, by kernel_rfl, by kernel_rfl, by kernel_rfl⟩
noncomputable def N_l10_owned.j2 (Q : Value → World → Prop) (s0 : Option Addr) (s0n : Nat) (s0c : Nat) (s1 : Int) (s5 : Int) (w : World) : Prop := Nd X_l10_owned Q [(0, 0, .slice s0 s0n s0c), (1, 1, .int .u8 s1), (5, 5, .int .i64 s5)] [.code (B_l10_owned.r.l.r.l.l.l.l), .code (B_l10_owned.r.l.r.l.l.l.r), .code (B_l10_owned.r.l.r.l.l.r), .inLoop (B_l10_owned.r.l.r.l.l), .inBlock 0, .code (B_l10_owned.r.r)] w
theorem N_l10_owned.j2_eq (Q : Value → World → Prop) (s0 : Option Addr) (s0n : Nat) (s0c : Nat) (s1 : Int) (s5 : Int) (w : World) (h :
  cond (decide (s5 < ((s0n : Nat) : Int)))
  ((0 : Int) ≤ s5 ∧
  s5 < ((s0n : Nat) : Int) ∧
  opnA s0 fun ad1 =>
  stC (ad1.add (Int.toNat s5 * 1)) (.int .u8 s1) w fun w2 =>
  N_l10_owned.j2 Q s0 s0n s0c s1 (IntKind.wrap .i64 (s5 + 1)) w2)
  (alC #[.int .u8 s1] 5 w fun p3 w4 =>
  sem PP (Builtin.append_ #[23, 23] 23 #[.slice s0 s0n s0c, .slice (some p3) 1 1]) w4 fun v5 w6 =>
  opnL (some v5) fun x7 x7n x7c =>
  alC #[.slice s0 s0n s0c, .slice x7 x7n x7c] 23 w6 fun p8 w9 =>
  Q (.slice (some p8) 2 2) w9)) :
N_l10_owned.j2 Q s0 s0n s0c s1 s5 w := Nd_fold K_l10_owned (by kernel_rfl) h
theorem C_l10_owned_eq (Q : Value → World → Prop) (a0 : Option Addr) (a0n : Nat) (a0c : Nat) (a1 : Int) (w : World) (h :
  N_l10_owned.j2 Q a0 a0n a0c a1 0 w) :
C_l10_owned #[.slice a0 a0n a0c, .int .u8 a1] w Q := C_fold K_l10_owned (by kernel_rfl) h
/-! ### ledger/ledgerlaw10.marked -/
noncomputable def B_l10_marked : Code := match Try.f12.body with | some c => c | _ => .skip
noncomputable def X_l10_marked : Cx := { P := PP, fn := 12, N := 31, tab := tab, results := [.tmp 4], iter := fun _ => (.none, .none), dyn := fun _ => false, live := fun r => cond (Nat.beq r 2) (some [0, 1, 5]) (cond (Nat.beq r 5) (some [0, 1, 5, 6]) (none)) }
theorem K_l10_marked : OkF X_l10_marked B_l10_marked Try.f12 := ⟨⟨tab_ok, mix_ok⟩, Try.func12, by kernel_rfl, by kernel_rfl, by kernel_rfl, by kernel_rfl⟩
noncomputable def N_l10_marked.j2 (Q : Value → World → Prop) (s0 : Option Addr) (s0n : Nat) (s0c : Nat) (s1 : Int) (s5 : Int) (w : World) : Prop := Nd X_l10_marked Q [(0, 0, .slice s0 s0n s0c), (1, 1, .int .u8 s1), (5, 5, .int .i64 s5)] [.code (B_l10_marked.r.l.r.l.l.l.l), .code (B_l10_marked.r.l.r.l.l.l.r), .code (B_l10_marked.r.l.r.l.l.r), .inLoop (B_l10_marked.r.l.r.l.l), .inBlock 0, .code (B_l10_marked.r.r)] w
noncomputable def N_l10_marked.j5 (Q : Value → World → Prop) (s0 : Option Addr) (s0n : Nat) (s0c : Nat) (s1 : Int) (s5 : Int) (s6 : Int) (w : World) : Prop := Nd X_l10_marked Q [(0, 0, .slice s0 s0n s0c), (1, 1, .int .u8 s1), (5, 5, .int .i64 s5), (6, 6, .int .i64 s6)] [.code (B_l10_marked.r.l.r.l.l.r.l.l.r.l.l.l.l), .code (B_l10_marked.r.l.r.l.l.r.l.l.r.l.l.l.r), .code (B_l10_marked.r.l.r.l.l.r.l.l.r.l.l.r), .inLoop (B_l10_marked.r.l.r.l.l.r.l.l.r.l.l), .inBlock 2, .inBlock 1, .code (B_l10_marked.r.l.r.l.l.r.r), .inLoop (B_l10_marked.r.l.r.l.l), .inBlock 0, .code (B_l10_marked.r.r)] w
theorem N_l10_marked.j2_eq (Q : Value → World → Prop) (s0 : Option Addr) (s0n : Nat) (s0c : Nat) (s1 : Int) (s5 : Int) (w : World) (h :
  cond (decide (s5 < ((s0n : Nat) : Int)))
  (N_l10_marked.j5 Q s0 s0n s0c s1 s5 0 w)
  (Q (.bool true) w)) :
N_l10_marked.j2 Q s0 s0n s0c s1 s5 w := Nd_fold K_l10_marked (by kernel_rfl) h
theorem N_l10_marked.j5_eq (Q : Value → World → Prop) (s0 : Option Addr) (s0n : Nat) (s0c : Nat) (s1 : Int) (s5 : Int) (s6 : Int) (w : World) (h :
  (0 : Int) ≤ s5 ∧
  s5 < ((s0n : Nat) : Int) ∧
  opnA s0 fun ad1 =>
  opnL (w.cell? (ad1.add (Int.toNat s5 * 1))) fun x2 x2n x2c =>
  cond (decide (s6 < ((x2n : Nat) : Int)))
  ((0 : Int) ≤ s5 ∧
  s5 < ((s0n : Nat) : Int) ∧
  opnA s0 fun ad3 =>
  opnL (w.cell? (ad3.add (Int.toNat s5 * 1))) fun x4 x4n x4c =>
  (0 : Int) ≤ s6 ∧
  s6 < ((x4n : Nat) : Int) ∧
  opnA x4 fun ad5 =>
  opnI .u8 (w.cell? (ad5.add (Int.toNat s6 * 1))) fun x6 =>
  cond (x6 != s1)
  (Q (.bool false) w)
  (N_l10_marked.j5 Q s0 s0n s0c s1 s5 (IntKind.wrap .i64 (s6 + 1)) w))
  (N_l10_marked.j2 Q s0 s0n s0c s1 (IntKind.wrap .i64 (s5 + 1)) w)) :
N_l10_marked.j5 Q s0 s0n s0c s1 s5 s6 w := Nd_fold K_l10_marked (by kernel_rfl) h
theorem C_l10_marked_eq (Q : Value → World → Prop) (a0 : Option Addr) (a0n : Nat) (a0c : Nat) (a1 : Int) (w : World) (h :
  N_l10_marked.j2 Q a0 a0n a0c a1 0 w) :
C_l10_marked #[.slice a0 a0n a0c, .int .u8 a1] w Q := C_fold K_l10_marked (by kernel_rfl) h
/-! ### ledger/ledgerlaw10.untouched -/
noncomputable def B_l10_untouched : Code := match Try.f13.body with | some c => c | _ => .skip
noncomputable def X_l10_untouched : Cx := { P := PP, fn := 13, N := 22, tab := tab, results := [.tmp 4], iter := fun _ => (.none, .none), dyn := fun _ => false, live := fun r => cond (Nat.beq r 2) (some [0, 1, 5]) (none) }
theorem K_l10_untouched : OkF X_l10_untouched B_l10_untouched Try.f13 := ⟨⟨tab_ok, mix_ok⟩, Try.func13, by kernel_rfl, by kernel_rfl, by kernel_rfl, by kernel_rfl⟩
noncomputable def N_l10_untouched.j2 (Q : Value → World → Prop) (s0 : Option Addr) (s0n : Nat) (s0c : Nat) (s1 : Option Addr) (s1n : Nat) (s1c : Nat) (s5 : Int) (w : World) : Prop := Nd X_l10_untouched Q [(0, 0, .slice s0 s0n s0c), (1, 1, .slice s1 s1n s1c), (5, 5, .int .i64 s5)] [.code (B_l10_untouched.r.l.r.l.l.l.l), .code (B_l10_untouched.r.l.r.l.l.l.r), .code (B_l10_untouched.r.l.r.l.l.r), .inLoop (B_l10_untouched.r.l.r.l.l), .inBlock 0, .code (B_l10_untouched.r.r)] w
theorem N_l10_untouched.j2_eq (Q : Value → World → Prop) (s0 : Option Addr) (s0n : Nat) (s0c : Nat) (s1 : Option Addr) (s1n : Nat) (s1c : Nat) (s5 : Int) (w : World) (h :
  cond (decide (s5 < ((s1n : Nat) : Int)))
  (drw w fun w1 =>
  (0 : Int) ≤ s5 ∧
  s5 < ((s0n : Nat) : Int) ∧
  opnA s0 fun ad2 =>
  (0 : Int) ≤ s5 ∧
  s5 < ((s1n : Nat) : Int) ∧
  opnA s1 fun ad3 =>
  opnL (w1.cell? (ad2.add (Int.toNat s5 * 1))) fun x4 x4n x4c =>
  opnL (w1.cell? (ad3.add (Int.toNat s5 * 1))) fun x5 x5n x5c =>
  C_l10_whole #[.slice x4 x4n x4c, .slice x5 x5n x5c] w1 fun v6 w7 =>
  opnB (some v6) fun x8 =>
  cond (!x8)
  (Q (.bool false) w7)
  (N_l10_untouched.j2 Q s0 s0n s0c s1 s1n s1c (IntKind.wrap .i64 (s5 + 1)) w7))
  (Q (.bool true) w)) :
N_l10_untouched.j2 Q s0 s0n s0c s1 s1n s1c s5 w := Nd_fold K_l10_untouched (by kernel_rfl) h
theorem C_l10_untouched_eq (Q : Value → World → Prop) (a0 : Option Addr) (a0n : Nat) (a0c : Nat) (a1 : Option Addr) (a1n : Nat) (a1c : Nat) (w : World) (h :
  N_l10_untouched.j2 Q a0 a0n a0c a1 a1n a1c 0 w) :
C_l10_untouched #[.slice a0 a0n a0c, .slice a1 a1n a1c] w Q := C_fold K_l10_untouched (by kernel_rfl) h
end Go.Proofs.Ytccjncflbbhldaa
