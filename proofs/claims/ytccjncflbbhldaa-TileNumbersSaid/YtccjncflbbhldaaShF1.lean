/- Functions' equations (printed by wip/gen/drive.py). -/
import Derived.Test.YtccjncflbbhldaaShT
set_option maxRecDepth 100000
namespace Go.Proofs.Ytccjncflbbhldaa
open Go.Sh
/-! ### ledger/tile.Cut -/
noncomputable def B_tile_Cut : Code := match Try.f14.body with | some c => c | _ => .skip
noncomputable def X_tile_Cut : Cx := { P := PP, fn := 14, N := 66, tab := tab, results := [.tmp 4, .tmp 5], iter := fun _ => (.none, .none), dyn := fun _ => false, live := fun r => cond (Nat.beq r 2) (some []) (cond (Nat.beq r 4) (some [0, 1, 6]) (cond (Nat.beq r 7) (some []) (cond (Nat.beq r 10) (some [0, 1, 6]) (cond (Nat.beq r 11) (some []) (cond (Nat.beq r 12) (some [6]) (none)))))) }
theorem K_tile_Cut : OkF X_tile_Cut B_tile_Cut Try.f14 := ⟨⟨tab_ok, mix_ok⟩, Try.func14, by kernel_rfl, by kernel_rfl, by kernel_rfl, by kernel_rfl⟩
noncomputable def N_tile_Cut.j2 (Q : Value → World → Prop) (w : World) : Prop := Nd X_tile_Cut Q [] [.code (B_tile_Cut.r.l.r.l.l), .code (B_tile_Cut.r.l.r.l.r), .code (B_tile_Cut.r.r)] w
noncomputable def N_tile_Cut.j4 (Q : Value → World → Prop) (s0 : Option Addr) (s0n : Nat) (s0c : Nat) (s1 : Int) (s6 : Option Addr) (s6n : Nat) (s6c : Nat) (w : World) : Prop := Nd X_tile_Cut Q [(0, 0, .slice s0 s0n s0c), (1, 1, .int .i64 s1), (6, 6, .slice s6 s6n s6c)] [.code (B_tile_Cut.r.r.r.l.l.l.l.l), .code (B_tile_Cut.r.r.r.l.l.l.l.r), .code (B_tile_Cut.r.r.r.l.l.l.r), .inLoop (B_tile_Cut.r.r.r.l.l.l), .inBlock 0, .code (B_tile_Cut.r.r.r.r)] w
noncomputable def N_tile_Cut.j7 (Q : Value → World → Prop) (w : World) : Prop := Nd X_tile_Cut Q [] [.code (B_tile_Cut.r.r.r.l.l.l.r.l.r.l.r.l.l), .code (B_tile_Cut.r.r.r.l.l.l.r.l.r.l.r.l.r), .code (B_tile_Cut.r.r.r.l.l.l.r.l.r.r), .inBlock 1, .inLoop (B_tile_Cut.r.r.r.l.l.l), .inBlock 0, .code (B_tile_Cut.r.r.r.r)] w
noncomputable def N_tile_Cut.j10 (Q : Value → World → Prop) (s0 : Option Addr) (s0n : Nat) (s0c : Nat) (s1 : Int) (s6 : Option Addr) (s6n : Nat) (s6c : Nat) (w : World) : Prop := Nd X_tile_Cut Q [(0, 0, .slice s0 s0n s0c), (1, 1, .int .i64 s1), (6, 6, .slice s6 s6n s6c)] [.code (B_tile_Cut.r.r.r.r.l.l), .code (B_tile_Cut.r.r.r.r.l.r), .code (B_tile_Cut.r.r.r.r.r)] w
noncomputable def N_tile_Cut.j11 (Q : Value → World → Prop) (w : World) : Prop := Nd X_tile_Cut Q [] [.code (B_tile_Cut.r.r.r.r.l.r.l.l), .code (B_tile_Cut.r.r.r.r.l.r.l.r), .code (B_tile_Cut.r.r.r.r.r)] w
noncomputable def N_tile_Cut.j12 (Q : Value → World → Prop) (s6 : Option Addr) (s6n : Nat) (s6c : Nat) (w : World) : Prop := Nd X_tile_Cut Q [(6, 6, .slice s6 s6n s6c)] [.code (B_tile_Cut.r.r.r.r.r.l), .code (B_tile_Cut.r.r.r.r.r.r)] w
theorem N_tile_Cut.j2_eq (Q : Value → World → Prop) (w : World) (h :
  Q (.tuple #[.slice none 0 0, .int .i64 1]) w) :
N_tile_Cut.j2 Q w := Nd_fold K_tile_Cut (by kernel_rfl) h
theorem N_tile_Cut.j4_eq (Q : Value → World → Prop) (s0 : Option Addr) (s0n : Nat) (s0c : Nat) (s1 : Int) (s6 : Option Addr) (s6n : Nat) (s6c : Nat) (w : World) (h :
  cond (decide (((s0n : Nat) : Int) ≥ 2))
  (cond (decide (((s6n : Nat) : Int) < s1))
  (drw w fun w1 =>
  (0 : Int) ≤ 0 ∧
  0 < ((s0n : Nat) : Int) ∧
  opnA s0 fun ad2 =>
  (0 : Int) ≤ 1 ∧
  1 < ((s0n : Nat) : Int) ∧
  opnA s0 fun ad3 =>
  opnI .u8 (w1.cell? (ad2.add (Int.toNat 0 * 1))) fun x4 =>
  opnI .u8 (w1.cell? (ad3.add (Int.toNat 1 * 1))) fun x5 =>
  cond (decide ((bits .or .i64 (shlI .i64 (IntKind.wrap .i64 x4) 8) (IntKind.wrap .i64 x5)) > 1024))
  (N_tile_Cut.j7 Q w1)
  (cond (decide ((bits .or .i64 (shlI .i64 (IntKind.wrap .i64 x4) 8) (IntKind.wrap .i64 x5)) > (IntKind.wrap .i64 (((s0n : Nat) : Int) - 2))))
  (N_tile_Cut.j7 Q w1)
  ((0 : Int) ≤ (IntKind.wrap .i64 (2 + (bits .or .i64 (shlI .i64 (IntKind.wrap .i64 x4) 8) (IntKind.wrap .i64 x5)))) ∧
  (IntKind.wrap .i64 (2 + (bits .or .i64 (shlI .i64 (IntKind.wrap .i64 x4) 8) (IntKind.wrap .i64 x5)))) ≤ ((s0c : Nat) : Int) ∧
  (0 : Int) ≤ 2 ∧
  2 ≤ (IntKind.wrap .i64 (2 + (bits .or .i64 (shlI .i64 (IntKind.wrap .i64 x4) 8) (IntKind.wrap .i64 x5)))) ∧
  sem PP (Builtin.append_ #[23, 23] 23 #[.slice none 0 0, .slice (slA s0 (Int.toNat 2) s0c 1) ((Int.toNat (IntKind.wrap .i64 (2 + (bits .or .i64 (shlI .i64 (IntKind.wrap .i64 x4) 8) (IntKind.wrap .i64 x5))))) - (Int.toNat 2)) (s0c - (Int.toNat 2))]) w1 fun v6 w7 =>
  opnL (some v6) fun x8 x8n x8c =>
  alC #[.slice x8 x8n x8c] 23 w7 fun p9 w10 =>
  sem PP (Builtin.append_ #[22, 22] 22 #[.slice s6 s6n s6c, .slice (some p9) 1 1]) w10 fun v11 w12 =>
  opnL (some v11) fun x13 x13n x13c =>
  (0 : Int) ≤ (IntKind.wrap .i64 (2 + (bits .or .i64 (shlI .i64 (IntKind.wrap .i64 x4) 8) (IntKind.wrap .i64 x5)))) ∧
  (IntKind.wrap .i64 (2 + (bits .or .i64 (shlI .i64 (IntKind.wrap .i64 x4) 8) (IntKind.wrap .i64 x5)))) ≤ ((s0n : Nat) : Int) ∧
  N_tile_Cut.j4 Q (slA s0 (Int.toNat (IntKind.wrap .i64 (2 + (bits .or .i64 (shlI .i64 (IntKind.wrap .i64 x4) 8) (IntKind.wrap .i64 x5))))) s0c 1) (s0n - (Int.toNat (IntKind.wrap .i64 (2 + (bits .or .i64 (shlI .i64 (IntKind.wrap .i64 x4) 8) (IntKind.wrap .i64 x5)))))) (s0c - (Int.toNat (IntKind.wrap .i64 (2 + (bits .or .i64 (shlI .i64 (IntKind.wrap .i64 x4) 8) (IntKind.wrap .i64 x5)))))) s1 x13 x13n x13c w12)))
  (N_tile_Cut.j10 Q s0 s0n s0c s1 s6 s6n s6c w))
  (N_tile_Cut.j10 Q s0 s0n s0c s1 s6 s6n s6c w)) :
N_tile_Cut.j4 Q s0 s0n s0c s1 s6 s6n s6c w := Nd_fold K_tile_Cut (by kernel_rfl) h
theorem N_tile_Cut.j7_eq (Q : Value → World → Prop) (w : World) (h :
  Q (.tuple #[.slice none 0 0, .int .i64 102]) w) :
N_tile_Cut.j7 Q w := Nd_fold K_tile_Cut (by kernel_rfl) h
theorem N_tile_Cut.j10_eq (Q : Value → World → Prop) (s0 : Option Addr) (s0n : Nat) (s0c : Nat) (s1 : Int) (s6 : Option Addr) (s6n : Nat) (s6c : Nat) (w : World) (h :
  cond (((s6n : Nat) : Int) != s1)
  (N_tile_Cut.j11 Q w)
  (cond (decide (((s0n : Nat) : Int) > 0))
  (N_tile_Cut.j11 Q w)
  (N_tile_Cut.j12 Q s6 s6n s6c w))) :
N_tile_Cut.j10 Q s0 s0n s0c s1 s6 s6n s6c w := Nd_fold K_tile_Cut (by kernel_rfl) h
theorem N_tile_Cut.j11_eq (Q : Value → World → Prop) (w : World) (h :
  Q (.tuple #[.slice none 0 0, .int .i64 102]) w) :
N_tile_Cut.j11 Q w := Nd_fold K_tile_Cut (by kernel_rfl) h
theorem N_tile_Cut.j12_eq (Q : Value → World → Prop) (s6 : Option Addr) (s6n : Nat) (s6c : Nat) (w : World) (h :
  Q (.tuple #[.slice s6 s6n s6c, .int .i64 0]) w) :
N_tile_Cut.j12 Q s6 s6n s6c w := Nd_fold K_tile_Cut (by kernel_rfl) h
theorem C_tile_Cut_eq (Q : Value → World → Prop) (a0 : Option Addr) (a0n : Nat) (a0c : Nat) (a1 : Int) (w : World) (h :
  cond (decide (a1 < 0))
  (N_tile_Cut.j2 Q w)
  (cond (decide (a1 > 256))
  (N_tile_Cut.j2 Q w)
  (sem PP (Instr.makeSlice 22 (.int .i64 0) (.int .i64 a1)) w fun v1 w2 =>
  opnL (some v1) fun x3 x3n x3c =>
  N_tile_Cut.j4 Q a0 a0n a0c a1 x3 x3n x3c w2))) :
C_tile_Cut #[.slice a0 a0n a0c, .int .i64 a1] w Q := C_fold K_tile_Cut (by kernel_rfl) h
/-! ### ledger/ledgerref10.Cut -/
noncomputable def B_r10_Cut : Code := match Try.f15.body with | some c => c | _ => .skip
noncomputable def X_r10_Cut : Cx := { P := PP, fn := 15, N := 72, tab := tab, results := [.tmp 4, .tmp 5], iter := fun _ => (.none, .none), dyn := fun _ => false, live := fun r => cond (Nat.beq r 2) (some []) (cond (Nat.beq r 6) (some [0, 1, 6, 7, 8]) (cond (Nat.beq r 13) (some []) (none))) }
theorem K_r10_Cut : OkF X_r10_Cut B_r10_Cut Try.f15 := ⟨⟨tab_ok, mix_ok⟩, Try.func15, by kernel_rfl, by kernel_rfl, by kernel_rfl, by kernel_rfl⟩
noncomputable def N_r10_Cut.j2 (Q : Value → World → Prop) (w : World) : Prop := Nd X_r10_Cut Q [] [.code (B_r10_Cut.r.l.r.l.l), .code (B_r10_Cut.r.l.r.l.r), .code (B_r10_Cut.r.r)] w
noncomputable def N_r10_Cut.j6 (Q : Value → World → Prop) (s0 : Option Addr) (s0n : Nat) (s0c : Nat) (s1 : Int) (s6 : Option Addr) (s6n : Nat) (s6c : Nat) (s7 : Int) (s8 : Int) (w : World) : Prop := Nd X_r10_Cut Q [(0, 0, .slice s0 s0n s0c), (1, 1, .int .i64 s1), (6, 6, .slice s6 s6n s6c), (7, 7, .int .i64 s7), (8, 8, .int .i64 s8)] [.code (B_r10_Cut.r.r.r.r.l.r.l.l.l.l), .code (B_r10_Cut.r.r.r.r.l.r.l.l.l.r), .code (B_r10_Cut.r.r.r.r.l.r.l.l.r), .inLoop (B_r10_Cut.r.r.r.r.l.r.l.l), .inBlock 0, .code (B_r10_Cut.r.r.r.r.r)] w
noncomputable def N_r10_Cut.j13 (Q : Value → World → Prop) (w : World) : Prop := Nd X_r10_Cut Q [] [.code (B_r10_Cut.r.r.r.r.l.r.l.l.r.l.l.r.r.r.l.r.l.l), .code (B_r10_Cut.r.r.r.r.l.r.l.l.r.l.l.r.r.r.l.r.l.r), .code (B_r10_Cut.r.r.r.r.l.r.l.l.r.l.l.r.r.r.r), .inBlock 1, .code (B_r10_Cut.r.r.r.r.l.r.l.l.r.r), .inLoop (B_r10_Cut.r.r.r.r.l.r.l.l), .inBlock 0, .code (B_r10_Cut.r.r.r.r.r)] w
theorem N_r10_Cut.j2_eq (Q : Value → World → Prop) (w : World) (h :
  Q (.tuple #[.slice none 0 0, .int .i64 1]) w) :
N_r10_Cut.j2 Q w := Nd_fold K_r10_Cut (by kernel_rfl) h
theorem N_r10_Cut.j6_eq (Q : Value → World → Prop) (s0 : Option Addr) (s0n : Nat) (s0c : Nat) (s1 : Int) (s6 : Option Addr) (s6n : Nat) (s6c : Nat) (s7 : Int) (s8 : Int) (w : World) (h :
  cond (decide (s8 < s1))
  (cond (decide ((IntKind.wrap .i64 (s7 + 2)) > ((s0n : Nat) : Int)))
  (Q (.tuple #[.slice none 0 0, .int .i64 102]) w)
  (drw w fun w1 =>
  (0 : Int) ≤ s7 ∧
  s7 < ((s0n : Nat) : Int) ∧
  opnA s0 fun ad2 =>
  (0 : Int) ≤ IntKind.wrap .i64 (s7 + 1) ∧
  (IntKind.wrap .i64 (s7 + 1)) < ((s0n : Nat) : Int) ∧
  opnA s0 fun ad3 =>
  opnI .u8 (w1.cell? (ad2.add (Int.toNat s7 * 1))) fun x4 =>
  opnI .u8 (w1.cell? (ad3.add (Int.toNat (IntKind.wrap .i64 (s7 + 1)) * 1))) fun x5 =>
  cond (decide ((IntKind.wrap .i64 ((IntKind.wrap .i64 ((IntKind.wrap .i64 x4) * 256)) + (IntKind.wrap .i64 x5))) > 1024))
  (N_r10_Cut.j13 Q w1)
  (cond (decide ((IntKind.wrap .i64 ((IntKind.wrap .i64 (s7 + 2)) + (IntKind.wrap .i64 ((IntKind.wrap .i64 ((IntKind.wrap .i64 x4) * 256)) + (IntKind.wrap .i64 x5))))) > ((s0n : Nat) : Int)))
  (N_r10_Cut.j13 Q w1)
  ((0 : Int) ≤ (IntKind.wrap .i64 ((IntKind.wrap .i64 (s7 + 2)) + (IntKind.wrap .i64 ((IntKind.wrap .i64 ((IntKind.wrap .i64 x4) * 256)) + (IntKind.wrap .i64 x5))))) ∧
  (IntKind.wrap .i64 ((IntKind.wrap .i64 (s7 + 2)) + (IntKind.wrap .i64 ((IntKind.wrap .i64 ((IntKind.wrap .i64 x4) * 256)) + (IntKind.wrap .i64 x5))))) ≤ ((s0c : Nat) : Int) ∧
  (0 : Int) ≤ (IntKind.wrap .i64 (s7 + 2)) ∧
  (IntKind.wrap .i64 (s7 + 2)) ≤ (IntKind.wrap .i64 ((IntKind.wrap .i64 (s7 + 2)) + (IntKind.wrap .i64 ((IntKind.wrap .i64 ((IntKind.wrap .i64 x4) * 256)) + (IntKind.wrap .i64 x5))))) ∧
  sem PP (Builtin.append_ #[23, 23] 23 #[.slice none 0 0, .slice (slA s0 (Int.toNat (IntKind.wrap .i64 (s7 + 2))) s0c 1) ((Int.toNat (IntKind.wrap .i64 ((IntKind.wrap .i64 (s7 + 2)) + (IntKind.wrap .i64 ((IntKind.wrap .i64 ((IntKind.wrap .i64 x4) * 256)) + (IntKind.wrap .i64 x5)))))) - (Int.toNat (IntKind.wrap .i64 (s7 + 2)))) (s0c - (Int.toNat (IntKind.wrap .i64 (s7 + 2))))]) w1 fun v6 w7 =>
  opnL (some v6) fun x8 x8n x8c =>
  alC #[.slice x8 x8n x8c] 23 w7 fun p9 w10 =>
  sem PP (Builtin.append_ #[22, 22] 22 #[.slice s6 s6n s6c, .slice (some p9) 1 1]) w10 fun v11 w12 =>
  opnL (some v11) fun x13 x13n x13c =>
  N_r10_Cut.j6 Q s0 s0n s0c s1 x13 x13n x13c (IntKind.wrap .i64 ((IntKind.wrap .i64 (s7 + 2)) + (IntKind.wrap .i64 ((IntKind.wrap .i64 ((IntKind.wrap .i64 x4) * 256)) + (IntKind.wrap .i64 x5))))) (IntKind.wrap .i64 (s8 + 1)) w12))))
  (cond (s7 != ((s0n : Nat) : Int))
  (Q (.tuple #[.slice none 0 0, .int .i64 102]) w)
  (Q (.tuple #[.slice s6 s6n s6c, .int .i64 0]) w))) :
N_r10_Cut.j6 Q s0 s0n s0c s1 s6 s6n s6c s7 s8 w := Nd_fold K_r10_Cut (by kernel_rfl) h
theorem N_r10_Cut.j13_eq (Q : Value → World → Prop) (w : World) (h :
  Q (.tuple #[.slice none 0 0, .int .i64 102]) w) :
N_r10_Cut.j13 Q w := Nd_fold K_r10_Cut (by kernel_rfl) h
theorem C_r10_Cut_eq (Q : Value → World → Prop) (a0 : Option Addr) (a0n : Nat) (a0c : Nat) (a1 : Int) (w : World) (h :
  cond (decide (a1 < 0))
  (N_r10_Cut.j2 Q w)
  (cond (decide (a1 > 256))
  (N_r10_Cut.j2 Q w)
  (N_r10_Cut.j6 Q a0 a0n a0c a1 none 0 0 0 0 w))) :
C_r10_Cut #[.slice a0 a0n a0c, .int .i64 a1] w Q := C_fold K_r10_Cut (by kernel_rfl) h
/-! ### ledger/ledgerlaw10.lists -/
noncomputable def B_l10_lists : Code := match Try.f16.body with | some c => c | _ => .skip
noncomputable def X_l10_lists : Cx := { P := PP, fn := 16, N := 28, tab := tab, results := [.tmp 4], iter := fun _ => (.none, .none), dyn := fun _ => false, live := fun r => cond (Nat.beq r 4) (some [0, 1, 5]) (none) }
theorem K_l10_lists : OkF X_l10_lists B_l10_lists Try.f16 := ⟨⟨tab_ok, mix_ok⟩, Try.func16, by kernel_rfl, by kernel_rfl, by kernel_rfl, by kernel_rfl⟩
noncomputable def N_l10_lists.j4 (Q : Value → World → Prop) (s0 : Option Addr) (s0n : Nat) (s0c : Nat) (s1 : Option Addr) (s1n : Nat) (s1c : Nat) (s5 : Int) (w : World) : Prop := Nd X_l10_lists Q [(0, 0, .slice s0 s0n s0c), (1, 1, .slice s1 s1n s1c), (5, 5, .int .i64 s5)] [.code (B_l10_lists.r.r.l.r.l.l.l.l), .code (B_l10_lists.r.r.l.r.l.l.l.r), .code (B_l10_lists.r.r.l.r.l.l.r), .inLoop (B_l10_lists.r.r.l.r.l.l), .inBlock 0, .code (B_l10_lists.r.r.r)] w
theorem N_l10_lists.j4_eq (Q : Value → World → Prop) (s0 : Option Addr) (s0n : Nat) (s0c : Nat) (s1 : Option Addr) (s1n : Nat) (s1c : Nat) (s5 : Int) (w : World) (h :
  cond (decide (s5 < ((s0n : Nat) : Int)))
  (drw w fun w1 =>
  (0 : Int) ≤ s5 ∧
  s5 < ((s0n : Nat) : Int) ∧
  opnA s0 fun ad2 =>
  (0 : Int) ≤ s5 ∧
  s5 < ((s1n : Nat) : Int) ∧
  opnA s1 fun ad3 =>
  opnL (w1.cell? (ad2.add (Int.toNat s5 * 1))) fun x4 x4n x4c =>
  semR PP (convert 23 9 (.slice x4 x4n x4c)) w1 fun x5 =>
  opnS (some x5) fun x6 =>
  opnL (w1.cell? (ad3.add (Int.toNat s5 * 1))) fun x7 x7n x7c =>
  semR PP (convert 23 9 (.slice x7 x7n x7c)) w1 fun x8 =>
  opnS (some x8) fun x9 =>
  cond (!(x6.toList == x9.toList))
  (Q (.bool false) w1)
  (N_l10_lists.j4 Q s0 s0n s0c s1 s1n s1c (IntKind.wrap .i64 (s5 + 1)) w1))
  (Q (.bool true) w)) :
N_l10_lists.j4 Q s0 s0n s0c s1 s1n s1c s5 w := Nd_fold K_l10_lists (by kernel_rfl) h
theorem C_l10_lists_eq (Q : Value → World → Prop) (a0 : Option Addr) (a0n : Nat) (a0c : Nat) (a1 : Option Addr) (a1n : Nat) (a1c : Nat) (w : World) (h :
  cond (((a0n : Nat) : Int) != ((a1n : Nat) : Int))
  (Q (.bool false) w)
  (N_l10_lists.j4 Q a0 a0n a0c a1 a1n a1c 0 w)) :
C_l10_lists #[.slice a0 a0n a0c, .slice a1 a1n a1c] w Q := C_fold K_l10_lists (by kernel_rfl) h
/-! ### ledger/ledgerlaw10.whole -/
noncomputable def B_l10_whole : Code := match Try.f17.body with | some c => c | _ => .skip
noncomputable def X_l10_whole : Cx := { P := PP, fn := 17, N := 11, tab := tab, results := [.tmp 4], iter := fun _ => (.none, .none), dyn := fun _ => false, live := fun _ => none }
theorem K_l10_whole : OkF X_l10_whole B_l10_whole Try.f17 := ⟨⟨tab_ok, mix_ok⟩, Try.func17, by kernel_rfl, by kernel_rfl, by kernel_rfl, by kernel_rfl⟩
theorem C_l10_whole_eq (Q : Value → World → Prop) (a0 : Option Addr) (a0n : Nat) (a0c : Nat) (a1 : Option Addr) (a1n : Nat) (a1c : Nat) (w : World) (h :
  drw w fun w1 =>
  semR PP (convert 23 9 (.slice a0 a0n a0c)) w1 fun x2 =>
  opnS (some x2) fun x3 =>
  C_l10_lent #[.slice a1 a1n a1c] w1 fun v4 w5 =>
  opnL (some v4) fun x6 x6n x6c =>
  (semR PP (convert 23 9 (.slice a0 a0n a0c)) w5 fun x7 =>
  opnS (some x7) fun x8 =>
  ((.string x8) : Value) = .string x3) ∧
  semR PP (convert 23 9 (.slice x6 x6n x6c)) w5 fun x9 =>
  opnS (some x9) fun x10 =>
  Q (.bool (x3.toList == x10.toList)) w5) :
C_l10_whole #[.slice a0 a0n a0c, .slice a1 a1n a1c] w Q := C_fold K_l10_whole (by kernel_rfl) h
/-! ### ledger/ledgerlaw10.within -/
noncomputable def B_l10_within : Code := match Try.f18.body with | some c => c | _ => .skip
noncomputable def X_l10_within : Cx := { P := PP, fn := 18, N := 12, tab := tab, results := [.tmp 4], iter := fun _ => (.none, .none), dyn := fun _ => false, live := fun _ => none }
theorem K_l10_within : OkF X_l10_within B_l10_within Try.f18 := ⟨⟨tab_ok, mix_ok⟩, Try.func18, by kernel_rfl, by kernel_rfl, by kernel_rfl, by kernel_rfl⟩
theorem C_l10_within_eq (Q : Value → World → Prop) (a0 : Int) (a1 : Int) (w : World) (h :
  a1 ≠ (0 : Int) ∧
  a1 ≠ (0 : Int) ∧
  Q (.int .i64 (Int.tmod (IntKind.wrap .i64 ((Int.tmod a0 a1) + a1)) a1)) w) :
C_l10_within #[.int .i64 a0, .int .i64 a1] w Q := C_fold K_l10_within (by kernel_rfl) h
/-! ### ledger/tile.All -/
noncomputable def B_tile_All : Code := match Try.f19.body with | some c => c | _ => .skip
noncomputable def X_tile_All : Cx := { P := PP, fn := 19, N := 11, tab := tab, results := [.tmp 4, .tmp 5], iter := fun _ => (.none, .none), dyn := fun _ => false, live := fun _ => none }
theorem K_tile_All : OkF X_tile_All B_tile_All Try.f19 := ⟨⟨tab_ok, mix_ok⟩, Try.func19, by kernel_rfl, by kernel_rfl, by kernel_rfl, by kernel_rfl⟩
theorem C_tile_All_eq (Q : Value → World → Prop) (a0 : Int) (a1 : Int) (w : World) (h :
  C_tile_Fresh #[.int .i64 a0, .int .i64 0, .int .i64 a1] w fun v1 w2 =>
  opnT (some v1) fun x3 =>
  x3.size = 2 ∧
  opnL (x3[0]?) fun x4 x4n x4c =>
  opnI .i64 (x3[1]?) fun x5 =>
  Q (.tuple #[.slice x4 x4n x4c, .int .i64 x5]) w2) :
C_tile_All #[.int .i64 a0, .int .i64 a1] w Q := C_fold K_tile_All (by kernel_rfl) h
/-! ### ledger/tile.Fresh -/
noncomputable def B_tile_Fresh : Code := match Try.f20.body with | some c => c | _ => .skip
noncomputable def X_tile_Fresh : Cx := { P := PP, fn := 20, N := 86, tab := tab, results := [.tmp 6, .tmp 7], iter := fun _ => (.none, .none), dyn := fun _ => false, live := fun r => cond (Nat.beq r 2) (some []) (cond (Nat.beq r 5) (some [0, 1, 2, 8, 9]) (cond (Nat.beq r 13) (some [0, 1, 2, 12, 13]) (cond (Nat.beq r 17) (some [0, 1, 2, 12, 13, 15, 16]) (none)))) }
theorem K_tile_Fresh : OkF X_tile_Fresh B_tile_Fresh Try.f20 := ⟨⟨tab_ok, mix_ok⟩, Try.func20, by kernel_rfl, by kernel_rfl, by kernel_rfl, by kernel_rfl⟩
noncomputable def N_tile_Fresh.j2 (Q : Value → World → Prop) (w : World) : Prop := Nd X_tile_Fresh Q [] [.code (B_tile_Fresh.r.l.r.l.l), .code (B_tile_Fresh.r.l.r.l.r), .code (B_tile_Fresh.r.r)] w
noncomputable def N_tile_Fresh.j5 (Q : Value → World → Prop) (s0 : Int) (s1 : Int) (s2 : Int) (s8 : Int) (s9 : Int) (w : World) : Prop := Nd X_tile_Fresh Q [(0, 0, .int .i64 s0), (1, 1, .int .i64 s1), (2, 2, .int .i64 s2), (8, 8, .int .i64 s8), (9, 9, .int .i64 s9)] [.code (B_tile_Fresh.r.r.r.l.r.l.l.l.l), .code (B_tile_Fresh.r.r.r.l.r.l.l.l.r), .code (B_tile_Fresh.r.r.r.l.r.l.l.r), .inLoop (B_tile_Fresh.r.r.r.l.r.l.l), .inBlock 0, .code (B_tile_Fresh.r.r.r.r)] w
noncomputable def N_tile_Fresh.j13 (Q : Value → World → Prop) (s0 : Int) (s1 : Int) (s2 : Int) (s12 : Option Addr) (s12n : Nat) (s12c : Nat) (s13 : Int) (w : World) : Prop := Nd X_tile_Fresh Q [(0, 0, .int .i64 s0), (1, 1, .int .i64 s1), (2, 2, .int .i64 s2), (12, 12, .slice s12 s12n s12c), (13, 13, .int .i64 s13)] [.code (B_tile_Fresh.r.r.r.r.r.r.l.r.l.l.l.l), .code (B_tile_Fresh.r.r.r.r.r.r.l.r.l.l.l.r), .code (B_tile_Fresh.r.r.r.r.r.r.l.r.l.l.r), .inLoop (B_tile_Fresh.r.r.r.r.r.r.l.r.l.l), .inBlock 2, .code (B_tile_Fresh.r.r.r.r.r.r.r)] w
noncomputable def N_tile_Fresh.j17 (Q : Value → World → Prop) (s0 : Int) (s1 : Int) (s2 : Int) (s12 : Option Addr) (s12n : Nat) (s12c : Nat) (s13 : Int) (s15 : Int) (s16 : Int) (w : World) : Prop := Nd X_tile_Fresh Q [(0, 0, .int .i64 s0), (1, 1, .int .i64 s1), (2, 2, .int .i64 s2), (12, 12, .slice s12 s12n s12c), (13, 13, .int .i64 s13), (15, 15, .int .i64 s15), (16, 16, .int .i64 s16)] [.code (B_tile_Fresh.r.r.r.r.r.r.l.r.l.l.r.l.l.r.r.l.l.l.l), .code (B_tile_Fresh.r.r.r.r.r.r.l.r.l.l.r.l.l.r.r.l.l.l.r), .code (B_tile_Fresh.r.r.r.r.r.r.l.r.l.l.r.l.l.r.r.l.l.r), .inLoop (B_tile_Fresh.r.r.r.r.r.r.l.r.l.l.r.l.l.r.r.l.l), .inBlock 4, .inBlock 3, .code (B_tile_Fresh.r.r.r.r.r.r.l.r.l.l.r.r), .inLoop (B_tile_Fresh.r.r.r.r.r.r.l.r.l.l), .inBlock 2, .code (B_tile_Fresh.r.r.r.r.r.r.r)] w
theorem N_tile_Fresh.j2_eq (Q : Value → World → Prop) (w : World) (h :
  Q (.tuple #[.slice none 0 0, .int .i64 1]) w) :
N_tile_Fresh.j2 Q w := Nd_fold K_tile_Fresh (by kernel_rfl) h
theorem N_tile_Fresh.j5_eq (Q : Value → World → Prop) (s0 : Int) (s1 : Int) (s2 : Int) (s8 : Int) (s9 : Int) (w : World) (h :
  s0 ≠ (0 : Int) ∧
  cond (decide (s9 ≤ (IntKind.wrap .i64 (Int.tdiv 48 s0))))
  (C_tile_span #[.int .i64 s0, .int .i64 s9, .int .i64 s1, .int .i64 s2] w fun v1 w2 =>
  opnT (some v1) fun x3 =>
  x3.size = 2 ∧
  opnI .i64 (x3[0]?) fun x4 =>
  opnI .i64 (x3[1]?) fun x5 =>
  N_tile_Fresh.j5 Q s0 s1 s2 (IntKind.wrap .i64 (s8 + (IntKind.wrap .i64 (x5 - x4)))) (IntKind.wrap .i64 (s9 + 1)) w2)
  (cond (decide (s8 > 65536))
  (Q (.tuple #[.slice none 0 0, .int .i64 2]) w)
  (sem PP (Instr.makeSlice 42 (.int .i64 0) (.int .i64 s8)) w fun v6 w7 =>
  opnL (some v6) fun x8 x8n x8c =>
  N_tile_Fresh.j13 Q s0 s1 s2 x8 x8n x8c 0 w7))) :
N_tile_Fresh.j5 Q s0 s1 s2 s8 s9 w := Nd_fold K_tile_Fresh (by kernel_rfl) h
theorem N_tile_Fresh.j13_eq (Q : Value → World → Prop) (s0 : Int) (s1 : Int) (s2 : Int) (s12 : Option Addr) (s12n : Nat) (s12c : Nat) (s13 : Int) (w : World) (h :
  s0 ≠ (0 : Int) ∧
  cond (decide (s13 ≤ (IntKind.wrap .i64 (Int.tdiv 48 s0))))
  (C_tile_span #[.int .i64 s0, .int .i64 s13, .int .i64 s1, .int .i64 s2] w fun v1 w2 =>
  opnT (some v1) fun x3 =>
  x3.size = 2 ∧
  opnI .i64 (x3[0]?) fun x4 =>
  opnI .i64 (x3[1]?) fun x5 =>
  N_tile_Fresh.j17 Q s0 s1 s2 s12 s12n s12c s13 x5 x4 w2)
  (Q (.tuple #[.slice s12 s12n s12c, .int .i64 0]) w)) :
N_tile_Fresh.j13 Q s0 s1 s2 s12 s12n s12c s13 w := Nd_fold K_tile_Fresh (by kernel_rfl) h
theorem N_tile_Fresh.j17_eq (Q : Value → World → Prop) (s0 : Int) (s1 : Int) (s2 : Int) (s12 : Option Addr) (s12n : Nat) (s12c : Nat) (s13 : Int) (s15 : Int) (s16 : Int) (w : World) (h :
  cond (decide (s16 < s15))
  (C_tile_widthOf #[.int .i64 s0, .int .i64 s13, .int .i64 s16, .int .i64 s2] w fun v1 w2 =>
  opnI .i64 (some v1) fun x3 =>
  alC #[.int .i64 s0, .int .i64 s13, .int .i64 s16, .int .i64 x3, .bool false] 49 w2 fun p4 w5 =>
  sem PP (Builtin.append_ #[42, 42] 42 #[.slice s12 s12n s12c, .slice (some p4) 1 1]) w5 fun v6 w7 =>
  opnL (some v6) fun x8 x8n x8c =>
  N_tile_Fresh.j17 Q s0 s1 s2 x8 x8n x8c s13 s15 (IntKind.wrap .i64 (s16 + 1)) w7)
  (N_tile_Fresh.j13 Q s0 s1 s2 s12 s12n s12c (IntKind.wrap .i64 (s13 + 1)) w)) :
N_tile_Fresh.j17 Q s0 s1 s2 s12 s12n s12c s13 s15 s16 w := Nd_fold K_tile_Fresh (by kernel_rfl) h
theorem C_tile_Fresh_eq (Q : Value → World → Prop) (a0 : Int) (a1 : Int) (a2 : Int) (w : World) (h :
  C_tile_sizes #[.int .i64 a0, .int .i64 a2] w fun v1 w2 =>
  opnB (some v1) fun x3 =>
  cond (!x3)
  (N_tile_Fresh.j2 Q w2)
  (cond (decide (a1 < 0))
  (N_tile_Fresh.j2 Q w2)
  (cond (decide (a1 > a2))
  (N_tile_Fresh.j2 Q w2)
  (N_tile_Fresh.j5 Q a0 a1 a2 0 0 w2)))) :
C_tile_Fresh #[.int .i64 a0, .int .i64 a1, .int .i64 a2] w Q := C_fold K_tile_Fresh (by kernel_rfl) h
/-! ### ledger/ledgerlaw10.covered -/
noncomputable def B_l10_covered : Code := match Try.f21.body with | some c => c | _ => .skip
noncomputable def X_l10_covered : Cx := { P := PP, fn := 21, N := 76, tab := tab, results := [.tmp 6], iter := fun _ => (.none, .none), dyn := fun _ => false, live := fun r => cond (Nat.beq r 3) (some [0, 1, 2, 7, 8]) (cond (Nat.beq r 4) (some [0, 1, 2, 7, 8]) (cond (Nat.beq r 7) (some []) (none))) }
theorem K_l10_covered : OkF X_l10_covered B_l10_covered Try.f21 := ⟨⟨tab_ok, mix_ok⟩, Try.func21, by kernel_rfl, by kernel_rfl, by kernel_rfl, by kernel_rfl⟩
noncomputable def N_l10_covered.j3 (Q : Value → World → Prop) (s0 : Option Addr) (s0n : Nat) (s0c : Nat) (s1 : Int) (s2 : Int) (s7 : Int) (s8 : Int) (w : World) : Prop := Nd X_l10_covered Q [(0, 0, .slice s0 s0n s0c), (1, 1, .int .i64 s1), (2, 2, .int .i64 s2), (7, 7, .int .i64 s7), (8, 8, .int .i64 s8)] [.code (B_l10_covered.r.r.l.r.l.l.l.l), .code (B_l10_covered.r.r.l.r.l.l.l.r), .code (B_l10_covered.r.r.l.r.l.l.r), .inLoop (B_l10_covered.r.r.l.r.l.l), .inBlock 0, .code (B_l10_covered.r.r.r)] w
noncomputable def N_l10_covered.j4 (Q : Value → World → Prop) (s0 : Option Addr) (s0n : Nat) (s0c : Nat) (s1 : Int) (s2 : Int) (s7 : Int) (s8 : Int) (w : World) : Prop := Nd X_l10_covered Q [(0, 0, .slice s0 s0n s0c), (1, 1, .int .i64 s1), (2, 2, .int .i64 s2), (7, 7, .int .i64 s7), (8, 8, .int .i64 s8)] [.code (B_l10_covered.r.r.l.r.l.l.r.r), .inLoop (B_l10_covered.r.r.l.r.l.l), .inBlock 0, .code (B_l10_covered.r.r.r)] w
noncomputable def N_l10_covered.j7 (Q : Value → World → Prop) (w : World) : Prop := Nd X_l10_covered Q [] [.code (B_l10_covered.r.r.l.r.l.l.r.l.l.r.l.r.l.l), .code (B_l10_covered.r.r.l.r.l.l.r.l.l.r.l.r.l.r), .code (B_l10_covered.r.r.l.r.l.l.r.l.l.r.r), .inBlock 1, .code (B_l10_covered.r.r.l.r.l.l.r.r), .inLoop (B_l10_covered.r.r.l.r.l.l), .inBlock 0, .code (B_l10_covered.r.r.r)] w
theorem N_l10_covered.j3_eq (Q : Value → World → Prop) (s0 : Option Addr) (s0n : Nat) (s0c : Nat) (s1 : Int) (s2 : Int) (s7 : Int) (s8 : Int) (w : World) (h :
  cond (decide (s8 < ((s0n : Nat) : Int)))
  ((0 : Int) ≤ s8 ∧
  s8 < ((s0n : Nat) : Int) ∧
  opnA s0 fun ad1 =>
  opnI .i64 (w.cell? ((ad1.add (Int.toNat s8 * 5)).add 1)) fun x2 =>
  cond (x2 != s2)
  (N_l10_covered.j4 Q s0 s0n s0c s1 s2 s7 s8 w)
  ((0 : Int) ≤ s8 ∧
  s8 < ((s0n : Nat) : Int) ∧
  opnA s0 fun ad3 =>
  opnI .i64 (w.cell? ((ad3.add (Int.toNat s8 * 5)).add 0)) fun x4 =>
  cond (x4 != s1)
  (N_l10_covered.j7 Q w)
  ((0 : Int) ≤ s8 ∧
  s8 < ((s0n : Nat) : Int) ∧
  opnA s0 fun ad5 =>
  opnI .i64 (w.cell? ((ad5.add (Int.toNat s8 * 5)).add 2)) fun x6 =>
  nn (IntKind.wrap .u64 s1) (
  cond ((IntKind.wrap .i64 (x6 * (shlI .i64 1 (IntKind.wrap .u64 s1)))) != s7)
  (N_l10_covered.j7 Q w)
  ((0 : Int) ≤ s8 ∧
  s8 < ((s0n : Nat) : Int) ∧
  opnA s0 fun ad7 =>
  opnI .i64 (w.cell? ((ad7.add (Int.toNat s8 * 5)).add 3)) fun x8 =>
  cond (decide (x8 < 1))
  (N_l10_covered.j7 Q w)
  ((0 : Int) ≤ s8 ∧
  s8 < ((s0n : Nat) : Int) ∧
  opnA s0 fun ad9 =>
  opnI .i64 (w.cell? ((ad9.add (Int.toNat s8 * 5)).add 3)) fun x10 =>
  nn (IntKind.wrap .u64 s1) (
  cond (decide (x10 > (shlI .i64 1 (IntKind.wrap .u64 s1))))
  (N_l10_covered.j7 Q w)
  ((0 : Int) ≤ s8 ∧
  s8 < ((s0n : Nat) : Int) ∧
  opnA s0 fun ad11 =>
  opnB (w.cell? ((ad11.add (Int.toNat s8 * 5)).add 4)) fun x12 =>
  cond x12
  (N_l10_covered.j7 Q w)
  ((0 : Int) ≤ s8 ∧
  s8 < ((s0n : Nat) : Int) ∧
  opnA s0 fun ad13 =>
  opnI .i64 (w.cell? ((ad13.add (Int.toNat s8 * 5)).add 3)) fun x14 =>
  N_l10_covered.j4 Q s0 s0n s0c s1 s2 (IntKind.wrap .i64 (s7 + x14)) s8 w)))))))))
  (Q (.int .i64 s7) w)) :
N_l10_covered.j3 Q s0 s0n s0c s1 s2 s7 s8 w := Nd_fold K_l10_covered (by kernel_rfl) h
theorem N_l10_covered.j4_eq (Q : Value → World → Prop) (s0 : Option Addr) (s0n : Nat) (s0c : Nat) (s1 : Int) (s2 : Int) (s7 : Int) (s8 : Int) (w : World) (h :
  N_l10_covered.j3 Q s0 s0n s0c s1 s2 s7 (IntKind.wrap .i64 (s8 + 1)) w) :
N_l10_covered.j4 Q s0 s0n s0c s1 s2 s7 s8 w := Nd_fold K_l10_covered (by kernel_rfl) h
theorem N_l10_covered.j7_eq (Q : Value → World → Prop) (w : World) (h :
  Q (.int .i64 (-1)) w) :
N_l10_covered.j7 Q w := Nd_fold K_l10_covered (by kernel_rfl) h
theorem C_l10_covered_eq (Q : Value → World → Prop) (a0 : Option Addr) (a0n : Nat) (a0c : Nat) (a1 : Int) (a2 : Int) (w : World) (h :
  N_l10_covered.j3 Q a0 a0n a0c a1 a2 0 0 w) :
C_l10_covered #[.slice a0 a0n a0c, .int .i64 a1, .int .i64 a2] w Q := C_fold K_l10_covered (by kernel_rfl) h
/-! ### ledger/tile.Of -/
noncomputable def B_tile_Of : Code := match Try.f22.body with | some c => c | _ => .skip
noncomputable def X_tile_Of : Cx := { P := PP, fn := 22, N := 26, tab := tab, results := [.cell 4 49, .tmp 5], iter := fun _ => (.none, .none), dyn := fun _ => false, live := fun r => cond (Nat.beq r 2) (some [4]) (none) }
theorem K_tile_Of : OkF X_tile_Of B_tile_Of Try.f22 := ⟨⟨tab_ok, mix_ok⟩, Try.func22, by kernel_rfl, by kernel_rfl, by kernel_rfl, by kernel_rfl⟩
noncomputable def N_tile_Of.j2 (Q : Value → World → Prop) (s4 : Addr) (w : World) : Prop := Nd X_tile_Of Q [(4, 4, .pointer (some s4))] [.code (B_tile_Of.r.l.r.l.l), .code (B_tile_Of.r.l.r.l.r), .code (B_tile_Of.r.r)] w
theorem N_tile_Of.j2_eq (Q : Value → World → Prop) (s4 : Addr) (w : World) (h :
  Array.size (#[.int .i64 0, .int .i64 0, .int .i64 0, .int .i64 0, .bool false] : Array Value) = 5 ∧
  stC (s4.add 0) (.int .i64 0) w fun w1 =>
  stC (s4.add 1) (.int .i64 0) w1 fun w2 =>
  stC (s4.add 2) (.int .i64 0) w2 fun w3 =>
  stC (s4.add 3) (.int .i64 0) w3 fun w4 =>
  stC (s4.add 4) (.bool false) w4 fun w5 =>
  opnI .i64 (w5.cell? (s4.add 0)) fun x6 =>
  opnI .i64 (w5.cell? (s4.add 1)) fun x7 =>
  opnI .i64 (w5.cell? (s4.add 2)) fun x8 =>
  opnI .i64 (w5.cell? (s4.add 3)) fun x9 =>
  opnB (w5.cell? (s4.add 4)) fun x10 =>
  Q (.tuple #[.agg #[.int .i64 x6, .int .i64 x7, .int .i64 x8, .int .i64 x9, .bool x10], .int .i64 1]) w5) :
N_tile_Of.j2 Q s4 w := Nd_fold K_tile_Of (by kernel_rfl) h
theorem C_tile_Of_eq (Q : Value → World → Prop) (a0 : Int) (a1 : Int) (w : World) (h :
  alC #[.int .i64 0, .int .i64 0, .int .i64 0, .int .i64 0, .bool false] 49 w fun p1 w2 =>
  cond (decide (a0 < 1))
  (N_tile_Of.j2 Q p1 w2)
  (cond (decide (a0 > 8))
  (N_tile_Of.j2 Q p1 w2)
  (C_tile_seatOf #[.int .i64 a0, .int .i64 a1] w2 fun v3 w4 =>
  opnT (some v3) fun x5 =>
  x5.size = 2 ∧
  opnG (x5[0]?) fun x6 =>
  x6.size = 7 ∧
  opnI .i64 (x6[0]?) fun x7 =>
  opnI .i64 (x6[1]?) fun x8 =>
  opnI .i64 (x6[2]?) fun x9 =>
  opnI .i64 (x6[3]?) fun x10 =>
  opnB (x6[4]?) fun x11 =>
  opnI .i64 (x6[5]?) fun x12 =>
  opnI .i64 (x6[6]?) fun x13 =>
  opnB (x5[1]?) fun x14 =>
  alC #[.int .i64 0, .int .i64 0, .int .i64 0, .int .i64 0, .bool false, .int .i64 0, .int .i64 0] 80 w4 fun p15 w16 =>
  Array.size (#[.int .i64 x7, .int .i64 x8, .int .i64 x9, .int .i64 x10, .bool x11, .int .i64 x12, .int .i64 x13] : Array Value) = 7 ∧
  stC (p15.add 0) (.int .i64 x7) w16 fun w17 =>
  stC (p15.add 1) (.int .i64 x8) w17 fun w18 =>
  stC (p15.add 2) (.int .i64 x9) w18 fun w19 =>
  stC (p15.add 3) (.int .i64 x10) w19 fun w20 =>
  stC (p15.add 4) (.bool x11) w20 fun w21 =>
  stC (p15.add 5) (.int .i64 x12) w21 fun w22 =>
  stC (p15.add 6) (.int .i64 x13) w22 fun w23 =>
  cond (!x14)
  (Array.size (#[.int .i64 0, .int .i64 0, .int .i64 0, .int .i64 0, .bool false] : Array Value) = 5 ∧
  stC (p1.add 0) (.int .i64 0) w23 fun w24 =>
  stC (p1.add 1) (.int .i64 0) w24 fun w25 =>
  stC (p1.add 2) (.int .i64 0) w25 fun w26 =>
  stC (p1.add 3) (.int .i64 0) w26 fun w27 =>
  stC (p1.add 4) (.bool false) w27 fun w28 =>
  opnI .i64 (w28.cell? (p1.add 0)) fun x29 =>
  opnI .i64 (w28.cell? (p1.add 1)) fun x30 =>
  opnI .i64 (w28.cell? (p1.add 2)) fun x31 =>
  opnI .i64 (w28.cell? (p1.add 3)) fun x32 =>
  opnB (w28.cell? (p1.add 4)) fun x33 =>
  Q (.tuple #[.agg #[.int .i64 x29, .int .i64 x30, .int .i64 x31, .int .i64 x32, .bool x33], .int .i64 1]) w28)
  (opnI .i64 (w23.cell? ((p15.add 0).add 0)) fun x34 =>
  opnI .i64 (w23.cell? ((p15.add 0).add 1)) fun x35 =>
  opnI .i64 (w23.cell? ((p15.add 0).add 2)) fun x36 =>
  opnI .i64 (w23.cell? ((p15.add 0).add 3)) fun x37 =>
  opnB (w23.cell? ((p15.add 0).add 4)) fun x38 =>
  Array.size (#[.int .i64 x34, .int .i64 x35, .int .i64 x36, .int .i64 x37, .bool x38] : Array Value) = 5 ∧
  stC (p1.add 0) (.int .i64 x34) w23 fun w39 =>
  stC (p1.add 1) (.int .i64 x35) w39 fun w40 =>
  stC (p1.add 2) (.int .i64 x36) w40 fun w41 =>
  stC (p1.add 3) (.int .i64 x37) w41 fun w42 =>
  stC (p1.add 4) (.bool x38) w42 fun w43 =>
  opnI .i64 (w43.cell? (p1.add 0)) fun x44 =>
  opnI .i64 (w43.cell? (p1.add 1)) fun x45 =>
  opnI .i64 (w43.cell? (p1.add 2)) fun x46 =>
  opnI .i64 (w43.cell? (p1.add 3)) fun x47 =>
  opnB (w43.cell? (p1.add 4)) fun x48 =>
  Q (.tuple #[.agg #[.int .i64 x44, .int .i64 x45, .int .i64 x46, .int .i64 x47, .bool x48], .int .i64 0]) w43)))) :
C_tile_Of #[.int .i64 a0, .int .i64 a1] w Q := C_fold K_tile_Of (by kernel_rfl) h
/-! ### ledger/ledgerref10.Of -/
noncomputable def B_r10_Of : Code := match Try.f23.body with | some c => c | _ => .skip
noncomputable def X_r10_Of : Cx := { P := PP, fn := 23, N := 52, tab := tab, results := [.cell 4 56, .tmp 5], iter := fun _ => (.none, .none), dyn := fun _ => false, live := fun r => cond (Nat.beq r 2) (some [4]) (cond (Nat.beq r 9) (some [0, 4, 9, 10, 11]) (cond (Nat.beq r 10) (some [4, 11]) (none))) }
theorem K_r10_Of : OkF X_r10_Of B_r10_Of Try.f23 := ⟨⟨tab_ok, mix_ok⟩, Try.func23, by kernel_rfl, by kernel_rfl, by kernel_rfl, by kernel_rfl⟩
noncomputable def N_r10_Of.j2 (Q : Value → World → Prop) (s4 : Addr) (w : World) : Prop := Nd X_r10_Of Q [(4, 4, .pointer (some s4))] [.code (B_r10_Of.r.l.r.l.l), .code (B_r10_Of.r.l.r.l.r), .code (B_r10_Of.r.r)] w
noncomputable def N_r10_Of.j9 (Q : Value → World → Prop) (s0 : Int) (s4 : Addr) (s9 : Int) (s10 : Int) (s11 : Addr) (w : World) : Prop := Nd X_r10_Of Q [(0, 0, .int .i64 s0), (4, 4, .pointer (some s4)), (9, 9, .int .i64 s9), (10, 10, .int .i64 s10), (11, 11, .pointer (some s11))] [.code (B_r10_Of.r.r.r.r.r.r.r.l), .code (B_r10_Of.r.r.r.r.r.r.r.r)] w
noncomputable def N_r10_Of.j10 (Q : Value → World → Prop) (s4 : Addr) (s11 : Addr) (w : World) : Prop := Nd X_r10_Of Q [(4, 4, .pointer (some s4)), (11, 11, .pointer (some s11))] [.code (B_r10_Of.r.r.r.r.r.r.r.r.l), .code (B_r10_Of.r.r.r.r.r.r.r.r.r)] w
theorem N_r10_Of.j2_eq (Q : Value → World → Prop) (s4 : Addr) (w : World) (h :
  Array.size (#[.int .i64 0, .int .i64 0, .int .i64 0, .int .i64 0, .bool false] : Array Value) = 5 ∧
  stC (s4.add 0) (.int .i64 0) w fun w1 =>
  stC (s4.add 1) (.int .i64 0) w1 fun w2 =>
  stC (s4.add 2) (.int .i64 0) w2 fun w3 =>
  stC (s4.add 3) (.int .i64 0) w3 fun w4 =>
  stC (s4.add 4) (.bool false) w4 fun w5 =>
  opnI .i64 (w5.cell? (s4.add 0)) fun x6 =>
  opnI .i64 (w5.cell? (s4.add 1)) fun x7 =>
  opnI .i64 (w5.cell? (s4.add 2)) fun x8 =>
  opnI .i64 (w5.cell? (s4.add 3)) fun x9 =>
  opnB (w5.cell? (s4.add 4)) fun x10 =>
  Q (.tuple #[.agg #[.int .i64 x6, .int .i64 x7, .int .i64 x8, .int .i64 x9, .bool x10], .int .i64 1]) w5) :
N_r10_Of.j2 Q s4 w := Nd_fold K_r10_Of (by kernel_rfl) h
theorem N_r10_Of.j9_eq (Q : Value → World → Prop) (s0 : Int) (s4 : Addr) (s9 : Int) (s10 : Int) (s11 : Addr) (w : World) (h :
  C_r10_power #[.int .i64 s0] w fun v1 w2 =>
  opnI .i64 (some v1) fun x3 =>
  x3 ≠ (0 : Int) ∧
  stC (s11.add 3) (.int .i64 (IntKind.wrap .i64 ((Int.tmod s10 x3) + s9))) w2 fun w4 =>
  N_r10_Of.j10 Q s4 s11 w4) :
N_r10_Of.j9 Q s0 s4 s9 s10 s11 w := Nd_fold K_r10_Of (by kernel_rfl) h
theorem N_r10_Of.j10_eq (Q : Value → World → Prop) (s4 : Addr) (s11 : Addr) (w : World) (h :
  opnI .i64 (w.cell? (s11.add 0)) fun x1 =>
  opnI .i64 (w.cell? (s11.add 1)) fun x2 =>
  opnI .i64 (w.cell? (s11.add 2)) fun x3 =>
  opnI .i64 (w.cell? (s11.add 3)) fun x4 =>
  opnB (w.cell? (s11.add 4)) fun x5 =>
  Array.size (#[.int .i64 x1, .int .i64 x2, .int .i64 x3, .int .i64 x4, .bool x5] : Array Value) = 5 ∧
  stC (s4.add 0) (.int .i64 x1) w fun w6 =>
  stC (s4.add 1) (.int .i64 x2) w6 fun w7 =>
  stC (s4.add 2) (.int .i64 x3) w7 fun w8 =>
  stC (s4.add 3) (.int .i64 x4) w8 fun w9 =>
  stC (s4.add 4) (.bool x5) w9 fun w10 =>
  opnI .i64 (w10.cell? (s4.add 0)) fun x11 =>
  opnI .i64 (w10.cell? (s4.add 1)) fun x12 =>
  opnI .i64 (w10.cell? (s4.add 2)) fun x13 =>
  opnI .i64 (w10.cell? (s4.add 3)) fun x14 =>
  opnB (w10.cell? (s4.add 4)) fun x15 =>
  Q (.tuple #[.agg #[.int .i64 x11, .int .i64 x12, .int .i64 x13, .int .i64 x14, .bool x15], .int .i64 0]) w10) :
N_r10_Of.j10 Q s4 s11 w := Nd_fold K_r10_Of (by kernel_rfl) h
theorem C_r10_Of_eq (Q : Value → World → Prop) (a0 : Int) (a1 : Int) (w : World) (h :
  alC #[.int .i64 0, .int .i64 0, .int .i64 0, .int .i64 0, .bool false] 56 w fun p1 w2 =>
  cond (decide (a0 < 1))
  (N_r10_Of.j2 Q p1 w2)
  (cond (decide (a0 > 8))
  (N_r10_Of.j2 Q p1 w2)
  (C_r08_SplitIndex #[.int .i64 a1] w2 fun v3 w4 =>
  opnT (some v3) fun x5 =>
  x5.size = 3 ∧
  opnI .i64 (x5[0]?) fun x6 =>
  opnI .i64 (x5[1]?) fun x7 =>
  opnI .i64 (x5[2]?) fun x8 =>
  cond (x8 != 0)
  (Array.size (#[.int .i64 0, .int .i64 0, .int .i64 0, .int .i64 0, .bool false] : Array Value) = 5 ∧
  stC (p1.add 0) (.int .i64 0) w4 fun w9 =>
  stC (p1.add 1) (.int .i64 0) w9 fun w10 =>
  stC (p1.add 2) (.int .i64 0) w10 fun w11 =>
  stC (p1.add 3) (.int .i64 0) w11 fun w12 =>
  stC (p1.add 4) (.bool false) w12 fun w13 =>
  opnI .i64 (w13.cell? (p1.add 0)) fun x14 =>
  opnI .i64 (w13.cell? (p1.add 1)) fun x15 =>
  opnI .i64 (w13.cell? (p1.add 2)) fun x16 =>
  opnI .i64 (w13.cell? (p1.add 3)) fun x17 =>
  opnB (w13.cell? (p1.add 4)) fun x18 =>
  Q (.tuple #[.agg #[.int .i64 x14, .int .i64 x15, .int .i64 x16, .int .i64 x17, .bool x18], .int .i64 1]) w13)
  (a0 ≠ (0 : Int) ∧
  C_r10_power #[.int .i64 (Int.tmod x6 a0)] w4 fun v19 w20 =>
  opnI .i64 (some v19) fun x21 =>
  drw w20 fun w22 =>
  a0 ≠ (0 : Int) ∧
  (C_r10_power #[.int .i64 a0] w22 fun v23 w24 =>
  opnI .i64 (some v23) fun x25 =>
  x25 ≠ (0 : Int) ∧
  alC #[.int .i64 0, .int .i64 0, .int .i64 0, .int .i64 0, .bool false] 56 w24 fun p26 w27 =>
  Array.size (#[.int .i64 a0, .int .i64 (IntKind.wrap .i64 (Int.tdiv x6 a0)), .int .i64 (IntKind.wrap .i64 (Int.tdiv (IntKind.wrap .i64 (x7 * x21)) x25)), .int .i64 0, .bool false] : Array Value) = 5 ∧
  stC (p26.add 0) (.int .i64 a0) w27 fun w28 =>
  stC (p26.add 1) (.int .i64 (IntKind.wrap .i64 (Int.tdiv x6 a0))) w28 fun w29 =>
  stC (p26.add 2) (.int .i64 (IntKind.wrap .i64 (Int.tdiv (IntKind.wrap .i64 (x7 * x21)) x25))) w29 fun w30 =>
  stC (p26.add 3) (.int .i64 0) w30 fun w31 =>
  stC (p26.add 4) (.bool false) w31 fun w32 =>
  N_r10_Of.j9 Q a0 p1 x21 (IntKind.wrap .i64 (x7 * x21)) p26 w32) ∧
  (alC #[.int .i64 0, .int .i64 0, .int .i64 0, .int .i64 0, .bool false] 56 w22 fun p33 w34 =>
  C_r10_power #[.int .i64 a0] w34 fun v35 w36 =>
  opnI .i64 (some v35) fun x37 =>
  x37 ≠ (0 : Int) ∧
  Array.size (#[.int .i64 a0, .int .i64 (IntKind.wrap .i64 (Int.tdiv x6 a0)), .int .i64 (IntKind.wrap .i64 (Int.tdiv (IntKind.wrap .i64 (x7 * x21)) x37)), .int .i64 0, .bool false] : Array Value) = 5 ∧
  stC (p33.add 0) (.int .i64 a0) w36 fun w38 =>
  stC (p33.add 1) (.int .i64 (IntKind.wrap .i64 (Int.tdiv x6 a0))) w38 fun w39 =>
  stC (p33.add 2) (.int .i64 (IntKind.wrap .i64 (Int.tdiv (IntKind.wrap .i64 (x7 * x21)) x37))) w39 fun w40 =>
  stC (p33.add 3) (.int .i64 0) w40 fun w41 =>
  stC (p33.add 4) (.bool false) w41 fun w42 =>
  N_r10_Of.j9 Q a0 p1 x21 (IntKind.wrap .i64 (x7 * x21)) p33 w42))))) :
C_r10_Of #[.int .i64 a0, .int .i64 a1] w Q := C_fold K_r10_Of (by kernel_rfl) h
/-! ### ledger/ledgerlaw10.doc -/
noncomputable def B_l10_doc : Code := match Try.f24.body with | some c => c | _ => .skip
noncomputable def X_l10_doc : Cx := { P := PP, fn := 24, N := 14, tab := tab, results := [.cell 2 56], iter := fun _ => (.none, .none), dyn := fun _ => false, live := fun _ => none }
theorem K_l10_doc : OkF X_l10_doc B_l10_doc Try.f24 := ⟨⟨tab_ok, mix_ok⟩, Try.func24, by kernel_rfl, by kernel_rfl, by kernel_rfl, by kernel_rfl⟩
theorem C_l10_doc_eq (Q : Value → World → Prop) (a0_0 : Int) (a0_1 : Int) (a0_2 : Int) (a0_3 : Int) (a0_4 : Bool) (w : World) (h :
  alC #[.int .i64 a0_0, .int .i64 a0_1, .int .i64 a0_2, .int .i64 a0_3, .bool a0_4] 49 w fun p1 w2 =>
  alC #[.int .i64 0, .int .i64 0, .int .i64 0, .int .i64 0, .bool false] 56 w2 fun p3 w4 =>
  opnI .i64 (w4.cell? (p1.add 0)) fun x5 =>
  opnI .i64 (w4.cell? (p1.add 1)) fun x6 =>
  opnI .i64 (w4.cell? (p1.add 2)) fun x7 =>
  opnI .i64 (w4.cell? (p1.add 3)) fun x8 =>
  opnB (w4.cell? (p1.add 4)) fun x9 =>
  Array.size (#[.int .i64 x5, .int .i64 x6, .int .i64 x7, .int .i64 x8, .bool x9] : Array Value) = 5 ∧
  stC (p3.add 0) (.int .i64 x5) w4 fun w10 =>
  stC (p3.add 1) (.int .i64 x6) w10 fun w11 =>
  stC (p3.add 2) (.int .i64 x7) w11 fun w12 =>
  stC (p3.add 3) (.int .i64 x8) w12 fun w13 =>
  stC (p3.add 4) (.bool x9) w13 fun w14 =>
  opnI .i64 (w14.cell? (p3.add 0)) fun x15 =>
  opnI .i64 (w14.cell? (p3.add 1)) fun x16 =>
  opnI .i64 (w14.cell? (p3.add 2)) fun x17 =>
  opnI .i64 (w14.cell? (p3.add 3)) fun x18 =>
  opnB (w14.cell? (p3.add 4)) fun x19 =>
  Q (.agg #[.int .i64 x15, .int .i64 x16, .int .i64 x17, .int .i64 x18, .bool x19]) w14) :
C_l10_doc #[.agg #[.int .i64 a0_0, .int .i64 a0_1, .int .i64 a0_2, .int .i64 a0_3, .bool a0_4]] w Q := C_fold K_l10_doc (by kernel_rfl) h
/-! ### ledger/tile.Width -/
noncomputable def B_tile_Width : Code := match Try.f25.body with | some c => c | _ => .skip
noncomputable def X_tile_Width : Cx := { P := PP, fn := 25, N := 27, tab := tab, results := [.tmp 8, .tmp 9], iter := fun _ => (.none, .none), dyn := fun _ => false, live := fun r => cond (Nat.beq r 2) (some []) (none) }
theorem K_tile_Width : OkF X_tile_Width B_tile_Width Try.f25 := ⟨⟨tab_ok, mix_ok⟩, Try.func25, by kernel_rfl, by kernel_rfl, by kernel_rfl, by kernel_rfl⟩
noncomputable def N_tile_Width.j2 (Q : Value → World → Prop) (w : World) : Prop := Nd X_tile_Width Q [] [.code (B_tile_Width.r.l.r.l.l), .code (B_tile_Width.r.l.r.l.r), .code (B_tile_Width.r.r)] w
theorem N_tile_Width.j2_eq (Q : Value → World → Prop) (w : World) (h :
  Q (.tuple #[.int .i64 0, .int .i64 1]) w) :
N_tile_Width.j2 Q w := Nd_fold K_tile_Width (by kernel_rfl) h
theorem C_tile_Width_eq (Q : Value → World → Prop) (a0 : Int) (a1 : Int) (a2 : Int) (a3 : Int) (w : World) (h :
  C_tile_sizes #[.int .i64 a0, .int .i64 a3] w fun v1 w2 =>
  opnB (some v1) fun x3 =>
  cond (!x3)
  (N_tile_Width.j2 Q w2)
  (cond (decide (a1 < 0))
  (N_tile_Width.j2 Q w2)
  (cond (decide (a2 < 0))
  (N_tile_Width.j2 Q w2)
  (C_tile_widthOf #[.int .i64 a0, .int .i64 a1, .int .i64 a2, .int .i64 a3] w2 fun v4 w5 =>
  opnI .i64 (some v4) fun x6 =>
  Q (.tuple #[.int .i64 x6, .int .i64 0]) w5)))) :
C_tile_Width #[.int .i64 a0, .int .i64 a1, .int .i64 a2, .int .i64 a3] w Q := C_fold K_tile_Width (by kernel_rfl) h
/-! ### ledger/ledgerref10.Width -/
noncomputable def B_r10_Width : Code := match Try.f26.body with | some c => c | _ => .skip
noncomputable def X_r10_Width : Cx := { P := PP, fn := 26, N := 56, tab := tab, results := [.tmp 8, .tmp 9], iter := fun _ => (.none, .none), dyn := fun _ => false, live := fun r => cond (Nat.beq r 2) (some []) (cond (Nat.beq r 9) (some [0, 11]) (cond (Nat.beq r 10) (some [0]) (cond (Nat.beq r 11) (some [11]) (none)))) }
theorem K_r10_Width : OkF X_r10_Width B_r10_Width Try.f26 := ⟨⟨tab_ok, mix_ok⟩, Try.func26, by kernel_rfl, by kernel_rfl, by kernel_rfl, by kernel_rfl⟩
noncomputable def N_r10_Width.j2 (Q : Value → World → Prop) (w : World) : Prop := Nd X_r10_Width Q [] [.code (B_r10_Width.r.l.r.l.l), .code (B_r10_Width.r.l.r.l.r), .code (B_r10_Width.r.r)] w
noncomputable def N_r10_Width.j9 (Q : Value → World → Prop) (s0 : Int) (s11 : Int) (w : World) : Prop := Nd X_r10_Width Q [(0, 0, .int .i64 s0), (11, 11, .int .i64 s11)] [.code (B_r10_Width.r.r.r.r.r.r.l.l), .code (B_r10_Width.r.r.r.r.r.r.l.r), .code (B_r10_Width.r.r.r.r.r.r.r)] w
noncomputable def N_r10_Width.j10 (Q : Value → World → Prop) (s0 : Int) (w : World) : Prop := Nd X_r10_Width Q [(0, 0, .int .i64 s0)] [.code (B_r10_Width.r.r.r.r.r.r.l.r.l), .code (B_r10_Width.r.r.r.r.r.r.r)] w
noncomputable def N_r10_Width.j11 (Q : Value → World → Prop) (s11 : Int) (w : World) : Prop := Nd X_r10_Width Q [(11, 11, .int .i64 s11)] [.code (B_r10_Width.r.r.r.r.r.r.r.l), .code (B_r10_Width.r.r.r.r.r.r.r.r)] w
theorem N_r10_Width.j2_eq (Q : Value → World → Prop) (w : World) (h :
  Q (.tuple #[.int .i64 0, .int .i64 1]) w) :
N_r10_Width.j2 Q w := Nd_fold K_r10_Width (by kernel_rfl) h
theorem N_r10_Width.j9_eq (Q : Value → World → Prop) (s0 : Int) (s11 : Int) (w : World) (h :
  C_r10_power #[.int .i64 s0] w fun v1 w2 =>
  opnI .i64 (some v1) fun x3 =>
  cond (decide (s11 > x3))
  (N_r10_Width.j10 Q s0 w2)
  (N_r10_Width.j11 Q s11 w2)) :
N_r10_Width.j9 Q s0 s11 w := Nd_fold K_r10_Width (by kernel_rfl) h
theorem N_r10_Width.j10_eq (Q : Value → World → Prop) (s0 : Int) (w : World) (h :
  C_r10_power #[.int .i64 s0] w fun v1 w2 =>
  opnI .i64 (some v1) fun x3 =>
  N_r10_Width.j11 Q x3 w2) :
N_r10_Width.j10 Q s0 w := Nd_fold K_r10_Width (by kernel_rfl) h
theorem N_r10_Width.j11_eq (Q : Value → World → Prop) (s11 : Int) (w : World) (h :
  Q (.tuple #[.int .i64 s11, .int .i64 0]) w) :
N_r10_Width.j11 Q s11 w := Nd_fold K_r10_Width (by kernel_rfl) h
theorem C_r10_Width_eq (Q : Value → World → Prop) (a0 : Int) (a1 : Int) (a2 : Int) (a3 : Int) (w : World) (h :
  cond (decide (a0 < 1))
  (N_r10_Width.j2 Q w)
  (cond (decide (a0 > 8))
  (N_r10_Width.j2 Q w)
  (cond (decide (a1 < 0))
  (N_r10_Width.j2 Q w)
  (cond (decide (a2 < 0))
  (N_r10_Width.j2 Q w)
  (cond (decide (a3 < 0))
  (N_r10_Width.j2 Q w)
  (cond (decide (a3 > 281474976710656))
  (N_r10_Width.j2 Q w)
  (C_r10_nodes #[.int .i64 a0, .int .i64 a1, .int .i64 a3] w fun v1 w2 =>
  opnI .i64 (some v1) fun x3 =>
  cond (decide (a2 > x3))
  (Q (.tuple #[.int .i64 0, .int .i64 0]) w2)
  (C_r10_power #[.int .i64 a0] w2 fun v4 w5 =>
  opnI .i64 (some v4) fun x6 =>
  cond (decide ((IntKind.wrap .i64 (x3 - (IntKind.wrap .i64 (a2 * x6)))) < 0))
  (N_r10_Width.j9 Q a0 0 w5)
  (N_r10_Width.j9 Q a0 (IntKind.wrap .i64 (x3 - (IntKind.wrap .i64 (a2 * x6)))) w5))))))))) :
C_r10_Width #[.int .i64 a0, .int .i64 a1, .int .i64 a2, .int .i64 a3] w Q := C_fold K_r10_Width (by kernel_rfl) h
/-! ### ledger/ledgerref10.All -/
noncomputable def B_r10_All : Code := match Try.f27.body with | some c => c | _ => .skip
noncomputable def X_r10_All : Cx := { P := PP, fn := 27, N := 11, tab := tab, results := [.tmp 4, .tmp 5], iter := fun _ => (.none, .none), dyn := fun _ => false, live := fun _ => none }
theorem K_r10_All : OkF X_r10_All B_r10_All Try.f27 := ⟨⟨tab_ok, mix_ok⟩, Try.func27, by kernel_rfl, by kernel_rfl, by kernel_rfl, by kernel_rfl⟩
theorem C_r10_All_eq (Q : Value → World → Prop) (a0 : Int) (a1 : Int) (w : World) (h :
  C_r10_Fresh #[.int .i64 a0, .int .i64 0, .int .i64 a1] w fun v1 w2 =>
  opnT (some v1) fun x3 =>
  x3.size = 2 ∧
  opnL (x3[0]?) fun x4 x4n x4c =>
  opnI .i64 (x3[1]?) fun x5 =>
  Q (.tuple #[.slice x4 x4n x4c, .int .i64 x5]) w2) :
C_r10_All #[.int .i64 a0, .int .i64 a1] w Q := C_fold K_r10_All (by kernel_rfl) h
/-! ### ledger/ledgerlaw10.alike -/
noncomputable def B_l10_alike : Code := match Try.f28.body with | some c => c | _ => .skip
noncomputable def X_l10_alike : Cx := { P := PP, fn := 28, N := 27, tab := tab, results := [.tmp 4], iter := fun _ => (.none, .none), dyn := fun _ => false, live := fun r => cond (Nat.beq r 4) (some [0, 1, 5]) (none) }
theorem K_l10_alike : OkF X_l10_alike B_l10_alike Try.f28 := ⟨⟨tab_ok, mix_ok⟩, Try.func28, by kernel_rfl, by kernel_rfl, by kernel_rfl, by kernel_rfl⟩
noncomputable def N_l10_alike.j4 (Q : Value → World → Prop) (s0 : Option Addr) (s0n : Nat) (s0c : Nat) (s1 : Option Addr) (s1n : Nat) (s1c : Nat) (s5 : Int) (w : World) : Prop := Nd X_l10_alike Q [(0, 0, .slice s0 s0n s0c), (1, 1, .slice s1 s1n s1c), (5, 5, .int .i64 s5)] [.code (B_l10_alike.r.r.l.r.l.l.l.l), .code (B_l10_alike.r.r.l.r.l.l.l.r), .code (B_l10_alike.r.r.l.r.l.l.r), .inLoop (B_l10_alike.r.r.l.r.l.l), .inBlock 0, .code (B_l10_alike.r.r.r)] w
theorem N_l10_alike.j4_eq (Q : Value → World → Prop) (s0 : Option Addr) (s0n : Nat) (s0c : Nat) (s1 : Option Addr) (s1n : Nat) (s1c : Nat) (s5 : Int) (w : World) (h :
  cond (decide (s5 < ((s0n : Nat) : Int)))
  (drw w fun w1 =>
  (0 : Int) ≤ s5 ∧
  s5 < ((s0n : Nat) : Int) ∧
  opnA s0 fun ad2 =>
  (0 : Int) ≤ s5 ∧
  s5 < ((s1n : Nat) : Int) ∧
  opnA s1 fun ad3 =>
  opnI .i64 (w1.cell? ((ad2.add (Int.toNat s5 * 5)).add 0)) fun x4 =>
  opnI .i64 (w1.cell? ((ad2.add (Int.toNat s5 * 5)).add 1)) fun x5 =>
  opnI .i64 (w1.cell? ((ad2.add (Int.toNat s5 * 5)).add 2)) fun x6 =>
  opnI .i64 (w1.cell? ((ad2.add (Int.toNat s5 * 5)).add 3)) fun x7 =>
  opnB (w1.cell? ((ad2.add (Int.toNat s5 * 5)).add 4)) fun x8 =>
  opnI .i64 (w1.cell? ((ad3.add (Int.toNat s5 * 5)).add 0)) fun x9 =>
  opnI .i64 (w1.cell? ((ad3.add (Int.toNat s5 * 5)).add 1)) fun x10 =>
  opnI .i64 (w1.cell? ((ad3.add (Int.toNat s5 * 5)).add 2)) fun x11 =>
  opnI .i64 (w1.cell? ((ad3.add (Int.toNat s5 * 5)).add 3)) fun x12 =>
  opnB (w1.cell? ((ad3.add (Int.toNat s5 * 5)).add 4)) fun x13 =>
  C_l10_doc #[.agg #[.int .i64 x4, .int .i64 x5, .int .i64 x6, .int .i64 x7, .bool x8]] w1 fun v14 w15 =>
  opnG (some v14) fun x16 =>
  x16.size = 5 ∧
  opnI .i64 (x16[0]?) fun x17 =>
  opnI .i64 (x16[1]?) fun x18 =>
  opnI .i64 (x16[2]?) fun x19 =>
  opnI .i64 (x16[3]?) fun x20 =>
  opnB (x16[4]?) fun x21 =>
  (opnI .i64 (w15.cell? ((ad3.add (Int.toNat s5 * 5)).add 0)) fun x22 =>
  opnI .i64 (w15.cell? ((ad3.add (Int.toNat s5 * 5)).add 1)) fun x23 =>
  opnI .i64 (w15.cell? ((ad3.add (Int.toNat s5 * 5)).add 2)) fun x24 =>
  opnI .i64 (w15.cell? ((ad3.add (Int.toNat s5 * 5)).add 3)) fun x25 =>
  opnB (w15.cell? ((ad3.add (Int.toNat s5 * 5)).add 4)) fun x26 =>
  ((.agg #[.int .i64 x22, .int .i64 x23, .int .i64 x24, .int .i64 x25, .bool x26]) : Value) = .agg #[.int .i64 x9, .int .i64 x10, .int .i64 x11, .int .i64 x12, .bool x13]) ∧
  semR PP (do eqGuard .neq 56 (.tmp 21) (.tmp 25) (.agg #[.int .i64 x17, .int .i64 x18, .int .i64 x19, .int .i64 x20, .bool x21]) (.agg #[.int .i64 x9, .int .i64 x10, .int .i64 x11, .int .i64 x12, .bool x13]); binOp .neq 56 (.agg #[.int .i64 x17, .int .i64 x18, .int .i64 x19, .int .i64 x20, .bool x21]) (.agg #[.int .i64 x9, .int .i64 x10, .int .i64 x11, .int .i64 x12, .bool x13])) w15 fun x27 =>
  opnB (some x27) fun x28 =>
  cond x28
  (Q (.bool false) w15)
  (N_l10_alike.j4 Q s0 s0n s0c s1 s1n s1c (IntKind.wrap .i64 (s5 + 1)) w15))
  (Q (.bool true) w)) :
N_l10_alike.j4 Q s0 s0n s0c s1 s1n s1c s5 w := Nd_fold K_l10_alike (by kernel_rfl) h
theorem C_l10_alike_eq (Q : Value → World → Prop) (a0 : Option Addr) (a0n : Nat) (a0c : Nat) (a1 : Option Addr) (a1n : Nat) (a1c : Nat) (w : World) (h :
  cond (((a0n : Nat) : Int) != ((a1n : Nat) : Int))
  (Q (.bool false) w)
  (N_l10_alike.j4 Q a0 a0n a0c a1 a1n a1c 0 w)) :
C_l10_alike #[.slice a0 a0n a0c, .slice a1 a1n a1c] w Q := C_fold K_l10_alike (by kernel_rfl) h
/-! ### ledger/ledgerref10.Fresh -/
noncomputable def B_r10_Fresh : Code := match Try.f29.body with | some c => c | _ => .skip
noncomputable def X_r10_Fresh : Cx := { P := PP, fn := 29, N := 92, tab := tab, results := [.tmp 6, .tmp 7], iter := fun _ => (.none, .none), dyn := fun _ => false, live := fun r => cond (Nat.beq r 2) (some []) (cond (Nat.beq r 5) (some [0, 1, 2, 8, 9]) (cond (Nat.beq r 9) (some [0, 1, 2, 8, 9, 10, 11]) (cond (Nat.beq r 15) (some [0, 1, 2, 8, 9, 10]) (cond (Nat.beq r 16) (some [0, 1, 2, 8, 9, 10]) (none))))) }
theorem K_r10_Fresh : OkF X_r10_Fresh B_r10_Fresh Try.f29 := ⟨⟨tab_ok, mix_ok⟩, Try.func29, by kernel_rfl, by kernel_rfl, by kernel_rfl, by kernel_rfl⟩
noncomputable def N_r10_Fresh.j2 (Q : Value → World → Prop) (w : World) : Prop := Nd X_r10_Fresh Q [] [.code (B_r10_Fresh.r.l.r.l.l), .code (B_r10_Fresh.r.l.r.l.r), .code (B_r10_Fresh.r.r)] w
noncomputable def N_r10_Fresh.j5 (Q : Value → World → Prop) (s0 : Int) (s1 : Int) (s2 : Int) (s8 : Option Addr) (s8n : Nat) (s8c : Nat) (s9 : Int) (w : World) : Prop := Nd X_r10_Fresh Q [(0, 0, .int .i64 s0), (1, 1, .int .i64 s1), (2, 2, .int .i64 s2), (8, 8, .slice s8 s8n s8c), (9, 9, .int .i64 s9)] [.code (B_r10_Fresh.r.r.r.l.r.l.l.l.l), .code (B_r10_Fresh.r.r.r.l.r.l.l.l.r), .code (B_r10_Fresh.r.r.r.l.r.l.l.r), .inLoop (B_r10_Fresh.r.r.r.l.r.l.l), .inBlock 0, .code (B_r10_Fresh.r.r.r.r)] w
noncomputable def N_r10_Fresh.j9 (Q : Value → World → Prop) (s0 : Int) (s1 : Int) (s2 : Int) (s8 : Option Addr) (s8n : Nat) (s8c : Nat) (s9 : Int) (s10 : Int) (s11 : Int) (w : World) : Prop := Nd X_r10_Fresh Q [(0, 0, .int .i64 s0), (1, 1, .int .i64 s1), (2, 2, .int .i64 s2), (8, 8, .slice s8 s8n s8c), (9, 9, .int .i64 s9), (10, 10, .int .i64 s10), (11, 11, .int .i64 s11)] [.code (B_r10_Fresh.r.r.r.l.r.l.l.r.l.l.r.r.l.l.l.l), .code (B_r10_Fresh.r.r.r.l.r.l.l.r.l.l.r.r.l.l.l.r), .code (B_r10_Fresh.r.r.r.l.r.l.l.r.l.l.r.r.l.l.r), .inLoop (B_r10_Fresh.r.r.r.l.r.l.l.r.l.l.r.r.l.l), .inBlock 2, .inBlock 1, .code (B_r10_Fresh.r.r.r.l.r.l.l.r.r), .inLoop (B_r10_Fresh.r.r.r.l.r.l.l), .inBlock 0, .code (B_r10_Fresh.r.r.r.r)] w
noncomputable def N_r10_Fresh.j15 (Q : Value → World → Prop) (s0 : Int) (s1 : Int) (s2 : Int) (s8 : Option Addr) (s8n : Nat) (s8c : Nat) (s9 : Int) (s10 : Int) (w : World) : Prop := Nd X_r10_Fresh Q [(0, 0, .int .i64 s0), (1, 1, .int .i64 s1), (2, 2, .int .i64 s2), (8, 8, .slice s8 s8n s8c), (9, 9, .int .i64 s9), (10, 10, .int .i64 s10)] [.code (B_r10_Fresh.r.r.r.l.r.l.l.r.l.l.r.r.l.l.r.l.r.r.l), .code (B_r10_Fresh.r.r.r.l.r.l.l.r.l.l.r.r.l.l.r.l.r.r.r), .inBlock 3, .inLoop (B_r10_Fresh.r.r.r.l.r.l.l.r.l.l.r.r.l.l), .inBlock 2, .inBlock 1, .code (B_r10_Fresh.r.r.r.l.r.l.l.r.r), .inLoop (B_r10_Fresh.r.r.r.l.r.l.l), .inBlock 0, .code (B_r10_Fresh.r.r.r.r)] w
noncomputable def N_r10_Fresh.j16 (Q : Value → World → Prop) (s0 : Int) (s1 : Int) (s2 : Int) (s8 : Option Addr) (s8n : Nat) (s8c : Nat) (s9 : Int) (s10 : Int) (w : World) : Prop := Nd X_r10_Fresh Q [(0, 0, .int .i64 s0), (1, 1, .int .i64 s1), (2, 2, .int .i64 s2), (8, 8, .slice s8 s8n s8c), (9, 9, .int .i64 s9), (10, 10, .int .i64 s10)] [.code (B_r10_Fresh.r.r.r.l.r.l.l.r.l.l.r.r.l.l.r.l.r.r.r), .inBlock 3, .inLoop (B_r10_Fresh.r.r.r.l.r.l.l.r.l.l.r.r.l.l), .inBlock 2, .inBlock 1, .code (B_r10_Fresh.r.r.r.l.r.l.l.r.r), .inLoop (B_r10_Fresh.r.r.r.l.r.l.l), .inBlock 0, .code (B_r10_Fresh.r.r.r.r)] w
theorem N_r10_Fresh.j2_eq (Q : Value → World → Prop) (w : World) (h :
  Q (.tuple #[.slice none 0 0, .int .i64 1]) w) :
N_r10_Fresh.j2 Q w := Nd_fold K_r10_Fresh (by kernel_rfl) h
theorem N_r10_Fresh.j5_eq (Q : Value → World → Prop) (s0 : Int) (s1 : Int) (s2 : Int) (s8 : Option Addr) (s8n : Nat) (s8c : Nat) (s9 : Int) (w : World) (h :
  cond (decide (s9 ≤ 48))
  (C_r10_nodes #[.int .i64 s0, .int .i64 s9, .int .i64 s1] w fun v1 w2 =>
  opnI .i64 (some v1) fun x3 =>
  C_r10_power #[.int .i64 s0] w2 fun v4 w5 =>
  opnI .i64 (some v4) fun x6 =>
  x6 ≠ (0 : Int) ∧
  C_r10_Width #[.int .i64 s0, .int .i64 s9, .int .i64 (IntKind.wrap .i64 (Int.tdiv x3 x6)), .int .i64 s2] w5 fun v7 w8 =>
  opnT (some v7) fun x9 =>
  x9.size = 2 ∧
  opnI .i64 (x9[0]?) fun x10 =>
  opnI .i64 (x9[1]?) fun x11 =>
  N_r10_Fresh.j9 Q s0 s1 s2 s8 s8n s8c s9 (IntKind.wrap .i64 (Int.tdiv x3 x6)) x10 w8)
  (Q (.tuple #[.slice s8 s8n s8c, .int .i64 0]) w)) :
N_r10_Fresh.j5 Q s0 s1 s2 s8 s8n s8c s9 w := Nd_fold K_r10_Fresh (by kernel_rfl) h
theorem N_r10_Fresh.j9_eq (Q : Value → World → Prop) (s0 : Int) (s1 : Int) (s2 : Int) (s8 : Option Addr) (s8n : Nat) (s8c : Nat) (s9 : Int) (s10 : Int) (s11 : Int) (w : World) (h :
  cond (decide (s11 > 0))
  (C_r10_Width #[.int .i64 s0, .int .i64 s9, .int .i64 s10, .int .i64 s1] w fun v1 w2 =>
  opnT (some v1) fun x3 =>
  x3.size = 2 ∧
  opnI .i64 (x3[0]?) fun x4 =>
  opnI .i64 (x3[1]?) fun x5 =>
  cond (x4 != s11)
  (cond (((s8n : Nat) : Int) == 65536)
  (Q (.tuple #[.slice none 0 0, .int .i64 2]) w2)
  (alC #[.int .i64 s0, .int .i64 s9, .int .i64 s10, .int .i64 s11, .bool false] 56 w2 fun p6 w7 =>
  sem PP (Builtin.append_ #[64, 64] 64 #[.slice s8 s8n s8c, .slice (some p6) 1 1]) w7 fun v8 w9 =>
  opnL (some v8) fun x10 x10n x10c =>
  N_r10_Fresh.j15 Q s0 s1 s2 x10 x10n x10c s9 s10 w9))
  (N_r10_Fresh.j15 Q s0 s1 s2 s8 s8n s8c s9 s10 w2))
  (N_r10_Fresh.j5 Q s0 s1 s2 s8 s8n s8c (IntKind.wrap .i64 (s9 + 1)) w)) :
N_r10_Fresh.j9 Q s0 s1 s2 s8 s8n s8c s9 s10 s11 w := Nd_fold K_r10_Fresh (by kernel_rfl) h
theorem N_r10_Fresh.j15_eq (Q : Value → World → Prop) (s0 : Int) (s1 : Int) (s2 : Int) (s8 : Option Addr) (s8n : Nat) (s8c : Nat) (s9 : Int) (s10 : Int) (w : World) (h :
  N_r10_Fresh.j16 Q s0 s1 s2 s8 s8n s8c s9 (IntKind.wrap .i64 (s10 + 1)) w) :
N_r10_Fresh.j15 Q s0 s1 s2 s8 s8n s8c s9 s10 w := Nd_fold K_r10_Fresh (by kernel_rfl) h
theorem N_r10_Fresh.j16_eq (Q : Value → World → Prop) (s0 : Int) (s1 : Int) (s2 : Int) (s8 : Option Addr) (s8n : Nat) (s8c : Nat) (s9 : Int) (s10 : Int) (w : World) (h :
  C_r10_Width #[.int .i64 s0, .int .i64 s9, .int .i64 s10, .int .i64 s2] w fun v1 w2 =>
  opnT (some v1) fun x3 =>
  x3.size = 2 ∧
  opnI .i64 (x3[0]?) fun x4 =>
  opnI .i64 (x3[1]?) fun x5 =>
  N_r10_Fresh.j9 Q s0 s1 s2 s8 s8n s8c s9 s10 x4 w2) :
N_r10_Fresh.j16 Q s0 s1 s2 s8 s8n s8c s9 s10 w := Nd_fold K_r10_Fresh (by kernel_rfl) h
theorem C_r10_Fresh_eq (Q : Value → World → Prop) (a0 : Int) (a1 : Int) (a2 : Int) (w : World) (h :
  cond (decide (a0 < 1))
  (N_r10_Fresh.j2 Q w)
  (cond (decide (a0 > 8))
  (N_r10_Fresh.j2 Q w)
  (cond (decide (a2 < 0))
  (N_r10_Fresh.j2 Q w)
  (cond (decide (a2 > 281474976710656))
  (N_r10_Fresh.j2 Q w)
  (cond (decide (a1 < 0))
  (N_r10_Fresh.j2 Q w)
  (cond (decide (a1 > a2))
  (N_r10_Fresh.j2 Q w)
  (N_r10_Fresh.j5 Q a0 a1 a2 none 0 0 0 w))))))) :
C_r10_Fresh #[.int .i64 a0, .int .i64 a1, .int .i64 a2] w Q := C_fold K_r10_Fresh (by kernel_rfl) h
/-! ### ledger/tile.Plan -/
noncomputable def B_tile_Plan : Code := match Try.f30.body with | some c => c | _ => .skip
noncomputable def X_tile_Plan : Cx := { P := PP, fn := 30, N := 90, tab := tab, results := [.tmp 6, .tmp 7], iter := fun r => cond (Nat.beq r 78) (.strct 5 [.int .i64, .int .i64, .int .i64, .int .i64, .bool] [(0, 3), (1, 3), (2, 2), (3, 3), (4, 4)], .one (.int .i64)) ((.none, .none)), dyn := fun _ => false, live := fun r => cond (Nat.beq r 7) (some [0, 1, 2, 8, 33, 34, 35]) (cond (Nat.beq r 10) (some []) (cond (Nat.beq r 15) (some [0, 1, 12, 55, 56, 57]) (cond (Nat.beq r 18) (some [0, 1, 12, 55, 56, 57, 61, 62, 63]) (cond (Nat.beq r 25) (some [19, 78]) (none))))) }
theorem K_tile_Plan : OkF X_tile_Plan B_tile_Plan Try.f30 := ⟨⟨tab_ok, mix_ok⟩, Try.func30, by kernel_rfl, by kernel_rfl, by kernel_rfl, by kernel_rfl⟩
noncomputable def N_tile_Plan.j7 (Q : Value → World → Prop) (s0 : Int) (s1 : Int) (s2 : Option Addr) (s2n : Nat) (s2c : Nat) (s8 : Int) (s33 : Option Addr) (s33n : Nat) (s33c : Nat) (s34 : Int) (s35 : Int) (w : World) : Prop := Nd X_tile_Plan Q [(0, 0, .int .i64 s0), (1, 1, .int .i64 s1), (2, 2, .slice s2 s2n s2c), (8, 8, .int .i64 s8), (33, 33, .slice s33 s33n s33c), (34, 34, .int .i64 s34), (35, 35, .int .i64 s35)] [.code (B_tile_Plan.r.r.r.r.l.r.l.l.l), .code (B_tile_Plan.r.r.r.r.l.r.l.l.r), .inLoop (B_tile_Plan.r.r.r.r.l.r.l.l), .inBlock 0, .code (B_tile_Plan.r.r.r.r.r)] w
noncomputable def N_tile_Plan.j10 (Q : Value → World → Prop) (w : World) : Prop := Nd X_tile_Plan Q [] [.code (B_tile_Plan.r.r.r.r.l.r.l.l.r.r.l.l.r.r.l.l), .code (B_tile_Plan.r.r.r.r.l.r.l.l.r.r.l.l.r.r.l.r), .inBlock 1, .code (B_tile_Plan.r.r.r.r.l.r.l.l.r.r.r), .inLoop (B_tile_Plan.r.r.r.r.l.r.l.l), .inBlock 0, .code (B_tile_Plan.r.r.r.r.r)] w
noncomputable def N_tile_Plan.j15 (Q : Value → World → Prop) (s0 : Int) (s1 : Int) (s12 : Option Nat) (s55 : Option Addr) (s55n : Nat) (s55c : Nat) (s56 : Int) (s57 : Int) (w : World) : Prop := Nd X_tile_Plan Q [(0, 0, .int .i64 s0), (1, 1, .int .i64 s1), (12, 12, .map s12), (55, 55, .slice s55 s55n s55c), (56, 56, .int .i64 s56), (57, 57, .int .i64 s57)] [.code (B_tile_Plan.r.r.r.r.r.r.r.l.r.l.l.l), .code (B_tile_Plan.r.r.r.r.r.r.r.l.r.l.l.r), .inLoop (B_tile_Plan.r.r.r.r.r.r.r.l.r.l.l), .inBlock 2, .code (B_tile_Plan.r.r.r.r.r.r.r.r)] w
noncomputable def N_tile_Plan.j18 (Q : Value → World → Prop) (s0 : Int) (s1 : Int) (s12 : Option Nat) (s55 : Option Addr) (s55n : Nat) (s55c : Nat) (s56 : Int) (s57 : Int) (s61 : Option Addr) (s61n : Nat) (s61c : Nat) (s62 : Int) (s63 : Int) (w : World) : Prop := Nd X_tile_Plan Q [(0, 0, .int .i64 s0), (1, 1, .int .i64 s1), (12, 12, .map s12), (55, 55, .slice s55 s55n s55c), (56, 56, .int .i64 s56), (57, 57, .int .i64 s57), (61, 61, .slice s61 s61n s61c), (62, 62, .int .i64 s62), (63, 63, .int .i64 s63)] [.code (B_tile_Plan.r.r.r.r.r.r.r.l.r.l.l.r.r.l.l.r.r.l.l.l), .code (B_tile_Plan.r.r.r.r.r.r.r.l.r.l.l.r.r.l.l.r.r.l.l.r), .inLoop (B_tile_Plan.r.r.r.r.r.r.r.l.r.l.l.r.r.l.l.r.r.l.l), .inBlock 4, .inBlock 3, .code (B_tile_Plan.r.r.r.r.r.r.r.l.r.l.l.r.r.r), .inLoop (B_tile_Plan.r.r.r.r.r.r.r.l.r.l.l), .inBlock 2, .code (B_tile_Plan.r.r.r.r.r.r.r.r)] w
noncomputable def N_tile_Plan.j25 (Q : Value → World → Prop) (s19 : Option Addr) (s19n : Nat) (s19c : Nat) (s78 : Addr) (w : World) : Prop := Nd X_tile_Plan Q [(19, 19, .slice s19 s19n s19c), (78, 78, .pointer (some s78))] [.code (B_tile_Plan.r.r.r.r.r.r.r.r.r.l.r.l.l.l), .code (B_tile_Plan.r.r.r.r.r.r.r.r.r.l.r.l.l.r), .inLoop (B_tile_Plan.r.r.r.r.r.r.r.r.r.l.r.l.l), .inBlock 6, .code (B_tile_Plan.r.r.r.r.r.r.r.r.r.r)] w
theorem N_tile_Plan.j7_eq (Q : Value → World → Prop) (s0 : Int) (s1 : Int) (s2 : Option Addr) (s2n : Nat) (s2c : Nat) (s8 : Int) (s33 : Option Addr) (s33n : Nat) (s33c : Nat) (s34 : Int) (s35 : Int) (w : World) (h :
  cond (decide (s35 < s34))
  ((0 : Int) ≤ s35 ∧
  s35 < ((s33n : Nat) : Int) ∧
  opnA s33 fun ad1 =>
  opnI .i64 (w.cell? (ad1.add (Int.toNat s35 * 1))) fun x2 =>
  cond (decide (x2 < 0))
  (N_tile_Plan.j10 Q w)
  (cond (decide (x2 ≥ s8))
  (N_tile_Plan.j10 Q w)
  (N_tile_Plan.j7 Q s0 s1 s2 s2n s2c s8 s33 s33n s33c s34 (IntKind.wrap .i64 (s35 + 1)) w)))
  (alM w fun r3 w4 =>
  C_tlog_Peaks #[.int .i64 s1] w4 fun v5 w6 =>
  opnT (some v5) fun x7 =>
  x7.size = 2 ∧
  opnL (x7[0]?) fun x8 x8n x8c =>
  opnI .i64 (x7[1]?) fun x9 =>
  alC #[.slice x8 x8n x8c, .slice s2 s2n s2c] 51 w6 fun p10 w11 =>
  N_tile_Plan.j15 Q s0 s1 (some r3) (some p10) 2 2 ((2 : Nat) : Int) 0 w11)) :
N_tile_Plan.j7 Q s0 s1 s2 s2n s2c s8 s33 s33n s33c s34 s35 w := Nd_fold K_tile_Plan (by kernel_rfl) h
theorem N_tile_Plan.j10_eq (Q : Value → World → Prop) (w : World) (h :
  Q (.tuple #[.slice none 0 0, .int .i64 105]) w) :
N_tile_Plan.j10 Q w := Nd_fold K_tile_Plan (by kernel_rfl) h
theorem N_tile_Plan.j15_eq (Q : Value → World → Prop) (s0 : Int) (s1 : Int) (s12 : Option Nat) (s55 : Option Addr) (s55n : Nat) (s55c : Nat) (s56 : Int) (s57 : Int) (w : World) (h :
  cond (decide (s57 < s56))
  ((0 : Int) ≤ s57 ∧
  s57 < ((s55n : Nat) : Int) ∧
  opnA s55 fun ad1 =>
  opnL (w.cell? (ad1.add (Int.toNat s57 * 1))) fun x2 x2n x2c =>
  N_tile_Plan.j18 Q s0 s1 s12 s55 s55n s55c s56 s57 x2 x2n x2c ((x2n : Nat) : Int) 0 w)
  (semR PP (Builtin.len_ #[89] 3 #[.map s12]) w fun x3 =>
  opnI .i64 (some x3) fun x4 =>
  sem PP (Instr.makeSlice 42 (.int .i64 0) (.int .i64 x4)) w fun v5 w6 =>
  opnL (some v5) fun x7 x7n x7c =>
  sem PP (Instr.range 89 (.map s12)) w6 fun v8 w9 =>
  opnP (some v8) fun x10 =>
  opnA x10 fun ad11 =>
  N_tile_Plan.j25 Q x7 x7n x7c ad11 w9)) :
N_tile_Plan.j15 Q s0 s1 s12 s55 s55n s55c s56 s57 w := Nd_fold K_tile_Plan (by kernel_rfl) h
theorem N_tile_Plan.j18_eq (Q : Value → World → Prop) (s0 : Int) (s1 : Int) (s12 : Option Nat) (s55 : Option Addr) (s55n : Nat) (s55c : Nat) (s56 : Int) (s57 : Int) (s61 : Option Addr) (s61n : Nat) (s61c : Nat) (s62 : Int) (s63 : Int) (w : World) (h :
  cond (decide (s63 < s62))
  ((0 : Int) ≤ s63 ∧
  s63 < ((s61n : Nat) : Int) ∧
  opnA s61 fun ad1 =>
  opnI .i64 (w.cell? (ad1.add (Int.toNat s63 * 1))) fun x2 =>
  C_tile_need #[.map s12, .int .i64 s0, .int .i64 s1, .int .i64 x2] w fun v3 w4 =>
  opnT (some v3) fun x5 =>
  x5.size = 0 ∧
  N_tile_Plan.j18 Q s0 s1 s12 s55 s55n s55c s56 s57 s61 s61n s61c s62 (IntKind.wrap .i64 (s63 + 1)) w4)
  (N_tile_Plan.j15 Q s0 s1 s12 s55 s55n s55c s56 (IntKind.wrap .i64 (s57 + 1)) w)) :
N_tile_Plan.j18 Q s0 s1 s12 s55 s55n s55c s56 s57 s61 s61n s61c s62 s63 w := Nd_fold K_tile_Plan (by kernel_rfl) h
theorem N_tile_Plan.j25_eq (Q : Value → World → Prop) (s19 : Option Addr) (s19n : Nat) (s19c : Nat) (s78 : Addr) (w : World) (h :
  sem PP (Instr.next (.pointer (some s78)) false 0) w fun v1 w2 =>
  opnN v1
  (C_slices_SortFunc_tile_Tile_tile_Tile #[.slice s19 s19n s19c, .func (.func 45) #[] #[]] w2 fun v5 w6 =>
  opnT (some v5) fun x7 =>
  x7.size = 0 ∧
  Q (.tuple #[.slice s19 s19n s19c, .int .i64 0]) w6)
  fun k3 x4 =>
  opnG (some k3) fun x8 =>
  x8.size = 5 ∧
  opnI .i64 (x8[0]?) fun x9 =>
  opnI .i64 (x8[1]?) fun x10 =>
  opnI .i64 (x8[2]?) fun x11 =>
  opnI .i64 (x8[3]?) fun x12 =>
  opnB (x8[4]?) fun x13 =>
  opnI .i64 (some x4) fun x14 =>
  sem PP (Instr.entry (.pointer (some s78))) w2 fun v15 w16 =>
  opnT (some v15) fun x17 =>
  x17.size = 2 ∧
  opnG (x17[0]?) fun x18 =>
  x18.size = 5 ∧
  opnI .i64 (x18[0]?) fun x19 =>
  opnI .i64 (x18[1]?) fun x20 =>
  opnI .i64 (x18[2]?) fun x21 =>
  opnI .i64 (x18[3]?) fun x22 =>
  opnB (x18[4]?) fun x23 =>
  opnI .i64 (x17[1]?) fun x24 =>
  alC #[.int .i64 0, .int .i64 0, .int .i64 0, .int .i64 0, .bool false] 49 w16 fun p25 w26 =>
  Array.size (#[.int .i64 x19, .int .i64 x20, .int .i64 x21, .int .i64 x22, .bool x23] : Array Value) = 5 ∧
  stC (p25.add 0) (.int .i64 x19) w26 fun w27 =>
  stC (p25.add 1) (.int .i64 x20) w27 fun w28 =>
  stC (p25.add 2) (.int .i64 x21) w28 fun w29 =>
  stC (p25.add 3) (.int .i64 x22) w29 fun w30 =>
  stC (p25.add 4) (.bool x23) w30 fun w31 =>
  opnI .i64 (w31.cell? (p25.add 0)) fun x32 =>
  opnI .i64 (w31.cell? (p25.add 1)) fun x33 =>
  opnI .i64 (w31.cell? (p25.add 2)) fun x34 =>
  opnI .i64 (w31.cell? (p25.add 3)) fun x35 =>
  opnB (w31.cell? (p25.add 4)) fun x36 =>
  alC #[.int .i64 x32, .int .i64 x33, .int .i64 x34, .int .i64 x35, .bool x36] 49 w31 fun p37 w38 =>
  sem PP (Builtin.append_ #[42, 42] 42 #[.slice s19 s19n s19c, .slice (some p37) 1 1]) w38 fun v39 w40 =>
  opnL (some v39) fun x41 x41n x41c =>
  N_tile_Plan.j25 Q x41 x41n x41c s78 w40) :
N_tile_Plan.j25 Q s19 s19n s19c s78 w := Nd_fold K_tile_Plan (by kernel_rfl) h
theorem C_tile_Plan_eq (Q : Value → World → Prop) (a0 : Int) (a1 : Int) (a2 : Option Addr) (a2n : Nat) (a2c : Nat) (w : World) (h :
  C_tile_sizes #[.int .i64 a0, .int .i64 a1] w fun v1 w2 =>
  opnB (some v1) fun x3 =>
  cond (!x3)
  (Q (.tuple #[.slice none 0 0, .int .i64 1]) w2)
  (cond (decide (((a2n : Nat) : Int) > 1024))
  (Q (.tuple #[.slice none 0 0, .int .i64 2]) w2)
  (C_tlog_Count #[.int .i64 a1] w2 fun v4 w5 =>
  opnT (some v4) fun x6 =>
  x6.size = 2 ∧
  opnI .i64 (x6[0]?) fun x7 =>
  opnI .i64 (x6[1]?) fun x8 =>
  N_tile_Plan.j7 Q a0 a1 a2 a2n a2c x7 a2 a2n a2c ((a2n : Nat) : Int) 0 w5))) :
C_tile_Plan #[.int .i64 a0, .int .i64 a1, .slice a2 a2n a2c] w Q := C_fold K_tile_Plan (by kernel_rfl) h
/-! ### ledger/ledgerref10.Plan -/
noncomputable def B_r10_Plan : Code := match Try.f31.body with | some c => c | _ => .skip
noncomputable def X_r10_Plan : Cx := { P := PP, fn := 31, N := 133, tab := tab, results := [.tmp 6, .tmp 7], iter := fun _ => (.none, .none), dyn := fun _ => false, live := fun r => cond (Nat.beq r 2) (some []) (cond (Nat.beq r 9) (some [0, 1, 2, 8, 10, 12, 13]) (cond (Nat.beq r 10) (some [0, 1, 2, 8, 10, 12, 13]) (cond (Nat.beq r 15) (some [0, 1, 2, 8, 12, 15]) (cond (Nat.beq r 16) (some [0, 1, 2, 8, 12, 15]) (cond (Nat.beq r 18) (some []) (cond (Nat.beq r 23) (some [0, 1, 12, 17]) (cond (Nat.beq r 24) (some [0, 1, 12, 17]) (none)))))))) }
theorem K_r10_Plan : OkF X_r10_Plan B_r10_Plan Try.f31 := ⟨⟨tab_ok, mix_ok⟩, Try.func31, by kernel_rfl, by kernel_rfl, by kernel_rfl, by kernel_rfl⟩
noncomputable def N_r10_Plan.j2 (Q : Value → World → Prop) (w : World) : Prop := Nd X_r10_Plan Q [] [.code (B_r10_Plan.r.l.r.l.l), .code (B_r10_Plan.r.l.r.l.r), .code (B_r10_Plan.r.r)] w
noncomputable def N_r10_Plan.j9 (Q : Value → World → Prop) (s0 : Int) (s1 : Int) (s2 : Option Addr) (s2n : Nat) (s2c : Nat) (s8 : Int) (s10 : Option Addr) (s10n : Nat) (s10c : Nat) (s12 : Option Addr) (s12n : Nat) (s12c : Nat) (s13 : Int) (w : World) : Prop := Nd X_r10_Plan Q [(0, 0, .int .i64 s0), (1, 1, .int .i64 s1), (2, 2, .slice s2 s2n s2c), (8, 8, .int .i64 s8), (10, 10, .slice s10 s10n s10c), (12, 12, .slice s12 s12n s12c), (13, 13, .int .i64 s13)] [.code (B_r10_Plan.r.r.r.r.r.r.l.r.l.l.l.l), .code (B_r10_Plan.r.r.r.r.r.r.l.r.l.l.l.r), .code (B_r10_Plan.r.r.r.r.r.r.l.r.l.l.r), .inLoop (B_r10_Plan.r.r.r.r.r.r.l.r.l.l), .inBlock 0, .code (B_r10_Plan.r.r.r.r.r.r.r)] w
noncomputable def N_r10_Plan.j10 (Q : Value → World → Prop) (s0 : Int) (s1 : Int) (s2 : Option Addr) (s2n : Nat) (s2c : Nat) (s8 : Int) (s10 : Option Addr) (s10n : Nat) (s10c : Nat) (s12 : Option Addr) (s12n : Nat) (s12c : Nat) (s13 : Int) (w : World) : Prop := Nd X_r10_Plan Q [(0, 0, .int .i64 s0), (1, 1, .int .i64 s1), (2, 2, .slice s2 s2n s2c), (8, 8, .int .i64 s8), (10, 10, .slice s10 s10n s10c), (12, 12, .slice s12 s12n s12c), (13, 13, .int .i64 s13)] [.code (B_r10_Plan.r.r.r.r.r.r.l.r.l.l.r.r), .inLoop (B_r10_Plan.r.r.r.r.r.r.l.r.l.l), .inBlock 0, .code (B_r10_Plan.r.r.r.r.r.r.r)] w
noncomputable def N_r10_Plan.j15 (Q : Value → World → Prop) (s0 : Int) (s1 : Int) (s2 : Option Addr) (s2n : Nat) (s2c : Nat) (s8 : Int) (s12 : Option Addr) (s12n : Nat) (s12c : Nat) (s15 : Int) (w : World) : Prop := Nd X_r10_Plan Q [(0, 0, .int .i64 s0), (1, 1, .int .i64 s1), (2, 2, .slice s2 s2n s2c), (8, 8, .int .i64 s8), (12, 12, .slice s12 s12n s12c), (15, 15, .int .i64 s15)] [.code (B_r10_Plan.r.r.r.r.r.r.r.l.r.l.l.l.l), .code (B_r10_Plan.r.r.r.r.r.r.r.l.r.l.l.l.r), .code (B_r10_Plan.r.r.r.r.r.r.r.l.r.l.l.r), .inLoop (B_r10_Plan.r.r.r.r.r.r.r.l.r.l.l), .inBlock 2, .code (B_r10_Plan.r.r.r.r.r.r.r.r)] w
noncomputable def N_r10_Plan.j16 (Q : Value → World → Prop) (s0 : Int) (s1 : Int) (s2 : Option Addr) (s2n : Nat) (s2c : Nat) (s8 : Int) (s12 : Option Addr) (s12n : Nat) (s12c : Nat) (s15 : Int) (w : World) : Prop := Nd X_r10_Plan Q [(0, 0, .int .i64 s0), (1, 1, .int .i64 s1), (2, 2, .slice s2 s2n s2c), (8, 8, .int .i64 s8), (12, 12, .slice s12 s12n s12c), (15, 15, .int .i64 s15)] [.code (B_r10_Plan.r.r.r.r.r.r.r.l.r.l.l.r.r), .inLoop (B_r10_Plan.r.r.r.r.r.r.r.l.r.l.l), .inBlock 2, .code (B_r10_Plan.r.r.r.r.r.r.r.r)] w
noncomputable def N_r10_Plan.j18 (Q : Value → World → Prop) (w : World) : Prop := Nd X_r10_Plan Q [] [.code (B_r10_Plan.r.r.r.r.r.r.r.l.r.l.l.r.l.l.l.r.l.l), .code (B_r10_Plan.r.r.r.r.r.r.r.l.r.l.l.r.l.l.l.r.l.r), .code (B_r10_Plan.r.r.r.r.r.r.r.l.r.l.l.r.l.l.r), .inBlock 3, .code (B_r10_Plan.r.r.r.r.r.r.r.l.r.l.l.r.r), .inLoop (B_r10_Plan.r.r.r.r.r.r.r.l.r.l.l), .inBlock 2, .code (B_r10_Plan.r.r.r.r.r.r.r.r)] w
noncomputable def N_r10_Plan.j23 (Q : Value → World → Prop) (s0 : Int) (s1 : Int) (s12 : Option Addr) (s12n : Nat) (s12c : Nat) (s17 : Int) (w : World) : Prop := Nd X_r10_Plan Q [(0, 0, .int .i64 s0), (1, 1, .int .i64 s1), (12, 12, .slice s12 s12n s12c), (17, 17, .int .i64 s17)] [.code (B_r10_Plan.r.r.r.r.r.r.r.r.l.r.l.l.l.l), .code (B_r10_Plan.r.r.r.r.r.r.r.r.l.r.l.l.l.r), .code (B_r10_Plan.r.r.r.r.r.r.r.r.l.r.l.l.r), .inLoop (B_r10_Plan.r.r.r.r.r.r.r.r.l.r.l.l), .inBlock 4, .code (B_r10_Plan.r.r.r.r.r.r.r.r.r)] w
noncomputable def N_r10_Plan.j24 (Q : Value → World → Prop) (s0 : Int) (s1 : Int) (s12 : Option Addr) (s12n : Nat) (s12c : Nat) (s17 : Int) (w : World) : Prop := Nd X_r10_Plan Q [(0, 0, .int .i64 s0), (1, 1, .int .i64 s1), (12, 12, .slice s12 s12n s12c), (17, 17, .int .i64 s17)] [.code (B_r10_Plan.r.r.r.r.r.r.r.r.l.r.l.l.r.r), .inLoop (B_r10_Plan.r.r.r.r.r.r.r.r.l.r.l.l), .inBlock 4, .code (B_r10_Plan.r.r.r.r.r.r.r.r.r)] w
theorem N_r10_Plan.j2_eq (Q : Value → World → Prop) (w : World) (h :
  Q (.tuple #[.slice none 0 0, .int .i64 1]) w) :
N_r10_Plan.j2 Q w := Nd_fold K_r10_Plan (by kernel_rfl) h
theorem N_r10_Plan.j9_eq (Q : Value → World → Prop) (s0 : Int) (s1 : Int) (s2 : Option Addr) (s2n : Nat) (s2c : Nat) (s8 : Int) (s10 : Option Addr) (s10n : Nat) (s10c : Nat) (s12 : Option Addr) (s12n : Nat) (s12c : Nat) (s13 : Int) (w : World) (h :
  cond (decide (s13 < ((s10n : Nat) : Int)))
  ((0 : Int) ≤ s13 ∧
  s13 < ((s10n : Nat) : Int) ∧
  opnA s10 fun ad1 =>
  opnI .i64 (w.cell? (ad1.add (Int.toNat s13 * 1))) fun x2 =>
  C_r10_wide #[.int .i64 s0, .int .i64 s1, .int .i64 x2] w fun v3 w4 =>
  opnG (some v3) fun x5 =>
  x5.size = 5 ∧
  opnI .i64 (x5[0]?) fun x6 =>
  opnI .i64 (x5[1]?) fun x7 =>
  opnI .i64 (x5[2]?) fun x8 =>
  opnI .i64 (x5[3]?) fun x9 =>
  opnB (x5[4]?) fun x10 =>
  alC #[.int .i64 0, .int .i64 0, .int .i64 0, .int .i64 0, .bool false] 56 w4 fun p11 w12 =>
  Array.size (#[.int .i64 x6, .int .i64 x7, .int .i64 x8, .int .i64 x9, .bool x10] : Array Value) = 5 ∧
  stC (p11.add 0) (.int .i64 x6) w12 fun w13 =>
  stC (p11.add 1) (.int .i64 x7) w13 fun w14 =>
  stC (p11.add 2) (.int .i64 x8) w14 fun w15 =>
  stC (p11.add 3) (.int .i64 x9) w15 fun w16 =>
  stC (p11.add 4) (.bool x10) w16 fun w17 =>
  opnI .i64 (w17.cell? (p11.add 0)) fun x18 =>
  opnI .i64 (w17.cell? (p11.add 1)) fun x19 =>
  opnI .i64 (w17.cell? (p11.add 2)) fun x20 =>
  opnI .i64 (w17.cell? (p11.add 3)) fun x21 =>
  opnB (w17.cell? (p11.add 4)) fun x22 =>
  C_r10_within #[.slice s12 s12n s12c, .agg #[.int .i64 x18, .int .i64 x19, .int .i64 x20, .int .i64 x21, .bool x22]] w17 fun v23 w24 =>
  opnB (some v23) fun x25 =>
  cond (!x25)
  (opnI .i64 (w24.cell? (p11.add 0)) fun x26 =>
  opnI .i64 (w24.cell? (p11.add 1)) fun x27 =>
  opnI .i64 (w24.cell? (p11.add 2)) fun x28 =>
  opnI .i64 (w24.cell? (p11.add 3)) fun x29 =>
  opnB (w24.cell? (p11.add 4)) fun x30 =>
  alC #[.int .i64 x26, .int .i64 x27, .int .i64 x28, .int .i64 x29, .bool x30] 56 w24 fun p31 w32 =>
  sem PP (Builtin.append_ #[64, 64] 64 #[.slice s12 s12n s12c, .slice (some p31) 1 1]) w32 fun v33 w34 =>
  opnL (some v33) fun x35 x35n x35c =>
  N_r10_Plan.j10 Q s0 s1 s2 s2n s2c s8 s10 s10n s10c x35 x35n x35c s13 w34)
  (N_r10_Plan.j10 Q s0 s1 s2 s2n s2c s8 s10 s10n s10c s12 s12n s12c s13 w24))
  (N_r10_Plan.j15 Q s0 s1 s2 s2n s2c s8 s12 s12n s12c 0 w)) :
N_r10_Plan.j9 Q s0 s1 s2 s2n s2c s8 s10 s10n s10c s12 s12n s12c s13 w := Nd_fold K_r10_Plan (by kernel_rfl) h
theorem N_r10_Plan.j10_eq (Q : Value → World → Prop) (s0 : Int) (s1 : Int) (s2 : Option Addr) (s2n : Nat) (s2c : Nat) (s8 : Int) (s10 : Option Addr) (s10n : Nat) (s10c : Nat) (s12 : Option Addr) (s12n : Nat) (s12c : Nat) (s13 : Int) (w : World) (h :
  N_r10_Plan.j9 Q s0 s1 s2 s2n s2c s8 s10 s10n s10c s12 s12n s12c (IntKind.wrap .i64 (s13 + 1)) w) :
N_r10_Plan.j10 Q s0 s1 s2 s2n s2c s8 s10 s10n s10c s12 s12n s12c s13 w := Nd_fold K_r10_Plan (by kernel_rfl) h
theorem N_r10_Plan.j15_eq (Q : Value → World → Prop) (s0 : Int) (s1 : Int) (s2 : Option Addr) (s2n : Nat) (s2c : Nat) (s8 : Int) (s12 : Option Addr) (s12n : Nat) (s12c : Nat) (s15 : Int) (w : World) (h :
  cond (decide (s15 < ((s2n : Nat) : Int)))
  ((0 : Int) ≤ s15 ∧
  s15 < ((s2n : Nat) : Int) ∧
  opnA s2 fun ad1 =>
  opnI .i64 (w.cell? (ad1.add (Int.toNat s15 * 1))) fun x2 =>
  cond (decide (x2 < 0))
  (N_r10_Plan.j18 Q w)
  ((0 : Int) ≤ s15 ∧
  s15 < ((s2n : Nat) : Int) ∧
  opnA s2 fun ad3 =>
  opnI .i64 (w.cell? (ad3.add (Int.toNat s15 * 1))) fun x4 =>
  cond (decide (x4 ≥ s8))
  (N_r10_Plan.j18 Q w)
  ((0 : Int) ≤ s15 ∧
  s15 < ((s2n : Nat) : Int) ∧
  opnA s2 fun ad5 =>
  opnI .i64 (w.cell? (ad5.add (Int.toNat s15 * 1))) fun x6 =>
  C_r10_wide #[.int .i64 s0, .int .i64 s1, .int .i64 x6] w fun v7 w8 =>
  opnG (some v7) fun x9 =>
  x9.size = 5 ∧
  opnI .i64 (x9[0]?) fun x10 =>
  opnI .i64 (x9[1]?) fun x11 =>
  opnI .i64 (x9[2]?) fun x12 =>
  opnI .i64 (x9[3]?) fun x13 =>
  opnB (x9[4]?) fun x14 =>
  alC #[.int .i64 0, .int .i64 0, .int .i64 0, .int .i64 0, .bool false] 56 w8 fun p15 w16 =>
  Array.size (#[.int .i64 x10, .int .i64 x11, .int .i64 x12, .int .i64 x13, .bool x14] : Array Value) = 5 ∧
  stC (p15.add 0) (.int .i64 x10) w16 fun w17 =>
  stC (p15.add 1) (.int .i64 x11) w17 fun w18 =>
  stC (p15.add 2) (.int .i64 x12) w18 fun w19 =>
  stC (p15.add 3) (.int .i64 x13) w19 fun w20 =>
  stC (p15.add 4) (.bool x14) w20 fun w21 =>
  opnI .i64 (w21.cell? (p15.add 0)) fun x22 =>
  opnI .i64 (w21.cell? (p15.add 1)) fun x23 =>
  opnI .i64 (w21.cell? (p15.add 2)) fun x24 =>
  opnI .i64 (w21.cell? (p15.add 3)) fun x25 =>
  opnB (w21.cell? (p15.add 4)) fun x26 =>
  C_r10_within #[.slice s12 s12n s12c, .agg #[.int .i64 x22, .int .i64 x23, .int .i64 x24, .int .i64 x25, .bool x26]] w21 fun v27 w28 =>
  opnB (some v27) fun x29 =>
  cond (!x29)
  (opnI .i64 (w28.cell? (p15.add 0)) fun x30 =>
  opnI .i64 (w28.cell? (p15.add 1)) fun x31 =>
  opnI .i64 (w28.cell? (p15.add 2)) fun x32 =>
  opnI .i64 (w28.cell? (p15.add 3)) fun x33 =>
  opnB (w28.cell? (p15.add 4)) fun x34 =>
  alC #[.int .i64 x30, .int .i64 x31, .int .i64 x32, .int .i64 x33, .bool x34] 56 w28 fun p35 w36 =>
  sem PP (Builtin.append_ #[64, 64] 64 #[.slice s12 s12n s12c, .slice (some p35) 1 1]) w36 fun v37 w38 =>
  opnL (some v37) fun x39 x39n x39c =>
  N_r10_Plan.j16 Q s0 s1 s2 s2n s2c s8 x39 x39n x39c s15 w38)
  (N_r10_Plan.j16 Q s0 s1 s2 s2n s2c s8 s12 s12n s12c s15 w28))))
  (N_r10_Plan.j23 Q s0 s1 s12 s12n s12c 0 w)) :
N_r10_Plan.j15 Q s0 s1 s2 s2n s2c s8 s12 s12n s12c s15 w := Nd_fold K_r10_Plan (by kernel_rfl) h
theorem N_r10_Plan.j16_eq (Q : Value → World → Prop) (s0 : Int) (s1 : Int) (s2 : Option Addr) (s2n : Nat) (s2c : Nat) (s8 : Int) (s12 : Option Addr) (s12n : Nat) (s12c : Nat) (s15 : Int) (w : World) (h :
  N_r10_Plan.j15 Q s0 s1 s2 s2n s2c s8 s12 s12n s12c (IntKind.wrap .i64 (s15 + 1)) w) :
N_r10_Plan.j16 Q s0 s1 s2 s2n s2c s8 s12 s12n s12c s15 w := Nd_fold K_r10_Plan (by kernel_rfl) h
theorem N_r10_Plan.j18_eq (Q : Value → World → Prop) (w : World) (h :
  Q (.tuple #[.slice none 0 0, .int .i64 105]) w) :
N_r10_Plan.j18 Q w := Nd_fold K_r10_Plan (by kernel_rfl) h
theorem N_r10_Plan.j23_eq (Q : Value → World → Prop) (s0 : Int) (s1 : Int) (s12 : Option Addr) (s12n : Nat) (s12c : Nat) (s17 : Int) (w : World) (h :
  cond (decide (s17 < ((s12n : Nat) : Int)))
  (drw w fun w1 =>
  (0 : Int) ≤ s17 ∧
  s17 < ((s12n : Nat) : Int) ∧
  opnA s12 fun ad2 =>
  opnI .i64 (w1.cell? ((ad2.add (Int.toNat s17 * 5)).add 3)) fun x3 =>
  C_r10_power #[.int .i64 s0] w1 fun v4 w5 =>
  opnI .i64 (some v4) fun x6 =>
  (opnI .i64 (w5.cell? ((ad2.add (Int.toNat s17 * 5)).add 3)) fun x7 =>
  ((.int .i64 x7) : Value) = .int .i64 x3) ∧
  cond (x3 == x6)
  ((0 : Int) ≤ s17 ∧
  s17 < ((s12n : Nat) : Int) ∧
  opnA s12 fun ad8 =>
  opnI .i64 (w5.cell? ((ad8.add (Int.toNat s17 * 5)).add 0)) fun x9 =>
  opnI .i64 (w5.cell? ((ad8.add (Int.toNat s17 * 5)).add 1)) fun x10 =>
  opnI .i64 (w5.cell? ((ad8.add (Int.toNat s17 * 5)).add 2)) fun x11 =>
  opnI .i64 (w5.cell? ((ad8.add (Int.toNat s17 * 5)).add 3)) fun x12 =>
  opnB (w5.cell? ((ad8.add (Int.toNat s17 * 5)).add 4)) fun x13 =>
  C_r10_top #[.agg #[.int .i64 x9, .int .i64 x10, .int .i64 x11, .int .i64 x12, .bool x13]] w5 fun v14 w15 =>
  opnI .i64 (some v14) fun x16 =>
  C_r10_wide #[.int .i64 s0, .int .i64 s1, .int .i64 x16] w15 fun v17 w18 =>
  opnG (some v17) fun x19 =>
  x19.size = 5 ∧
  opnI .i64 (x19[0]?) fun x20 =>
  opnI .i64 (x19[1]?) fun x21 =>
  opnI .i64 (x19[2]?) fun x22 =>
  opnI .i64 (x19[3]?) fun x23 =>
  opnB (x19[4]?) fun x24 =>
  alC #[.int .i64 0, .int .i64 0, .int .i64 0, .int .i64 0, .bool false] 56 w18 fun p25 w26 =>
  Array.size (#[.int .i64 x20, .int .i64 x21, .int .i64 x22, .int .i64 x23, .bool x24] : Array Value) = 5 ∧
  stC (p25.add 0) (.int .i64 x20) w26 fun w27 =>
  stC (p25.add 1) (.int .i64 x21) w27 fun w28 =>
  stC (p25.add 2) (.int .i64 x22) w28 fun w29 =>
  stC (p25.add 3) (.int .i64 x23) w29 fun w30 =>
  stC (p25.add 4) (.bool x24) w30 fun w31 =>
  opnI .i64 (w31.cell? (p25.add 0)) fun x32 =>
  opnI .i64 (w31.cell? (p25.add 1)) fun x33 =>
  opnI .i64 (w31.cell? (p25.add 2)) fun x34 =>
  opnI .i64 (w31.cell? (p25.add 3)) fun x35 =>
  opnB (w31.cell? (p25.add 4)) fun x36 =>
  C_r10_within #[.slice s12 s12n s12c, .agg #[.int .i64 x32, .int .i64 x33, .int .i64 x34, .int .i64 x35, .bool x36]] w31 fun v37 w38 =>
  opnB (some v37) fun x39 =>
  cond (!x39)
  (opnI .i64 (w38.cell? (p25.add 0)) fun x40 =>
  opnI .i64 (w38.cell? (p25.add 1)) fun x41 =>
  opnI .i64 (w38.cell? (p25.add 2)) fun x42 =>
  opnI .i64 (w38.cell? (p25.add 3)) fun x43 =>
  opnB (w38.cell? (p25.add 4)) fun x44 =>
  alC #[.int .i64 x40, .int .i64 x41, .int .i64 x42, .int .i64 x43, .bool x44] 56 w38 fun p45 w46 =>
  sem PP (Builtin.append_ #[64, 64] 64 #[.slice s12 s12n s12c, .slice (some p45) 1 1]) w46 fun v47 w48 =>
  opnL (some v47) fun x49 x49n x49c =>
  N_r10_Plan.j24 Q s0 s1 x49 x49n x49c s17 w48)
  (N_r10_Plan.j24 Q s0 s1 s12 s12n s12c s17 w38))
  (N_r10_Plan.j24 Q s0 s1 s12 s12n s12c s17 w5))
  (C_r10_sorted #[.slice s12 s12n s12c] w fun v50 w51 =>
  opnL (some v50) fun x52 x52n x52c =>
  Q (.tuple #[.slice x52 x52n x52c, .int .i64 0]) w51)) :
N_r10_Plan.j23 Q s0 s1 s12 s12n s12c s17 w := Nd_fold K_r10_Plan (by kernel_rfl) h
theorem N_r10_Plan.j24_eq (Q : Value → World → Prop) (s0 : Int) (s1 : Int) (s12 : Option Addr) (s12n : Nat) (s12c : Nat) (s17 : Int) (w : World) (h :
  N_r10_Plan.j23 Q s0 s1 s12 s12n s12c (IntKind.wrap .i64 (s17 + 1)) w) :
N_r10_Plan.j24 Q s0 s1 s12 s12n s12c s17 w := Nd_fold K_r10_Plan (by kernel_rfl) h
theorem C_r10_Plan_eq (Q : Value → World → Prop) (a0 : Int) (a1 : Int) (a2 : Option Addr) (a2n : Nat) (a2c : Nat) (w : World) (h :
  cond (decide (a0 < 1))
  (N_r10_Plan.j2 Q w)
  (cond (decide (a0 > 8))
  (N_r10_Plan.j2 Q w)
  (cond (decide (a1 < 0))
  (N_r10_Plan.j2 Q w)
  (cond (decide (a1 > 281474976710656))
  (N_r10_Plan.j2 Q w)
  (cond (decide (((a2n : Nat) : Int) > 1024))
  (Q (.tuple #[.slice none 0 0, .int .i64 2]) w)
  (C_r08_Count #[.int .i64 a1] w fun v1 w2 =>
  opnT (some v1) fun x3 =>
  x3.size = 2 ∧
  opnI .i64 (x3[0]?) fun x4 =>
  opnI .i64 (x3[1]?) fun x5 =>
  C_r08_Peaks #[.int .i64 a1] w2 fun v6 w7 =>
  opnT (some v6) fun x8 =>
  x8.size = 2 ∧
  opnL (x8[0]?) fun x9 x9n x9c =>
  opnI .i64 (x8[1]?) fun x10 =>
  N_r10_Plan.j9 Q a0 a1 a2 a2n a2c x4 x9 x9n x9c none 0 0 0 w7)))))) :
C_r10_Plan #[.int .i64 a0, .int .i64 a1, .slice a2 a2n a2c] w Q := C_fold K_r10_Plan (by kernel_rfl) h
/-! ### ledger/ledgerlaw10.over -/
noncomputable def B_l10_over : Code := match Try.f32.body with | some c => c | _ => .skip
noncomputable def X_l10_over : Cx := { P := PP, fn := 32, N := 26, tab := tab, results := [.tmp 4], iter := fun _ => (.none, .none), dyn := fun _ => false, live := fun r => cond (Nat.beq r 2) (some [0, 1, 5]) (none) }
theorem K_l10_over : OkF X_l10_over B_l10_over Try.f32 := ⟨⟨tab_ok, mix_ok⟩, Try.func32, by kernel_rfl, by kernel_rfl, by kernel_rfl, by kernel_rfl⟩
noncomputable def N_l10_over.j2 (Q : Value → World → Prop) (s0 : Option Addr) (s0n : Nat) (s0c : Nat) (s1 : Int) (s5 : Int) (w : World) : Prop := Nd X_l10_over Q [(0, 0, .slice s0 s0n s0c), (1, 1, .int .i64 s1), (5, 5, .int .i64 s5)] [.code (B_l10_over.r.l.r.l.l.l.l), .code (B_l10_over.r.l.r.l.l.l.r), .code (B_l10_over.r.l.r.l.l.r), .inLoop (B_l10_over.r.l.r.l.l), .inBlock 0, .code (B_l10_over.r.r)] w
theorem N_l10_over.j2_eq (Q : Value → World → Prop) (s0 : Option Addr) (s0n : Nat) (s0c : Nat) (s1 : Int) (s5 : Int) (w : World) (h :
  cond (decide (s5 < ((s0n : Nat) : Int)))
  ((0 : Int) ≤ s5 ∧
  s5 < ((s0n : Nat) : Int) ∧
  opnA s0 fun ad1 =>
  stC ((ad1.add (Int.toNat s5 * 5)).add 2) (.int .i64 s1) w fun w2 =>
  N_l10_over.j2 Q s0 s0n s0c s1 (IntKind.wrap .i64 (s5 + 1)) w2)
  (alC #[.int .i64 0, .int .i64 0, .int .i64 s1, .int .i64 0, .bool false] 49 w fun p3 w4 =>
  sem PP (Builtin.append_ #[42, 42] 42 #[.slice s0 s0n s0c, .slice (some p3) 1 1]) w4 fun v5 w6 =>
  opnL (some v5) fun x7 x7n x7c =>
  alC #[.slice s0 s0n s0c, .slice x7 x7n x7c] 42 w6 fun p8 w9 =>
  Q (.slice (some p8) 2 2) w9)) :
N_l10_over.j2 Q s0 s0n s0c s1 s5 w := Nd_fold K_l10_over (by kernel_rfl) h
theorem C_l10_over_eq (Q : Value → World → Prop) (a0 : Option Addr) (a0n : Nat) (a0c : Nat) (a1 : Int) (w : World) (h :
  N_l10_over.j2 Q a0 a0n a0c a1 0 w) :
C_l10_over #[.slice a0 a0n a0c, .int .i64 a1] w Q := C_fold K_l10_over (by kernel_rfl) h
/-! ### ledger/ledgerlaw10.stay -/
noncomputable def B_l10_stay : Code := match Try.f33.body with | some c => c | _ => .skip
noncomputable def X_l10_stay : Cx := { P := PP, fn := 33, N := 32, tab := tab, results := [.tmp 4], iter := fun _ => (.none, .none), dyn := fun _ => false, live := fun r => cond (Nat.beq r 2) (some [0, 1, 5]) (cond (Nat.beq r 5) (some [0, 1, 5, 6]) (none)) }
theorem K_l10_stay : OkF X_l10_stay B_l10_stay Try.f33 := ⟨⟨tab_ok, mix_ok⟩, Try.func33, by kernel_rfl, by kernel_rfl, by kernel_rfl, by kernel_rfl⟩
noncomputable def N_l10_stay.j2 (Q : Value → World → Prop) (s0 : Option Addr) (s0n : Nat) (s0c : Nat) (s1 : Int) (s5 : Int) (w : World) : Prop := Nd X_l10_stay Q [(0, 0, .slice s0 s0n s0c), (1, 1, .int .i64 s1), (5, 5, .int .i64 s5)] [.code (B_l10_stay.r.l.r.l.l.l.l), .code (B_l10_stay.r.l.r.l.l.l.r), .code (B_l10_stay.r.l.r.l.l.r), .inLoop (B_l10_stay.r.l.r.l.l), .inBlock 0, .code (B_l10_stay.r.r)] w
noncomputable def N_l10_stay.j5 (Q : Value → World → Prop) (s0 : Option Addr) (s0n : Nat) (s0c : Nat) (s1 : Int) (s5 : Int) (s6 : Int) (w : World) : Prop := Nd X_l10_stay Q [(0, 0, .slice s0 s0n s0c), (1, 1, .int .i64 s1), (5, 5, .int .i64 s5), (6, 6, .int .i64 s6)] [.code (B_l10_stay.r.l.r.l.l.r.l.l.r.l.l.l.l), .code (B_l10_stay.r.l.r.l.l.r.l.l.r.l.l.l.r), .code (B_l10_stay.r.l.r.l.l.r.l.l.r.l.l.r), .inLoop (B_l10_stay.r.l.r.l.l.r.l.l.r.l.l), .inBlock 2, .inBlock 1, .code (B_l10_stay.r.l.r.l.l.r.r), .inLoop (B_l10_stay.r.l.r.l.l), .inBlock 0, .code (B_l10_stay.r.r)] w
theorem N_l10_stay.j2_eq (Q : Value → World → Prop) (s0 : Option Addr) (s0n : Nat) (s0c : Nat) (s1 : Int) (s5 : Int) (w : World) (h :
  cond (decide (s5 < ((s0n : Nat) : Int)))
  (N_l10_stay.j5 Q s0 s0n s0c s1 s5 0 w)
  (Q (.bool true) w)) :
N_l10_stay.j2 Q s0 s0n s0c s1 s5 w := Nd_fold K_l10_stay (by kernel_rfl) h
theorem N_l10_stay.j5_eq (Q : Value → World → Prop) (s0 : Option Addr) (s0n : Nat) (s0c : Nat) (s1 : Int) (s5 : Int) (s6 : Int) (w : World) (h :
  (0 : Int) ≤ s5 ∧
  s5 < ((s0n : Nat) : Int) ∧
  opnA s0 fun ad1 =>
  opnL (w.cell? (ad1.add (Int.toNat s5 * 1))) fun x2 x2n x2c =>
  cond (decide (s6 < ((x2n : Nat) : Int)))
  ((0 : Int) ≤ s5 ∧
  s5 < ((s0n : Nat) : Int) ∧
  opnA s0 fun ad3 =>
  opnL (w.cell? (ad3.add (Int.toNat s5 * 1))) fun x4 x4n x4c =>
  (0 : Int) ≤ s6 ∧
  s6 < ((x4n : Nat) : Int) ∧
  opnA x4 fun ad5 =>
  opnI .i64 (w.cell? ((ad5.add (Int.toNat s6 * 5)).add 2)) fun x6 =>
  cond (x6 != s1)
  (Q (.bool false) w)
  (N_l10_stay.j5 Q s0 s0n s0c s1 s5 (IntKind.wrap .i64 (s6 + 1)) w))
  (N_l10_stay.j2 Q s0 s0n s0c s1 (IntKind.wrap .i64 (s5 + 1)) w)) :
N_l10_stay.j5 Q s0 s0n s0c s1 s5 s6 w := Nd_fold K_l10_stay (by kernel_rfl) h
theorem C_l10_stay_eq (Q : Value → World → Prop) (a0 : Option Addr) (a0n : Nat) (a0c : Nat) (a1 : Int) (w : World) (h :
  N_l10_stay.j2 Q a0 a0n a0c a1 0 w) :
C_l10_stay #[.slice a0 a0n a0c, .int .i64 a1] w Q := C_fold K_l10_stay (by kernel_rfl) h
/-! ### ledger/tile.sizes -/
noncomputable def B_tile_sizes : Code := match Try.f34.body with | some c => c | _ => .skip
noncomputable def X_tile_sizes : Cx := { P := PP, fn := 34, N := 19, tab := tab, results := [.tmp 4], iter := fun _ => (.none, .none), dyn := fun _ => false, live := fun _ => none }
theorem K_tile_sizes : OkF X_tile_sizes B_tile_sizes Try.f34 := ⟨⟨tab_ok, mix_ok⟩, Try.func34, by kernel_rfl, by kernel_rfl, by kernel_rfl, by kernel_rfl⟩
theorem C_tile_sizes_eq (Q : Value → World → Prop) (a0 : Int) (a1 : Int) (w : World) (h :
  cond (decide (a0 ≥ 1))
  (cond (decide (a0 ≤ 8))
  (cond (decide (a1 ≥ 0))
  (Q (.bool (decide (a1 ≤ 281474976710656))) w)
  (Q (.bool false) w))
  (Q (.bool false) w))
  (Q (.bool false) w)) :
C_tile_sizes #[.int .i64 a0, .int .i64 a1] w Q := C_fold K_tile_sizes (by kernel_rfl) h
/-! ### ledger/tile.span -/
noncomputable def B_tile_span : Code := match Try.f35.body with | some c => c | _ => .skip
noncomputable def X_tile_span : Cx := { P := PP, fn := 35, N := 35, tab := tab, results := [.tmp 8, .tmp 9], iter := fun _ => (.none, .none), dyn := fun _ => false, live := fun _ => none }
theorem K_tile_span : OkF X_tile_span B_tile_span Try.f35 := ⟨⟨tab_ok, mix_ok⟩, Try.func35, by kernel_rfl, by kernel_rfl, by kernel_rfl, by kernel_rfl⟩
theorem C_tile_span_eq (Q : Value → World → Prop) (a0 : Int) (a1 : Int) (a2 : Int) (a3 : Int) (w : World) (h :
  drw w fun w1 =>
  nn (IntKind.wrap .i64 (a0 * a1)) (
  nn (IntKind.wrap .i64 (a0 * a1)) (
  cond ((shrI .i64 a2 (IntKind.wrap .i64 (a0 * a1))) == (shrI .i64 a3 (IntKind.wrap .i64 (a0 * a1))))
  (Q (.tuple #[.int .i64 0, .int .i64 0]) w1)
  (drw w1 fun w2 =>
  nn a0 (
  C_tile_full #[.int .i64 a0] w2 fun v3 w4 =>
  opnI .i64 (some v3) fun x5 =>
  nn a0 (
  Q (.tuple #[.int .i64 (shrI .i64 (shrI .i64 a2 (IntKind.wrap .i64 (a0 * a1))) a0), .int .i64 (shrI .i64 (IntKind.wrap .i64 ((IntKind.wrap .i64 ((shrI .i64 a3 (IntKind.wrap .i64 (a0 * a1))) + x5)) - 1)) a0)]) w4)))))) :
C_tile_span #[.int .i64 a0, .int .i64 a1, .int .i64 a2, .int .i64 a3] w Q := C_fold K_tile_span (by kernel_rfl) h
end Go.Proofs.Ytccjncflbbhldaa
