/- Functions' equations (printed by wip/gen/drive.py). -/
import Derived.Test.YtccjncflbbhldaaShT
set_option maxRecDepth 100000
namespace Go.Proofs.Ytccjncflbbhldaa
open Go.Sh
/-! ### ledger/tile.widthOf -/
noncomputable def B_tile_widthOf : Code := match Try.f36.body with | some c => c | _ => .skip
noncomputable def X_tile_widthOf : Cx := { P := PP, fn := 36, N := 32, tab := tab, results := [.tmp 8], iter := fun _ => (.none, .none), dyn := fun _ => false, live := fun _ => none }
theorem K_tile_widthOf : OkF X_tile_widthOf B_tile_widthOf Try.f36 := ⟨⟨tab_ok, mix_ok⟩, Try.func36, by kernel_rfl, by kernel_rfl, by kernel_rfl, by kernel_rfl⟩
theorem C_tile_widthOf_eq (Q : Value → World → Prop) (a0 : Int) (a1 : Int) (a2 : Int) (a3 : Int) (w : World) (h :
  a0 ≠ (0 : Int) ∧
  cond (decide (a1 > (IntKind.wrap .i64 (Int.tdiv 48 a0))))
  (Q (.int .i64 0) w)
  (nn (IntKind.wrap .i64 (a0 * a1)) (
  nn a0 (
  cond (decide (a2 > (shrI .i64 (shrI .i64 a3 (IntKind.wrap .i64 (a0 * a1))) a0)))
  (Q (.int .i64 0) w)
  (drw w fun w1 =>
  nn a0 (
  C_tile_full #[.int .i64 a0] w1 fun v2 w3 =>
  opnI .i64 (some v2) fun x4 =>
  Q (.int .i64 (if x4 < IntKind.wrap .i64 ((shrI .i64 a3 (IntKind.wrap .i64 (a0 * a1))) - (shlI .i64 a2 a0)) then x4 else IntKind.wrap .i64 ((shrI .i64 a3 (IntKind.wrap .i64 (a0 * a1))) - (shlI .i64 a2 a0)))) w3)))))) :
C_tile_widthOf #[.int .i64 a0, .int .i64 a1, .int .i64 a2, .int .i64 a3] w Q := C_fold K_tile_widthOf (by kernel_rfl) h
/-! ### ledger/tile.seatOf -/
noncomputable def B_tile_seatOf : Code := match Try.f37.body with | some c => c | _ => .skip
noncomputable def X_tile_seatOf : Cx := { P := PP, fn := 37, N := 49, tab := tab, results := [.cell 4 80, .tmp 5], iter := fun _ => (.none, .none), dyn := fun _ => false, live := fun _ => none }
theorem K_tile_seatOf : OkF X_tile_seatOf B_tile_seatOf Try.f37 := ⟨⟨tab_ok, mix_ok⟩, Try.func37, by kernel_rfl, by kernel_rfl, by kernel_rfl, by kernel_rfl⟩
theorem C_tile_seatOf_eq (Q : Value → World → Prop) (a0 : Int) (a1 : Int) (w : World) (h :
  alC #[.int .i64 0, .int .i64 0, .int .i64 0, .int .i64 0, .bool false, .int .i64 0, .int .i64 0] 80 w fun p1 w2 =>
  C_tlog_SplitIndex #[.int .i64 a1] w2 fun v3 w4 =>
  opnT (some v3) fun x5 =>
  x5.size = 3 ∧
  opnI .i64 (x5[0]?) fun x6 =>
  opnI .i64 (x5[1]?) fun x7 =>
  opnI .i64 (x5[2]?) fun x8 =>
  cond (x8 != 0)
  (Array.size (#[.int .i64 0, .int .i64 0, .int .i64 0, .int .i64 0, .bool false, .int .i64 0, .int .i64 0] : Array Value) = 7 ∧
  stC (p1.add 0) (.int .i64 0) w4 fun w9 =>
  stC (p1.add 1) (.int .i64 0) w9 fun w10 =>
  stC (p1.add 2) (.int .i64 0) w10 fun w11 =>
  stC (p1.add 3) (.int .i64 0) w11 fun w12 =>
  stC (p1.add 4) (.bool false) w12 fun w13 =>
  stC (p1.add 5) (.int .i64 0) w13 fun w14 =>
  stC (p1.add 6) (.int .i64 0) w14 fun w15 =>
  opnI .i64 (w15.cell? (p1.add 0)) fun x16 =>
  opnI .i64 (w15.cell? (p1.add 1)) fun x17 =>
  opnI .i64 (w15.cell? (p1.add 2)) fun x18 =>
  opnI .i64 (w15.cell? (p1.add 3)) fun x19 =>
  opnB (w15.cell? (p1.add 4)) fun x20 =>
  opnI .i64 (w15.cell? (p1.add 5)) fun x21 =>
  opnI .i64 (w15.cell? (p1.add 6)) fun x22 =>
  Q (.tuple #[.agg #[.int .i64 x16, .int .i64 x17, .int .i64 x18, .int .i64 x19, .bool x20, .int .i64 x21, .int .i64 x22], .bool false]) w15)
  (drw w4 fun w23 =>
  a0 ≠ (0 : Int) ∧
  a0 ≠ (0 : Int) ∧
  nn (Int.tmod x6 a0) (
  C_tile_full #[.int .i64 a0] w23 fun v24 w25 =>
  opnI .i64 (some v24) fun x26 =>
  drw w25 fun w27 =>
  nn a0 (
  nn (Int.tmod x6 a0) (
  Array.size (#[.int .i64 a0, .int .i64 (IntKind.wrap .i64 (Int.tdiv x6 a0)), .int .i64 (shrI .i64 (shlI .i64 x7 (Int.tmod x6 a0)) a0), .int .i64 (IntKind.wrap .i64 ((bits .and .i64 (shlI .i64 x7 (Int.tmod x6 a0)) (IntKind.wrap .i64 (x26 - 1))) + (shlI .i64 1 (Int.tmod x6 a0)))), .bool false, .int .i64 (bits .and .i64 (shlI .i64 x7 (Int.tmod x6 a0)) (IntKind.wrap .i64 (x26 - 1))), .int .i64 (Int.tmod x6 a0)] : Array Value) = 7 ∧
  stC (p1.add 0) (.int .i64 a0) w27 fun w28 =>
  stC (p1.add 1) (.int .i64 (IntKind.wrap .i64 (Int.tdiv x6 a0))) w28 fun w29 =>
  stC (p1.add 2) (.int .i64 (shrI .i64 (shlI .i64 x7 (Int.tmod x6 a0)) a0)) w29 fun w30 =>
  stC (p1.add 3) (.int .i64 (IntKind.wrap .i64 ((bits .and .i64 (shlI .i64 x7 (Int.tmod x6 a0)) (IntKind.wrap .i64 (x26 - 1))) + (shlI .i64 1 (Int.tmod x6 a0))))) w30 fun w31 =>
  stC (p1.add 4) (.bool false) w31 fun w32 =>
  stC (p1.add 5) (.int .i64 (bits .and .i64 (shlI .i64 x7 (Int.tmod x6 a0)) (IntKind.wrap .i64 (x26 - 1)))) w32 fun w33 =>
  stC (p1.add 6) (.int .i64 (Int.tmod x6 a0)) w33 fun w34 =>
  opnI .i64 (w34.cell? (p1.add 0)) fun x35 =>
  opnI .i64 (w34.cell? (p1.add 1)) fun x36 =>
  opnI .i64 (w34.cell? (p1.add 2)) fun x37 =>
  opnI .i64 (w34.cell? (p1.add 3)) fun x38 =>
  opnB (w34.cell? (p1.add 4)) fun x39 =>
  opnI .i64 (w34.cell? (p1.add 5)) fun x40 =>
  opnI .i64 (w34.cell? (p1.add 6)) fun x41 =>
  Q (.tuple #[.agg #[.int .i64 x35, .int .i64 x36, .int .i64 x37, .int .i64 x38, .bool x39, .int .i64 x40, .int .i64 x41], .bool true]) w34))))) :
C_tile_seatOf #[.int .i64 a0, .int .i64 a1] w Q := C_fold K_tile_seatOf (by kernel_rfl) h
/-! ### ledger/ledgerref08.SplitIndex -/
noncomputable def B_r08_SplitIndex : Code := match Try.f38.body with | some c => c | _ => .skip
noncomputable def X_r08_SplitIndex : Cx := { P := PP, fn := 38, N := 26, tab := tab, results := [.tmp 2, .tmp 3, .tmp 4], iter := fun _ => (.none, .none), dyn := fun _ => false, live := fun r => cond (Nat.beq r 2) (some []) (none) }
theorem K_r08_SplitIndex : OkF X_r08_SplitIndex B_r08_SplitIndex Try.f38 := ⟨⟨tab_ok, mix_ok⟩, Try.func38, by kernel_rfl, by kernel_rfl, by kernel_rfl, by kernel_rfl⟩
noncomputable def N_r08_SplitIndex.j2 (Q : Value → World → Prop) (w : World) : Prop := Nd X_r08_SplitIndex Q [] [.code (B_r08_SplitIndex.r.l.r.l.l), .code (B_r08_SplitIndex.r.l.r.l.r), .code (B_r08_SplitIndex.r.r)] w
theorem N_r08_SplitIndex.j2_eq (Q : Value → World → Prop) (w : World) (h :
  Q (.tuple #[.int .i64 0, .int .i64 0, .int .i64 1]) w) :
N_r08_SplitIndex.j2 Q w := Nd_fold K_r08_SplitIndex (by kernel_rfl) h
theorem C_r08_SplitIndex_eq (Q : Value → World → Prop) (a0 : Int) (w : World) (h :
  cond (decide (a0 < 0))
  (N_r08_SplitIndex.j2 Q w)
  (cond (decide (a0 ≥ 562949953421311))
  (N_r08_SplitIndex.j2 Q w)
  (C_r08_record #[.int .i64 a0] w fun v1 w2 =>
  opnI .i64 (some v1) fun x3 =>
  C_r08_laid #[.int .i64 x3] w2 fun v4 w5 =>
  opnI .i64 (some v4) fun x6 =>
  drw w5 fun w7 =>
  C_r08_power #[.int .i64 (IntKind.wrap .i64 (a0 - x6))] w7 fun v8 w9 =>
  opnI .i64 (some v8) fun x10 =>
  x10 ≠ (0 : Int) ∧
  Q (.tuple #[.int .i64 (IntKind.wrap .i64 (a0 - x6)), .int .i64 (IntKind.wrap .i64 ((IntKind.wrap .i64 (Int.tdiv (IntKind.wrap .i64 (x3 + 1)) x10)) - 1)), .int .i64 0]) w9))) :
C_r08_SplitIndex #[.int .i64 a0] w Q := C_fold K_r08_SplitIndex (by kernel_rfl) h
/-! ### ledger/ledgerref10.power -/
noncomputable def B_r10_power : Code := match Try.f39.body with | some c => c | _ => .skip
noncomputable def X_r10_power : Cx := { P := PP, fn := 39, N := 6, tab := tab, results := [.tmp 2], iter := fun _ => (.none, .none), dyn := fun _ => false, live := fun _ => none }
theorem K_r10_power : OkF X_r10_power B_r10_power Try.f39 := ⟨⟨tab_ok, mix_ok⟩, Try.func39, by kernel_rfl, by kernel_rfl, by kernel_rfl, by kernel_rfl⟩
theorem C_r10_power_eq (Q : Value → World → Prop) (a0 : Int) (w : World) (h :
  nn (IntKind.wrap .u64 a0) (
  Q (.int .i64 (shlI .i64 1 (IntKind.wrap .u64 a0))) w)) :
C_r10_power #[.int .i64 a0] w Q := C_fold K_r10_power (by kernel_rfl) h
/-! ### ledger/ledgerref10.nodes -/
noncomputable def B_r10_nodes : Code := match Try.f40.body with | some c => c | _ => .skip
noncomputable def X_r10_nodes : Cx := { P := PP, fn := 40, N := 21, tab := tab, results := [.tmp 6], iter := fun _ => (.none, .none), dyn := fun _ => false, live := fun r => cond (Nat.beq r 2) (some []) (none) }
theorem K_r10_nodes : OkF X_r10_nodes B_r10_nodes Try.f40 := ⟨⟨tab_ok, mix_ok⟩, Try.func40, by kernel_rfl, by kernel_rfl, by kernel_rfl, by kernel_rfl⟩
noncomputable def N_r10_nodes.j2 (Q : Value → World → Prop) (w : World) : Prop := Nd X_r10_nodes Q [] [.code (B_r10_nodes.r.l.r.l.l), .code (B_r10_nodes.r.l.r.l.r), .code (B_r10_nodes.r.r)] w
theorem N_r10_nodes.j2_eq (Q : Value → World → Prop) (w : World) (h :
  Q (.int .i64 0) w) :
N_r10_nodes.j2 Q w := Nd_fold K_r10_nodes (by kernel_rfl) h
theorem C_r10_nodes_eq (Q : Value → World → Prop) (a0 : Int) (a1 : Int) (a2 : Int) (w : World) (h :
  cond (decide (a1 > 48))
  (N_r10_nodes.j2 Q w)
  (cond (decide ((IntKind.wrap .i64 (a0 * a1)) > 48))
  (N_r10_nodes.j2 Q w)
  (C_r10_power #[.int .i64 (IntKind.wrap .i64 (a0 * a1))] w fun v1 w2 =>
  opnI .i64 (some v1) fun x3 =>
  x3 ≠ (0 : Int) ∧
  Q (.int .i64 (IntKind.wrap .i64 (Int.tdiv a2 x3))) w2))) :
C_r10_nodes #[.int .i64 a0, .int .i64 a1, .int .i64 a2] w Q := C_fold K_r10_nodes (by kernel_rfl) h
/-! ### ledger/tlog.Count -/
noncomputable def B_tlog_Count : Code := match Try.f41.body with | some c => c | _ => .skip
noncomputable def X_tlog_Count : Cx := { P := PP, fn := 41, N := 12, tab := tab, results := [.tmp 2, .tmp 3], iter := fun _ => (.none, .none), dyn := fun _ => false, live := fun r => cond (Nat.beq r 2) (some []) (none) }
theorem K_tlog_Count : OkF X_tlog_Count B_tlog_Count Try.f41 := ⟨⟨tab_ok, mix_ok⟩, Try.func41, by kernel_rfl, by kernel_rfl, by kernel_rfl, by kernel_rfl⟩
noncomputable def N_tlog_Count.j2 (Q : Value → World → Prop) (w : World) : Prop := Nd X_tlog_Count Q [] [.code (B_tlog_Count.r.l.r.l.l), .code (B_tlog_Count.r.l.r.l.r), .code (B_tlog_Count.r.r)] w
theorem N_tlog_Count.j2_eq (Q : Value → World → Prop) (w : World) (h :
  Q (.tuple #[.int .i64 0, .int .i64 1]) w) :
N_tlog_Count.j2 Q w := Nd_fold K_tlog_Count (by kernel_rfl) h
theorem C_tlog_Count_eq (Q : Value → World → Prop) (a0 : Int) (w : World) (h :
  cond (decide (a0 < 0))
  (N_tlog_Count.j2 Q w)
  (cond (decide (a0 > 281474976710656))
  (N_tlog_Count.j2 Q w)
  (C_tlog_count #[.int .i64 a0] w fun v1 w2 =>
  opnI .i64 (some v1) fun x3 =>
  Q (.tuple #[.int .i64 x3, .int .i64 0]) w2))) :
C_tlog_Count #[.int .i64 a0] w Q := C_fold K_tlog_Count (by kernel_rfl) h
/-! ### ledger/tlog.Peaks -/
noncomputable def B_tlog_Peaks : Code := match Try.f42.body with | some c => c | _ => .skip
noncomputable def X_tlog_Peaks : Cx := { P := PP, fn := 42, N := 12, tab := tab, results := [.tmp 2, .tmp 3], iter := fun _ => (.none, .none), dyn := fun _ => false, live := fun r => cond (Nat.beq r 2) (some []) (none) }
theorem K_tlog_Peaks : OkF X_tlog_Peaks B_tlog_Peaks Try.f42 := ⟨⟨tab_ok, mix_ok⟩, Try.func42, by kernel_rfl, by kernel_rfl, by kernel_rfl, by kernel_rfl⟩
noncomputable def N_tlog_Peaks.j2 (Q : Value → World → Prop) (w : World) : Prop := Nd X_tlog_Peaks Q [] [.code (B_tlog_Peaks.r.l.r.l.l), .code (B_tlog_Peaks.r.l.r.l.r), .code (B_tlog_Peaks.r.r)] w
theorem N_tlog_Peaks.j2_eq (Q : Value → World → Prop) (w : World) (h :
  Q (.tuple #[.slice none 0 0, .int .i64 1]) w) :
N_tlog_Peaks.j2 Q w := Nd_fold K_tlog_Peaks (by kernel_rfl) h
theorem C_tlog_Peaks_eq (Q : Value → World → Prop) (a0 : Int) (w : World) (h :
  cond (decide (a0 < 0))
  (N_tlog_Peaks.j2 Q w)
  (cond (decide (a0 > 281474976710656))
  (N_tlog_Peaks.j2 Q w)
  (C_tlog_peaks #[.int .i64 a0] w fun v1 w2 =>
  opnL (some v1) fun x3 x3n x3c =>
  Q (.tuple #[.slice x3 x3n x3c, .int .i64 0]) w2))) :
C_tlog_Peaks #[.int .i64 a0] w Q := C_fold K_tlog_Peaks (by kernel_rfl) h
/-! ### ledger/tile.need -/
noncomputable def B_tile_need : Code := match Try.f43.body with | some c => c | _ => .skip
noncomputable def X_tile_need : Cx := { P := PP, fn := 43, N := 44, tab := tab, results := [], iter := fun _ => (.none, .none), dyn := fun _ => false, live := fun r => cond (Nat.beq r 0) (some [0, 1, 2, 3]) (cond (Nat.beq r 3) (some [0, 1, 2, 10, 23, 24]) (none)) }
theorem K_tile_need : OkF X_tile_need B_tile_need Try.f43 := ⟨⟨tab_ok, mix_ok⟩, Try.func43, by kernel_rfl, by kernel_rfl, by kernel_rfl, by kernel_rfl⟩
noncomputable def N_tile_need.j0 (Q : Value → World → Prop) (s0 : Option Nat) (s1 : Int) (s2 : Int) (s3 : Int) (w : World) : Prop := Nd X_tile_need Q [(0, 0, .map s0), (1, 1, .int .i64 s1), (2, 2, .int .i64 s2), (3, 3, .int .i64 s3)] [.code (B_tile_need.l.r.l.l.l.l), .code (B_tile_need.l.r.l.l.l.r), .inBlock 1, .inLoop (B_tile_need.l.r.l.l), .inBlock 0, .inScope (B_tile_need.l)] w
noncomputable def N_tile_need.j3 (Q : Value → World → Prop) (s0 : Option Nat) (s1 : Int) (s2 : Int) (s10 : Addr) (s23 : Int) (s24 : Int) (w : World) : Prop := Nd X_tile_need Q [(0, 0, .map s0), (1, 1, .int .i64 s1), (2, 2, .int .i64 s2), (10, 10, .pointer (some s10)), (23, 23, .int .i64 s23), (24, 24, .int .i64 s24)] [.code (B_tile_need.l.r.l.l.l.r.r.l.r.l.l.l), .code (B_tile_need.l.r.l.l.l.r.r.l.r.l.l.r), .inLoop (B_tile_need.l.r.l.l.l.r.r.l.r.l.l), .inBlock 2, .code (B_tile_need.l.r.l.l.l.r.r.r), .inBlock 1, .inLoop (B_tile_need.l.r.l.l), .inBlock 0, .inScope (B_tile_need.l)] w
theorem N_tile_need.j0_eq (Q : Value → World → Prop) (s0 : Option Nat) (s1 : Int) (s2 : Int) (s3 : Int) (w : World) (h :
  C_tile_seatOf #[.int .i64 s1, .int .i64 s3] w fun v1 w2 =>
  opnT (some v1) fun x3 =>
  x3.size = 2 ∧
  opnG (x3[0]?) fun x4 =>
  x4.size = 7 ∧
  opnI .i64 (x4[0]?) fun x5 =>
  opnI .i64 (x4[1]?) fun x6 =>
  opnI .i64 (x4[2]?) fun x7 =>
  opnI .i64 (x4[3]?) fun x8 =>
  opnB (x4[4]?) fun x9 =>
  opnI .i64 (x4[5]?) fun x10 =>
  opnI .i64 (x4[6]?) fun x11 =>
  opnB (x3[1]?) fun x12 =>
  alC #[.int .i64 0, .int .i64 0, .int .i64 0, .int .i64 0, .bool false, .int .i64 0, .int .i64 0] 80 w2 fun p13 w14 =>
  Array.size (#[.int .i64 x5, .int .i64 x6, .int .i64 x7, .int .i64 x8, .bool x9, .int .i64 x10, .int .i64 x11] : Array Value) = 7 ∧
  stC (p13.add 0) (.int .i64 x5) w14 fun w15 =>
  stC (p13.add 1) (.int .i64 x6) w15 fun w16 =>
  stC (p13.add 2) (.int .i64 x7) w16 fun w17 =>
  stC (p13.add 3) (.int .i64 x8) w17 fun w18 =>
  stC (p13.add 4) (.bool x9) w18 fun w19 =>
  stC (p13.add 5) (.int .i64 x10) w19 fun w20 =>
  stC (p13.add 6) (.int .i64 x11) w20 fun w21 =>
  opnI .i64 (w21.cell? ((p13.add 0).add 0)) fun x22 =>
  opnI .i64 (w21.cell? ((p13.add 0).add 1)) fun x23 =>
  opnI .i64 (w21.cell? ((p13.add 0).add 2)) fun x24 =>
  opnI .i64 (w21.cell? ((p13.add 0).add 3)) fun x25 =>
  opnB (w21.cell? ((p13.add 0).add 4)) fun x26 =>
  C_tile_wide #[.agg #[.int .i64 x22, .int .i64 x23, .int .i64 x24, .int .i64 x25, .bool x26], .int .i64 s2] w21 fun v27 w28 =>
  opnG (some v27) fun x29 =>
  x29.size = 5 ∧
  opnI .i64 (x29[0]?) fun x30 =>
  opnI .i64 (x29[1]?) fun x31 =>
  opnI .i64 (x29[2]?) fun x32 =>
  opnI .i64 (x29[3]?) fun x33 =>
  opnB (x29[4]?) fun x34 =>
  alC #[.int .i64 0, .int .i64 0, .int .i64 0, .int .i64 0, .bool false] 49 w28 fun p35 w36 =>
  Array.size (#[.int .i64 x30, .int .i64 x31, .int .i64 x32, .int .i64 x33, .bool x34] : Array Value) = 5 ∧
  stC (p35.add 0) (.int .i64 x30) w36 fun w37 =>
  stC (p35.add 1) (.int .i64 x31) w37 fun w38 =>
  stC (p35.add 2) (.int .i64 x32) w38 fun w39 =>
  stC (p35.add 3) (.int .i64 x33) w39 fun w40 =>
  stC (p35.add 4) (.bool x34) w40 fun w41 =>
  opnI .i64 (w41.cell? (p35.add 0)) fun x42 =>
  opnI .i64 (w41.cell? (p35.add 1)) fun x43 =>
  opnI .i64 (w41.cell? (p35.add 2)) fun x44 =>
  opnI .i64 (w41.cell? (p35.add 3)) fun x45 =>
  opnB (w41.cell? (p35.add 4)) fun x46 =>
  semR PP (Instr.lookup 89 (.map s0) (.agg #[.int .i64 x42, .int .i64 x43, .int .i64 x44, .int .i64 x45, .bool x46]) false) w41 fun x47 =>
  opnI .i64 (some x47) fun x48 =>
  N_tile_need.j3 Q s0 s1 s2 p35 x48 0 w41) :
N_tile_need.j0 Q s0 s1 s2 s3 w := Nd_fold K_tile_need (by kernel_rfl) h
theorem N_tile_need.j3_eq (Q : Value → World → Prop) (s0 : Option Nat) (s1 : Int) (s2 : Int) (s10 : Addr) (s23 : Int) (s24 : Int) (w : World) (h :
  cond (decide (s24 < s23))
  (Q (.tuple #[]) w)
  (opnI .i64 (w.cell? (s10.add 0)) fun x1 =>
  opnI .i64 (w.cell? (s10.add 1)) fun x2 =>
  opnI .i64 (w.cell? (s10.add 2)) fun x3 =>
  opnI .i64 (w.cell? (s10.add 3)) fun x4 =>
  opnB (w.cell? (s10.add 4)) fun x5 =>
  semU PP (Instr.mapUpdate 89 (.map s0) (.agg #[.int .i64 x1, .int .i64 x2, .int .i64 x3, .int .i64 x4, .bool x5]) (.int .i64 1)) w fun w6 =>
  drw w6 fun w7 =>
  opnI .i64 (w7.cell? (s10.add 3)) fun x8 =>
  C_tile_full #[.int .i64 s1] w7 fun v9 w10 =>
  opnI .i64 (some v9) fun x11 =>
  (opnI .i64 (w10.cell? (s10.add 3)) fun x12 =>
  ((.int .i64 x12) : Value) = .int .i64 x8) ∧
  cond (decide (x8 < x11))
  (Q (.tuple #[]) w10)
  (opnI .i64 (w10.cell? (s10.add 1)) fun x13 =>
  cond (decide ((IntKind.wrap .i64 (s1 * (IntKind.wrap .i64 (x13 + 1)))) > 48))
  (Q (.tuple #[]) w10)
  (opnI .i64 (w10.cell? (s10.add 0)) fun x14 =>
  opnI .i64 (w10.cell? (s10.add 1)) fun x15 =>
  opnI .i64 (w10.cell? (s10.add 2)) fun x16 =>
  opnI .i64 (w10.cell? (s10.add 3)) fun x17 =>
  opnB (w10.cell? (s10.add 4)) fun x18 =>
  C_tile_topOf #[.agg #[.int .i64 x14, .int .i64 x15, .int .i64 x16, .int .i64 x17, .bool x18]] w10 fun v19 w20 =>
  opnI .i64 (some v19) fun x21 =>
  N_tile_need.j0 Q s0 s1 s2 x21 w20)))) :
N_tile_need.j3 Q s0 s1 s2 s10 s23 s24 w := Nd_fold K_tile_need (by kernel_rfl) h
theorem C_tile_need_eq (Q : Value → World → Prop) (a0 : Option Nat) (a1 : Int) (a2 : Int) (a3 : Int) (w : World) (h :
  N_tile_need.j0 Q a0 a1 a2 a3 w) :
C_tile_need #[.map a0, .int .i64 a1, .int .i64 a2, .int .i64 a3] w Q := C_fold K_tile_need (by kernel_rfl) h
/-! ### slices.SortFunc[[]ledger/tile.Tile,ledger/tile.Tile] -/
noncomputable def B_slices_SortFunc_tile_Tile_tile_Tile : Code := match Try.f44.body with | some c => c | _ => .skip
noncomputable def X_slices_SortFunc_tile_Tile_tile_Tile : Cx := { P := PP, fn := 44, N := 14, tab := tab, results := [], iter := fun _ => (.none, .none), dyn := fun _ => false, live := fun _ => none }
theorem K_slices_SortFunc_tile_Tile_tile_Tile : OkF X_slices_SortFunc_tile_Tile_tile_Tile B_slices_SortFunc_tile_Tile_tile_Tile Try.f44 := ⟨⟨tab_ok, mix_ok⟩, Try.func44, by kernel_rfl, by kernel_rfl, by kernel_rfl, by kernel_rfl⟩
theorem C_slices_SortFunc_tile_Tile_tile_Tile_eq (Q : Value → World → Prop) (a0 : Option Addr) (a0n : Nat) (a0c : Nat) (a1 : Value) (w : World) (h :
  C_math_bits_Len #[.int .u64 (IntKind.wrap .u64 ((a0n : Nat) : Int))] w fun v1 w2 =>
  opnI .i64 (some v1) fun x3 =>
  C_slices_pdqsortCmpFunc_tile_Tile #[.slice a0 a0n a0c, .int .i64 0, .int .i64 ((a0n : Nat) : Int), .int .i64 x3, a1] w2 fun v4 w5 =>
  opnT (some v4) fun x6 =>
  x6.size = 0 ∧
  Q (.tuple #[]) w5) :
C_slices_SortFunc_tile_Tile_tile_Tile #[.slice a0 a0n a0c, a1] w Q := C_fold K_slices_SortFunc_tile_Tile_tile_Tile (by kernel_rfl) h
/-! ### ledger/tile.Plan$1 -/
noncomputable def B_tile_Plan_S1 : Code := match Try.f45.body with | some c => c | _ => .skip
noncomputable def X_tile_Plan_S1 : Cx := { P := PP, fn := 45, N := 17, tab := tab, results := [.tmp 4], iter := fun _ => (.none, .none), dyn := fun _ => false, live := fun _ => none }
theorem K_tile_Plan_S1 : OkF X_tile_Plan_S1 B_tile_Plan_S1 Try.f45 := ⟨⟨tab_ok, mix_ok⟩, Try.func45, by kernel_rfl, by kernel_rfl, by kernel_rfl, by kernel_rfl⟩
theorem C_tile_Plan_S1_eq (Q : Value → World → Prop) (a0_0 : Int) (a0_1 : Int) (a0_2 : Int) (a0_3 : Int) (a0_4 : Bool) (a1_0 : Int) (a1_1 : Int) (a1_2 : Int) (a1_3 : Int) (a1_4 : Bool) (w : World) (h :
  alC #[.int .i64 a0_0, .int .i64 a0_1, .int .i64 a0_2, .int .i64 a0_3, .bool a0_4] 49 w fun p1 w2 =>
  alC #[.int .i64 a1_0, .int .i64 a1_1, .int .i64 a1_2, .int .i64 a1_3, .bool a1_4] 49 w2 fun p3 w4 =>
  drw w4 fun w5 =>
  opnI .i64 (w5.cell? (p3.add 1)) fun x6 =>
  opnI .i64 (w5.cell? (p1.add 1)) fun x7 =>
  opnI .i64 (w5.cell? (p1.add 2)) fun x8 =>
  opnI .i64 (w5.cell? (p3.add 2)) fun x9 =>
  C_cmp_Compare_int #[.int .i64 x6, .int .i64 x7] w5 fun v10 w11 =>
  opnI .i64 (some v10) fun x12 =>
  (opnI .i64 (w11.cell? (p3.add 2)) fun x13 =>
  ((.int .i64 x13) : Value) = .int .i64 x9) ∧
  (opnI .i64 (w11.cell? (p1.add 2)) fun x14 =>
  ((.int .i64 x14) : Value) = .int .i64 x8) ∧
  C_cmp_Compare_int64 #[.int .i64 x8, .int .i64 x9] w11 fun v15 w16 =>
  opnI .i64 (some v15) fun x17 =>
  alC #[.int .i64 x12, .int .i64 x17] 3 w16 fun p18 w19 =>
  C_cmp_Or_int #[.slice (some p18) 2 2] w19 fun v20 w21 =>
  opnI .i64 (some v20) fun x22 =>
  Q (.int .i64 x22) w21) :
C_tile_Plan_S1 #[.agg #[.int .i64 a0_0, .int .i64 a0_1, .int .i64 a0_2, .int .i64 a0_3, .bool a0_4], .agg #[.int .i64 a1_0, .int .i64 a1_1, .int .i64 a1_2, .int .i64 a1_3, .bool a1_4]] w Q := C_fold K_tile_Plan_S1 (by kernel_rfl) h
/-! ### cmp.Or[int] -/
noncomputable def B_cmp_Or_int : Code := match Try.f46.body with | some c => c | _ => .skip
noncomputable def X_cmp_Or_int : Cx := { P := PP, fn := 46, N := 18, tab := tab, results := [.tmp 2], iter := fun _ => (.none, .none), dyn := fun _ => false, live := fun r => cond (Nat.beq r 3) (some [3, 6, 7, 8]) (none) }
theorem K_cmp_Or_int : OkF X_cmp_Or_int B_cmp_Or_int Try.f46 := ⟨⟨tab_ok, mix_ok⟩, Try.func46, by kernel_rfl, by kernel_rfl, by kernel_rfl, by kernel_rfl⟩
noncomputable def N_cmp_Or_int.j3 (Q : Value → World → Prop) (s3 : Int) (s6 : Option Addr) (s6n : Nat) (s6c : Nat) (s7 : Int) (s8 : Int) (w : World) : Prop := Nd X_cmp_Or_int Q [(3, 3, .int .i64 s3), (6, 6, .slice s6 s6n s6c), (7, 7, .int .i64 s7), (8, 8, .int .i64 s8)] [.code (B_cmp_Or_int.r.r.l.r.l.l.l), .code (B_cmp_Or_int.r.r.l.r.l.l.r), .inLoop (B_cmp_Or_int.r.r.l.r.l.l), .inBlock 0, .code (B_cmp_Or_int.r.r.r)] w
theorem N_cmp_Or_int.j3_eq (Q : Value → World → Prop) (s3 : Int) (s6 : Option Addr) (s6n : Nat) (s6c : Nat) (s7 : Int) (s8 : Int) (w : World) (h :
  cond (decide (s8 < s7))
  ((0 : Int) ≤ s8 ∧
  s8 < ((s6n : Nat) : Int) ∧
  opnA s6 fun ad1 =>
  opnI .i64 (w.cell? (ad1.add (Int.toNat s8 * 1))) fun x2 =>
  cond (x2 != s3)
  (Q (.int .i64 x2) w)
  (N_cmp_Or_int.j3 Q s3 s6 s6n s6c s7 (IntKind.wrap .i64 (s8 + 1)) w))
  (Q (.int .i64 s3) w)) :
N_cmp_Or_int.j3 Q s3 s6 s6n s6c s7 s8 w := Nd_fold K_cmp_Or_int (by kernel_rfl) h
theorem C_cmp_Or_int_eq (Q : Value → World → Prop) (a0 : Option Addr) (a0n : Nat) (a0c : Nat) (w : World) (h :
  N_cmp_Or_int.j3 Q 0 a0 a0n a0c ((a0n : Nat) : Int) 0 w) :
C_cmp_Or_int #[.slice a0 a0n a0c] w Q := C_fold K_cmp_Or_int (by kernel_rfl) h
/-! ### cmp.Compare[int] -/
noncomputable def B_cmp_Compare_int : Code := match Try.f47.body with | some c => c | _ => .skip
noncomputable def X_cmp_Compare_int : Cx := { P := PP, fn := 47, N := 20, tab := tab, results := [.tmp 4], iter := fun _ => (.none, .none), dyn := fun _ => false, live := fun _ => none }
theorem K_cmp_Compare_int : OkF X_cmp_Compare_int B_cmp_Compare_int Try.f47 := ⟨⟨tab_ok, mix_ok⟩, Try.func47, by kernel_rfl, by kernel_rfl, by kernel_rfl, by kernel_rfl⟩
theorem C_cmp_Compare_int_eq (Q : Value → World → Prop) (a0 : Int) (a1 : Int) (w : World) (h :
  C_cmp_isNaN_int #[.int .i64 a0] w fun v1 w2 =>
  opnB (some v1) fun x3 =>
  C_cmp_isNaN_int #[.int .i64 a1] w2 fun v4 w5 =>
  opnB (some v4) fun x6 =>
  cond x3
  (cond x6
  (Q (.int .i64 0) w5)
  (Q (.int .i64 (-1)) w5))
  (cond x6
  (Q (.int .i64 1) w5)
  (cond (decide (a0 < a1))
  (Q (.int .i64 (-1)) w5)
  (cond (decide (a0 > a1))
  (Q (.int .i64 1) w5)
  (Q (.int .i64 0) w5))))) :
C_cmp_Compare_int #[.int .i64 a0, .int .i64 a1] w Q := C_fold K_cmp_Compare_int (by kernel_rfl) h
/-! ### cmp.Compare[int64] -/
noncomputable def B_cmp_Compare_int64 : Code := match Try.f48.body with | some c => c | _ => .skip
noncomputable def X_cmp_Compare_int64 : Cx := { P := PP, fn := 48, N := 20, tab := tab, results := [.tmp 4], iter := fun _ => (.none, .none), dyn := fun _ => false, live := fun _ => none }
theorem K_cmp_Compare_int64 : OkF X_cmp_Compare_int64 B_cmp_Compare_int64 Try.f48 := ⟨⟨tab_ok, mix_ok⟩, Try.func48, by kernel_rfl, by kernel_rfl, by kernel_rfl, by kernel_rfl⟩
theorem C_cmp_Compare_int64_eq (Q : Value → World → Prop) (a0 : Int) (a1 : Int) (w : World) (h :
  C_cmp_isNaN_int64 #[.int .i64 a0] w fun v1 w2 =>
  opnB (some v1) fun x3 =>
  C_cmp_isNaN_int64 #[.int .i64 a1] w2 fun v4 w5 =>
  opnB (some v4) fun x6 =>
  cond x3
  (cond x6
  (Q (.int .i64 0) w5)
  (Q (.int .i64 (-1)) w5))
  (cond x6
  (Q (.int .i64 1) w5)
  (cond (decide (a0 < a1))
  (Q (.int .i64 (-1)) w5)
  (cond (decide (a0 > a1))
  (Q (.int .i64 1) w5)
  (Q (.int .i64 0) w5))))) :
C_cmp_Compare_int64 #[.int .i64 a0, .int .i64 a1] w Q := C_fold K_cmp_Compare_int64 (by kernel_rfl) h
/-! ### ledger/ledgerref08.Count -/
noncomputable def B_r08_Count : Code := match Try.f49.body with | some c => c | _ => .skip
noncomputable def X_r08_Count : Cx := { P := PP, fn := 49, N := 12, tab := tab, results := [.tmp 2, .tmp 3], iter := fun _ => (.none, .none), dyn := fun _ => false, live := fun r => cond (Nat.beq r 2) (some []) (none) }
theorem K_r08_Count : OkF X_r08_Count B_r08_Count Try.f49 := ⟨⟨tab_ok, mix_ok⟩, Try.func49, by kernel_rfl, by kernel_rfl, by kernel_rfl, by kernel_rfl⟩
noncomputable def N_r08_Count.j2 (Q : Value → World → Prop) (w : World) : Prop := Nd X_r08_Count Q [] [.code (B_r08_Count.r.l.r.l.l), .code (B_r08_Count.r.l.r.l.r), .code (B_r08_Count.r.r)] w
theorem N_r08_Count.j2_eq (Q : Value → World → Prop) (w : World) (h :
  Q (.tuple #[.int .i64 0, .int .i64 1]) w) :
N_r08_Count.j2 Q w := Nd_fold K_r08_Count (by kernel_rfl) h
theorem C_r08_Count_eq (Q : Value → World → Prop) (a0 : Int) (w : World) (h :
  cond (decide (a0 < 0))
  (N_r08_Count.j2 Q w)
  (cond (decide (a0 > 281474976710656))
  (N_r08_Count.j2 Q w)
  (C_r08_laid #[.int .i64 a0] w fun v1 w2 =>
  opnI .i64 (some v1) fun x3 =>
  Q (.tuple #[.int .i64 x3, .int .i64 0]) w2))) :
C_r08_Count #[.int .i64 a0] w Q := C_fold K_r08_Count (by kernel_rfl) h
/-! ### ledger/ledgerref08.Peaks -/
noncomputable def B_r08_Peaks : Code := match Try.f50.body with | some c => c | _ => .skip
noncomputable def X_r08_Peaks : Cx := { P := PP, fn := 50, N := 44, tab := tab, results := [.tmp 2, .tmp 3], iter := fun _ => (.none, .none), dyn := fun _ => false, live := fun r => cond (Nat.beq r 3) (some [4]) (cond (Nat.beq r 6) (some [0, 4, 5, 6]) (cond (Nat.beq r 7) (some [0, 4, 5, 6]) (none))) }
theorem K_r08_Peaks : OkF X_r08_Peaks B_r08_Peaks Try.f50 := ⟨⟨tab_ok, mix_ok⟩, Try.func50, by kernel_rfl, by kernel_rfl, by kernel_rfl, by kernel_rfl⟩
noncomputable def N_r08_Peaks.j3 (Q : Value → World → Prop) (s4 : Option Addr) (s4n : Nat) (s4c : Nat) (w : World) : Prop := Nd X_r08_Peaks Q [(4, 4, .slice s4 s4n s4c)] [.code (B_r08_Peaks.r.r.l.r.l.l), .code (B_r08_Peaks.r.r.l.r.l.r), .code (B_r08_Peaks.r.r.r)] w
noncomputable def N_r08_Peaks.j6 (Q : Value → World → Prop) (s0 : Int) (s4 : Option Addr) (s4n : Nat) (s4c : Nat) (s5 : Int) (s6 : Int) (w : World) : Prop := Nd X_r08_Peaks Q [(0, 0, .int .i64 s0), (4, 4, .slice s4 s4n s4c), (5, 5, .int .i64 s5), (6, 6, .int .i64 s6)] [.code (B_r08_Peaks.r.r.r.r.l.r.l.l.l.l), .code (B_r08_Peaks.r.r.r.r.l.r.l.l.l.r), .code (B_r08_Peaks.r.r.r.r.l.r.l.l.r), .inLoop (B_r08_Peaks.r.r.r.r.l.r.l.l), .inBlock 0, .code (B_r08_Peaks.r.r.r.r.r)] w
noncomputable def N_r08_Peaks.j7 (Q : Value → World → Prop) (s0 : Int) (s4 : Option Addr) (s4n : Nat) (s4c : Nat) (s5 : Int) (s6 : Int) (w : World) : Prop := Nd X_r08_Peaks Q [(0, 0, .int .i64 s0), (4, 4, .slice s4 s4n s4c), (5, 5, .int .i64 s5), (6, 6, .int .i64 s6)] [.code (B_r08_Peaks.r.r.r.r.l.r.l.l.r.r), .inLoop (B_r08_Peaks.r.r.r.r.l.r.l.l), .inBlock 0, .code (B_r08_Peaks.r.r.r.r.r)] w
theorem N_r08_Peaks.j3_eq (Q : Value → World → Prop) (s4 : Option Addr) (s4n : Nat) (s4c : Nat) (w : World) (h :
  Q (.tuple #[.slice s4 s4n s4c, .int .i64 1]) w) :
N_r08_Peaks.j3 Q s4 s4n s4c w := Nd_fold K_r08_Peaks (by kernel_rfl) h
theorem N_r08_Peaks.j6_eq (Q : Value → World → Prop) (s0 : Int) (s4 : Option Addr) (s4n : Nat) (s4c : Nat) (s5 : Int) (s6 : Int) (w : World) (h :
  cond (decide (s6 ≥ 0))
  (C_r08_power #[.int .i64 s6] w fun v1 w2 =>
  opnI .i64 (some v1) fun x3 =>
  cond (decide ((IntKind.wrap .i64 (s0 - s5)) ≥ x3))
  (x3 ≠ (0 : Int) ∧
  C_r08_Index #[.int .i64 s6, .int .i64 (IntKind.wrap .i64 (Int.tdiv s5 x3))] w2 fun v4 w5 =>
  opnT (some v4) fun x6 =>
  x6.size = 2 ∧
  opnI .i64 (x6[0]?) fun x7 =>
  opnI .i64 (x6[1]?) fun x8 =>
  alC #[.int .i64 x7] 3 w5 fun p9 w10 =>
  sem PP (Builtin.append_ #[99, 99] 99 #[.slice s4 s4n s4c, .slice (some p9) 1 1]) w10 fun v11 w12 =>
  opnL (some v11) fun x13 x13n x13c =>
  N_r08_Peaks.j7 Q s0 x13 x13n x13c (IntKind.wrap .i64 (s5 + x3)) s6 w12)
  (N_r08_Peaks.j7 Q s0 s4 s4n s4c s5 s6 w2))
  (Q (.tuple #[.slice s4 s4n s4c, .int .i64 0]) w)) :
N_r08_Peaks.j6 Q s0 s4 s4n s4c s5 s6 w := Nd_fold K_r08_Peaks (by kernel_rfl) h
theorem N_r08_Peaks.j7_eq (Q : Value → World → Prop) (s0 : Int) (s4 : Option Addr) (s4n : Nat) (s4c : Nat) (s5 : Int) (s6 : Int) (w : World) (h :
  N_r08_Peaks.j6 Q s0 s4 s4n s4c s5 (IntKind.wrap .i64 (s6 - 1)) w) :
N_r08_Peaks.j7 Q s0 s4 s4n s4c s5 s6 w := Nd_fold K_r08_Peaks (by kernel_rfl) h
theorem C_r08_Peaks_eq (Q : Value → World → Prop) (a0 : Int) (w : World) (h :
  cond (decide (a0 < 0))
  (N_r08_Peaks.j3 Q none 0 0 w)
  (cond (decide (a0 > 281474976710656))
  (N_r08_Peaks.j3 Q none 0 0 w)
  (N_r08_Peaks.j6 Q a0 none 0 0 0 48 w))) :
C_r08_Peaks #[.int .i64 a0] w Q := C_fold K_r08_Peaks (by kernel_rfl) h
/-! ### ledger/ledgerref10.wide -/
noncomputable def B_r10_wide : Code := match Try.f51.body with | some c => c | _ => .skip
noncomputable def X_r10_wide : Cx := { P := PP, fn := 51, N := 30, tab := tab, results := [.cell 6 56], iter := fun _ => (.none, .none), dyn := fun _ => false, live := fun _ => none }
theorem K_r10_wide : OkF X_r10_wide B_r10_wide Try.f51 := ⟨⟨tab_ok, mix_ok⟩, Try.func51, by kernel_rfl, by kernel_rfl, by kernel_rfl, by kernel_rfl⟩
theorem C_r10_wide_eq (Q : Value → World → Prop) (a0 : Int) (a1 : Int) (a2 : Int) (w : World) (h :
  alC #[.int .i64 0, .int .i64 0, .int .i64 0, .int .i64 0, .bool false] 56 w fun p1 w2 =>
  C_r10_Of #[.int .i64 a0, .int .i64 a2] w2 fun v3 w4 =>
  opnT (some v3) fun x5 =>
  x5.size = 2 ∧
  opnG (x5[0]?) fun x6 =>
  x6.size = 5 ∧
  opnI .i64 (x6[0]?) fun x7 =>
  opnI .i64 (x6[1]?) fun x8 =>
  opnI .i64 (x6[2]?) fun x9 =>
  opnI .i64 (x6[3]?) fun x10 =>
  opnB (x6[4]?) fun x11 =>
  opnI .i64 (x5[1]?) fun x12 =>
  alC #[.int .i64 0, .int .i64 0, .int .i64 0, .int .i64 0, .bool false] 56 w4 fun p13 w14 =>
  Array.size (#[.int .i64 x7, .int .i64 x8, .int .i64 x9, .int .i64 x10, .bool x11] : Array Value) = 5 ∧
  stC (p13.add 0) (.int .i64 x7) w14 fun w15 =>
  stC (p13.add 1) (.int .i64 x8) w15 fun w16 =>
  stC (p13.add 2) (.int .i64 x9) w16 fun w17 =>
  stC (p13.add 3) (.int .i64 x10) w17 fun w18 =>
  stC (p13.add 4) (.bool x11) w18 fun w19 =>
  opnI .i64 (w19.cell? (p13.add 1)) fun x20 =>
  opnI .i64 (w19.cell? (p13.add 2)) fun x21 =>
  C_r10_Width #[.int .i64 a0, .int .i64 x20, .int .i64 x21, .int .i64 a1] w19 fun v22 w23 =>
  opnT (some v22) fun x24 =>
  x24.size = 2 ∧
  opnI .i64 (x24[0]?) fun x25 =>
  opnI .i64 (x24[1]?) fun x26 =>
  stC (p13.add 3) (.int .i64 x25) w23 fun w27 =>
  opnI .i64 (w27.cell? (p13.add 0)) fun x28 =>
  opnI .i64 (w27.cell? (p13.add 1)) fun x29 =>
  opnI .i64 (w27.cell? (p13.add 2)) fun x30 =>
  opnI .i64 (w27.cell? (p13.add 3)) fun x31 =>
  opnB (w27.cell? (p13.add 4)) fun x32 =>
  Array.size (#[.int .i64 x28, .int .i64 x29, .int .i64 x30, .int .i64 x31, .bool x32] : Array Value) = 5 ∧
  stC (p1.add 0) (.int .i64 x28) w27 fun w33 =>
  stC (p1.add 1) (.int .i64 x29) w33 fun w34 =>
  stC (p1.add 2) (.int .i64 x30) w34 fun w35 =>
  stC (p1.add 3) (.int .i64 x31) w35 fun w36 =>
  stC (p1.add 4) (.bool x32) w36 fun w37 =>
  opnI .i64 (w37.cell? (p1.add 0)) fun x38 =>
  opnI .i64 (w37.cell? (p1.add 1)) fun x39 =>
  opnI .i64 (w37.cell? (p1.add 2)) fun x40 =>
  opnI .i64 (w37.cell? (p1.add 3)) fun x41 =>
  opnB (w37.cell? (p1.add 4)) fun x42 =>
  Q (.agg #[.int .i64 x38, .int .i64 x39, .int .i64 x40, .int .i64 x41, .bool x42]) w37) :
C_r10_wide #[.int .i64 a0, .int .i64 a1, .int .i64 a2] w Q := C_fold K_r10_wide (by kernel_rfl) h
/-! ### ledger/ledgerref10.within -/
noncomputable def B_r10_within : Code := match Try.f52.body with | some c => c | _ => .skip
noncomputable def X_r10_within : Cx := { P := PP, fn := 52, N := 30, tab := tab, results := [.tmp 4], iter := fun _ => (.none, .none), dyn := fun _ => false, live := fun r => cond (Nat.beq r 2) (some [0, 3, 5]) (cond (Nat.beq r 3) (some [0, 3, 5]) (none)) }
theorem K_r10_within : OkF X_r10_within B_r10_within Try.f52 := ⟨⟨tab_ok, mix_ok⟩, Try.func52, by kernel_rfl, by kernel_rfl, by kernel_rfl, by kernel_rfl⟩
noncomputable def N_r10_within.j2 (Q : Value → World → Prop) (s0 : Option Addr) (s0n : Nat) (s0c : Nat) (s3 : Addr) (s5 : Int) (w : World) : Prop := Nd X_r10_within Q [(0, 0, .slice s0 s0n s0c), (3, 3, .pointer (some s3)), (5, 5, .int .i64 s5)] [.code (B_r10_within.r.l.r.l.l.l.l), .code (B_r10_within.r.l.r.l.l.l.r), .code (B_r10_within.r.l.r.l.l.r), .inLoop (B_r10_within.r.l.r.l.l), .inBlock 0, .code (B_r10_within.r.r)] w
noncomputable def N_r10_within.j3 (Q : Value → World → Prop) (s0 : Option Addr) (s0n : Nat) (s0c : Nat) (s3 : Addr) (s5 : Int) (w : World) : Prop := Nd X_r10_within Q [(0, 0, .slice s0 s0n s0c), (3, 3, .pointer (some s3)), (5, 5, .int .i64 s5)] [.code (B_r10_within.r.l.r.l.l.r.r), .inLoop (B_r10_within.r.l.r.l.l), .inBlock 0, .code (B_r10_within.r.r)] w
theorem N_r10_within.j2_eq (Q : Value → World → Prop) (s0 : Option Addr) (s0n : Nat) (s0c : Nat) (s3 : Addr) (s5 : Int) (w : World) (h :
  cond (decide (s5 < ((s0n : Nat) : Int)))
  (drw w fun w1 =>
  (0 : Int) ≤ s5 ∧
  s5 < ((s0n : Nat) : Int) ∧
  opnA s0 fun ad2 =>
  opnI .i64 (w1.cell? ((ad2.add (Int.toNat s5 * 5)).add 1)) fun x3 =>
  opnI .i64 (w1.cell? (s3.add 1)) fun x4 =>
  cond (x3 == x4)
  ((0 : Int) ≤ s5 ∧
  s5 < ((s0n : Nat) : Int) ∧
  opnA s0 fun ad5 =>
  opnI .i64 (w1.cell? ((ad5.add (Int.toNat s5 * 5)).add 2)) fun x6 =>
  opnI .i64 (w1.cell? (s3.add 2)) fun x7 =>
  cond (x6 == x7)
  (Q (.bool true) w1)
  (N_r10_within.j3 Q s0 s0n s0c s3 s5 w1))
  (N_r10_within.j3 Q s0 s0n s0c s3 s5 w1))
  (Q (.bool false) w)) :
N_r10_within.j2 Q s0 s0n s0c s3 s5 w := Nd_fold K_r10_within (by kernel_rfl) h
theorem N_r10_within.j3_eq (Q : Value → World → Prop) (s0 : Option Addr) (s0n : Nat) (s0c : Nat) (s3 : Addr) (s5 : Int) (w : World) (h :
  N_r10_within.j2 Q s0 s0n s0c s3 (IntKind.wrap .i64 (s5 + 1)) w) :
N_r10_within.j3 Q s0 s0n s0c s3 s5 w := Nd_fold K_r10_within (by kernel_rfl) h
theorem C_r10_within_eq (Q : Value → World → Prop) (a0 : Option Addr) (a0n : Nat) (a0c : Nat) (a1_0 : Int) (a1_1 : Int) (a1_2 : Int) (a1_3 : Int) (a1_4 : Bool) (w : World) (h :
  alC #[.int .i64 a1_0, .int .i64 a1_1, .int .i64 a1_2, .int .i64 a1_3, .bool a1_4] 56 w fun p1 w2 =>
  N_r10_within.j2 Q a0 a0n a0c p1 0 w2) :
C_r10_within #[.slice a0 a0n a0c, .agg #[.int .i64 a1_0, .int .i64 a1_1, .int .i64 a1_2, .int .i64 a1_3, .bool a1_4]] w Q := C_fold K_r10_within (by kernel_rfl) h
/-! ### ledger/ledgerref10.top -/
noncomputable def B_r10_top : Code := match Try.f53.body with | some c => c | _ => .skip
noncomputable def X_r10_top : Cx := { P := PP, fn := 53, N := 18, tab := tab, results := [.tmp 2], iter := fun _ => (.none, .none), dyn := fun _ => false, live := fun _ => none }
theorem K_r10_top : OkF X_r10_top B_r10_top Try.f53 := ⟨⟨tab_ok, mix_ok⟩, Try.func53, by kernel_rfl, by kernel_rfl, by kernel_rfl, by kernel_rfl⟩
theorem C_r10_top_eq (Q : Value → World → Prop) (a0_0 : Int) (a0_1 : Int) (a0_2 : Int) (a0_3 : Int) (a0_4 : Bool) (w : World) (h :
  alC #[.int .i64 a0_0, .int .i64 a0_1, .int .i64 a0_2, .int .i64 a0_3, .bool a0_4] 56 w fun p1 w2 =>
  opnI .i64 (w2.cell? (p1.add 0)) fun x3 =>
  opnI .i64 (w2.cell? (p1.add 1)) fun x4 =>
  opnI .i64 (w2.cell? (p1.add 2)) fun x5 =>
  C_r08_Index #[.int .i64 (IntKind.wrap .i64 (x3 * (IntKind.wrap .i64 (x4 + 1)))), .int .i64 x5] w2 fun v6 w7 =>
  opnT (some v6) fun x8 =>
  x8.size = 2 ∧
  opnI .i64 (x8[0]?) fun x9 =>
  opnI .i64 (x8[1]?) fun x10 =>
  Q (.int .i64 x9) w7) :
C_r10_top #[.agg #[.int .i64 a0_0, .int .i64 a0_1, .int .i64 a0_2, .int .i64 a0_3, .bool a0_4]] w Q := C_fold K_r10_top (by kernel_rfl) h
/-! ### ledger/ledgerref10.sorted -/
noncomputable def B_r10_sorted : Code := match Try.f54.body with | some c => c | _ => .skip
noncomputable def X_r10_sorted : Cx := { P := PP, fn := 54, N := 81, tab := tab, results := [.tmp 2], iter := fun _ => (.none, .none), dyn := fun _ => false, live := fun r => cond (Nat.beq r 3) (some [0, 3, 4]) (cond (Nat.beq r 6) (some [0, 3, 4, 5, 6]) (cond (Nat.beq r 7) (some [0, 3, 4, 5, 6]) (cond (Nat.beq r 9) (some [0, 3, 4, 6]) (none)))) }
theorem K_r10_sorted : OkF X_r10_sorted B_r10_sorted Try.f54 := ⟨⟨tab_ok, mix_ok⟩, Try.func54, by kernel_rfl, by kernel_rfl, by kernel_rfl, by kernel_rfl⟩
noncomputable def N_r10_sorted.j3 (Q : Value → World → Prop) (s0 : Option Addr) (s0n : Nat) (s0c : Nat) (s3 : Option Addr) (s3n : Nat) (s3c : Nat) (s4 : Option Addr) (s4n : Nat) (s4c : Nat) (w : World) : Prop := Nd X_r10_sorted Q [(0, 0, .slice s0 s0n s0c), (3, 3, .slice s3 s3n s3c), (4, 4, .slice s4 s4n s4c)] [.code (B_r10_sorted.r.r.r.l.l.l.l.l), .code (B_r10_sorted.r.r.r.l.l.l.l.r), .code (B_r10_sorted.r.r.r.l.l.l.r), .inLoop (B_r10_sorted.r.r.r.l.l.l), .inBlock 0, .code (B_r10_sorted.r.r.r.r)] w
noncomputable def N_r10_sorted.j6 (Q : Value → World → Prop) (s0 : Option Addr) (s0n : Nat) (s0c : Nat) (s3 : Option Addr) (s3n : Nat) (s3c : Nat) (s4 : Option Addr) (s4n : Nat) (s4c : Nat) (s5 : Int) (s6 : Int) (w : World) : Prop := Nd X_r10_sorted Q [(0, 0, .slice s0 s0n s0c), (3, 3, .slice s3 s3n s3c), (4, 4, .slice s4 s4n s4c), (5, 5, .int .i64 s5), (6, 6, .int .i64 s6)] [.code (B_r10_sorted.r.r.r.l.l.l.r.l.r.l.r.l.l.l.l), .code (B_r10_sorted.r.r.r.l.l.l.r.l.r.l.r.l.l.l.r), .code (B_r10_sorted.r.r.r.l.l.l.r.l.r.l.r.l.l.r), .inLoop (B_r10_sorted.r.r.r.l.l.l.r.l.r.l.r.l.l), .inBlock 2, .code (B_r10_sorted.r.r.r.l.l.l.r.l.r.r), .inBlock 1, .inLoop (B_r10_sorted.r.r.r.l.l.l), .inBlock 0, .code (B_r10_sorted.r.r.r.r)] w
noncomputable def N_r10_sorted.j7 (Q : Value → World → Prop) (s0 : Option Addr) (s0n : Nat) (s0c : Nat) (s3 : Option Addr) (s3n : Nat) (s3c : Nat) (s4 : Option Addr) (s4n : Nat) (s4c : Nat) (s5 : Int) (s6 : Int) (w : World) : Prop := Nd X_r10_sorted Q [(0, 0, .slice s0 s0n s0c), (3, 3, .slice s3 s3n s3c), (4, 4, .slice s4 s4n s4c), (5, 5, .int .i64 s5), (6, 6, .int .i64 s6)] [.code (B_r10_sorted.r.r.r.l.l.l.r.l.r.l.r.l.l.r.r), .inLoop (B_r10_sorted.r.r.r.l.l.l.r.l.r.l.r.l.l), .inBlock 2, .code (B_r10_sorted.r.r.r.l.l.l.r.l.r.r), .inBlock 1, .inLoop (B_r10_sorted.r.r.r.l.l.l), .inBlock 0, .code (B_r10_sorted.r.r.r.r)] w
noncomputable def N_r10_sorted.j9 (Q : Value → World → Prop) (s0 : Option Addr) (s0n : Nat) (s0c : Nat) (s3 : Option Addr) (s3n : Nat) (s3c : Nat) (s4 : Option Addr) (s4n : Nat) (s4c : Nat) (s6 : Int) (w : World) : Prop := Nd X_r10_sorted Q [(0, 0, .slice s0 s0n s0c), (3, 3, .slice s3 s3n s3c), (4, 4, .slice s4 s4n s4c), (6, 6, .int .i64 s6)] [.code (B_r10_sorted.r.r.r.l.l.l.r.l.r.l.r.l.l.r.l.l.r.l), .inBlock 3, .code (B_r10_sorted.r.r.r.l.l.l.r.l.r.l.r.l.l.r.r), .inLoop (B_r10_sorted.r.r.r.l.l.l.r.l.r.l.r.l.l), .inBlock 2, .code (B_r10_sorted.r.r.r.l.l.l.r.l.r.r), .inBlock 1, .inLoop (B_r10_sorted.r.r.r.l.l.l), .inBlock 0, .code (B_r10_sorted.r.r.r.r)] w
theorem N_r10_sorted.j3_eq (Q : Value → World → Prop) (s0 : Option Addr) (s0n : Nat) (s0c : Nat) (s3 : Option Addr) (s3n : Nat) (s3c : Nat) (s4 : Option Addr) (s4n : Nat) (s4c : Nat) (w : World) (h :
  cond (decide (((s3n : Nat) : Int) < ((s0n : Nat) : Int)))
  (N_r10_sorted.j6 Q s0 s0n s0c s3 s3n s3c s4 s4n s4c (-1) 0 w)
  (Q (.slice s3 s3n s3c) w)) :
N_r10_sorted.j3 Q s0 s0n s0c s3 s3n s3c s4 s4n s4c w := Nd_fold K_r10_sorted (by kernel_rfl) h
theorem N_r10_sorted.j6_eq (Q : Value → World → Prop) (s0 : Option Addr) (s0n : Nat) (s0c : Nat) (s3 : Option Addr) (s3n : Nat) (s3c : Nat) (s4 : Option Addr) (s4n : Nat) (s4c : Nat) (s5 : Int) (s6 : Int) (w : World) (h :
  cond (decide (s6 < ((s0n : Nat) : Int)))
  (drw w fun w1 =>
  (0 : Int) ≤ s6 ∧
  s6 < ((s4n : Nat) : Int) ∧
  opnA s4 fun ad2 =>
  opnB (w1.cell? (ad2.add (Int.toNat s6 * 1))) fun x3 =>
  cond (!x3)
  (cond (decide (s5 < 0))
  (N_r10_sorted.j9 Q s0 s0n s0c s3 s3n s3c s4 s4n s4c s6 w1)
  ((0 : Int) ≤ s6 ∧
  s6 < ((s0n : Nat) : Int) ∧
  opnA s0 fun ad4 =>
  (0 : Int) ≤ s5 ∧
  s5 < ((s0n : Nat) : Int) ∧
  opnA s0 fun ad5 =>
  opnI .i64 (w1.cell? ((ad4.add (Int.toNat s6 * 5)).add 1)) fun x6 =>
  opnI .i64 (w1.cell? ((ad5.add (Int.toNat s5 * 5)).add 1)) fun x7 =>
  cond (decide (x6 > x7))
  (N_r10_sorted.j9 Q s0 s0n s0c s3 s3n s3c s4 s4n s4c s6 w1)
  ((0 : Int) ≤ s6 ∧
  s6 < ((s0n : Nat) : Int) ∧
  opnA s0 fun ad8 =>
  (0 : Int) ≤ s5 ∧
  s5 < ((s0n : Nat) : Int) ∧
  opnA s0 fun ad9 =>
  opnI .i64 (w1.cell? ((ad8.add (Int.toNat s6 * 5)).add 1)) fun x10 =>
  opnI .i64 (w1.cell? ((ad9.add (Int.toNat s5 * 5)).add 1)) fun x11 =>
  cond (x10 == x11)
  ((0 : Int) ≤ s6 ∧
  s6 < ((s0n : Nat) : Int) ∧
  opnA s0 fun ad12 =>
  (0 : Int) ≤ s5 ∧
  s5 < ((s0n : Nat) : Int) ∧
  opnA s0 fun ad13 =>
  opnI .i64 (w1.cell? ((ad12.add (Int.toNat s6 * 5)).add 2)) fun x14 =>
  opnI .i64 (w1.cell? ((ad13.add (Int.toNat s5 * 5)).add 2)) fun x15 =>
  cond (decide (x14 < x15))
  (N_r10_sorted.j9 Q s0 s0n s0c s3 s3n s3c s4 s4n s4c s6 w1)
  (N_r10_sorted.j7 Q s0 s0n s0c s3 s3n s3c s4 s4n s4c s5 s6 w1))
  (N_r10_sorted.j7 Q s0 s0n s0c s3 s3n s3c s4 s4n s4c s5 s6 w1))))
  (N_r10_sorted.j7 Q s0 s0n s0c s3 s3n s3c s4 s4n s4c s5 s6 w1))
  ((0 : Int) ≤ s5 ∧
  s5 < ((s4n : Nat) : Int) ∧
  opnA s4 fun ad16 =>
  stC (ad16.add (Int.toNat s5 * 1)) (.bool true) w fun w17 =>
  (0 : Int) ≤ s5 ∧
  s5 < ((s0n : Nat) : Int) ∧
  opnA s0 fun ad18 =>
  opnI .i64 (w17.cell? ((ad18.add (Int.toNat s5 * 5)).add 0)) fun x19 =>
  opnI .i64 (w17.cell? ((ad18.add (Int.toNat s5 * 5)).add 1)) fun x20 =>
  opnI .i64 (w17.cell? ((ad18.add (Int.toNat s5 * 5)).add 2)) fun x21 =>
  opnI .i64 (w17.cell? ((ad18.add (Int.toNat s5 * 5)).add 3)) fun x22 =>
  opnB (w17.cell? ((ad18.add (Int.toNat s5 * 5)).add 4)) fun x23 =>
  alC #[.int .i64 x19, .int .i64 x20, .int .i64 x21, .int .i64 x22, .bool x23] 56 w17 fun p24 w25 =>
  sem PP (Builtin.append_ #[64, 64] 64 #[.slice s3 s3n s3c, .slice (some p24) 1 1]) w25 fun v26 w27 =>
  opnL (some v26) fun x28 x28n x28c =>
  N_r10_sorted.j3 Q s0 s0n s0c x28 x28n x28c s4 s4n s4c w27)) :
N_r10_sorted.j6 Q s0 s0n s0c s3 s3n s3c s4 s4n s4c s5 s6 w := Nd_fold K_r10_sorted (by kernel_rfl) h
theorem N_r10_sorted.j7_eq (Q : Value → World → Prop) (s0 : Option Addr) (s0n : Nat) (s0c : Nat) (s3 : Option Addr) (s3n : Nat) (s3c : Nat) (s4 : Option Addr) (s4n : Nat) (s4c : Nat) (s5 : Int) (s6 : Int) (w : World) (h :
  N_r10_sorted.j6 Q s0 s0n s0c s3 s3n s3c s4 s4n s4c s5 (IntKind.wrap .i64 (s6 + 1)) w) :
N_r10_sorted.j7 Q s0 s0n s0c s3 s3n s3c s4 s4n s4c s5 s6 w := Nd_fold K_r10_sorted (by kernel_rfl) h
theorem N_r10_sorted.j9_eq (Q : Value → World → Prop) (s0 : Option Addr) (s0n : Nat) (s0c : Nat) (s3 : Option Addr) (s3n : Nat) (s3c : Nat) (s4 : Option Addr) (s4n : Nat) (s4c : Nat) (s6 : Int) (w : World) (h :
  N_r10_sorted.j7 Q s0 s0n s0c s3 s3n s3c s4 s4n s4c s6 s6 w) :
N_r10_sorted.j9 Q s0 s0n s0c s3 s3n s3c s4 s4n s4c s6 w := Nd_fold K_r10_sorted (by kernel_rfl) h
theorem C_r10_sorted_eq (Q : Value → World → Prop) (a0 : Option Addr) (a0n : Nat) (a0c : Nat) (w : World) (h :
  sem PP (Instr.makeSlice 118 (.int .i64 ((a0n : Nat) : Int)) (.int .i64 ((a0n : Nat) : Int))) w fun v1 w2 =>
  opnL (some v1) fun x3 x3n x3c =>
  N_r10_sorted.j3 Q a0 a0n a0c none 0 0 x3 x3n x3c w2) :
C_r10_sorted #[.slice a0 a0n a0c] w Q := C_fold K_r10_sorted (by kernel_rfl) h
/-! ### ledger/tile.full -/
noncomputable def B_tile_full : Code := match Try.f55.body with | some c => c | _ => .skip
noncomputable def X_tile_full : Cx := { P := PP, fn := 55, N := 5, tab := tab, results := [.tmp 2], iter := fun _ => (.none, .none), dyn := fun _ => false, live := fun _ => none }
theorem K_tile_full : OkF X_tile_full B_tile_full Try.f55 := ⟨⟨tab_ok, mix_ok⟩, Try.func55, by kernel_rfl, by kernel_rfl, by kernel_rfl, by kernel_rfl⟩
theorem C_tile_full_eq (Q : Value → World → Prop) (a0 : Int) (w : World) (h :
  nn a0 (
  Q (.int .i64 (shlI .i64 1 a0)) w)) :
C_tile_full #[.int .i64 a0] w Q := C_fold K_tile_full (by kernel_rfl) h
/-! ### ledger/tlog.SplitIndex -/
noncomputable def B_tlog_SplitIndex : Code := match Try.f56.body with | some c => c | _ => .skip
noncomputable def X_tlog_SplitIndex : Cx := { P := PP, fn := 56, N := 26, tab := tab, results := [.tmp 2, .tmp 3, .tmp 4], iter := fun _ => (.none, .none), dyn := fun _ => false, live := fun r => cond (Nat.beq r 2) (some []) (none) }
theorem K_tlog_SplitIndex : OkF X_tlog_SplitIndex B_tlog_SplitIndex Try.f56 := ⟨⟨tab_ok, mix_ok⟩, Try.func56, by kernel_rfl, by kernel_rfl, by kernel_rfl, by kernel_rfl⟩
noncomputable def N_tlog_SplitIndex.j2 (Q : Value → World → Prop) (w : World) : Prop := Nd X_tlog_SplitIndex Q [] [.code (B_tlog_SplitIndex.r.l.r.l.l), .code (B_tlog_SplitIndex.r.l.r.l.r), .code (B_tlog_SplitIndex.r.r)] w
theorem N_tlog_SplitIndex.j2_eq (Q : Value → World → Prop) (w : World) (h :
  Q (.tuple #[.int .i64 0, .int .i64 0, .int .i64 1]) w) :
N_tlog_SplitIndex.j2 Q w := Nd_fold K_tlog_SplitIndex (by kernel_rfl) h
theorem C_tlog_SplitIndex_eq (Q : Value → World → Prop) (a0 : Int) (w : World) (h :
  cond (decide (a0 < 0))
  (N_tlog_SplitIndex.j2 Q w)
  (C_tlog_count #[.int .i64 281474976710656] w fun v1 w2 =>
  opnI .i64 (some v1) fun x3 =>
  cond (decide (a0 ≥ x3))
  (N_tlog_SplitIndex.j2 Q w2)
  (C_tlog_filled #[.int .i64 a0] w2 fun v4 w5 =>
  opnI .i64 (some v4) fun x6 =>
  C_tlog_count #[.int .i64 x6] w5 fun v7 w8 =>
  opnI .i64 (some v7) fun x9 =>
  drw w8 fun w10 =>
  nn (IntKind.wrap .i64 (a0 - x9)) (
  Q (.tuple #[.int .i64 (IntKind.wrap .i64 (a0 - x9)), .int .i64 (IntKind.wrap .i64 ((shrI .i64 (IntKind.wrap .i64 (x6 + 1)) (IntKind.wrap .i64 (a0 - x9))) - 1)), .int .i64 0]) w10)))) :
C_tlog_SplitIndex #[.int .i64 a0] w Q := C_fold K_tlog_SplitIndex (by kernel_rfl) h
/-! ### ledger/ledgerref08.record -/
noncomputable def B_r08_record : Code := match Try.f57.body with | some c => c | _ => .skip
noncomputable def X_r08_record : Cx := { P := PP, fn := 57, N := 22, tab := tab, results := [.tmp 2], iter := fun _ => (.none, .none), dyn := fun _ => false, live := fun r => cond (Nat.beq r 3) (some [0, 3, 4]) (none) }
theorem K_r08_record : OkF X_r08_record B_r08_record Try.f57 := ⟨⟨tab_ok, mix_ok⟩, Try.func57, by kernel_rfl, by kernel_rfl, by kernel_rfl, by kernel_rfl⟩
noncomputable def N_r08_record.j3 (Q : Value → World → Prop) (s0 : Int) (s3 : Int) (s4 : Int) (w : World) : Prop := Nd X_r08_record Q [(0, 0, .int .i64 s0), (3, 3, .int .i64 s3), (4, 4, .int .i64 s4)] [.code (B_r08_record.r.r.r.l.l.l.l.l), .code (B_r08_record.r.r.r.l.l.l.l.r), .code (B_r08_record.r.r.r.l.l.l.r), .inLoop (B_r08_record.r.r.r.l.l.l), .inBlock 0, .code (B_r08_record.r.r.r.r)] w
theorem N_r08_record.j3_eq (Q : Value → World → Prop) (s0 : Int) (s3 : Int) (s4 : Int) (w : World) (h :
  cond (decide (s3 < s4))
  (2 ≠ (0 : Int) ∧
  C_r08_laid #[.int .i64 (IntKind.wrap .i64 (Int.tdiv (IntKind.wrap .i64 ((IntKind.wrap .i64 (s3 + s4)) + 1)) 2))] w fun v1 w2 =>
  opnI .i64 (some v1) fun x3 =>
  cond (decide (x3 ≤ s0))
  (N_r08_record.j3 Q s0 (IntKind.wrap .i64 (Int.tdiv (IntKind.wrap .i64 ((IntKind.wrap .i64 (s3 + s4)) + 1)) 2)) s4 w2)
  (N_r08_record.j3 Q s0 s3 (IntKind.wrap .i64 ((IntKind.wrap .i64 (Int.tdiv (IntKind.wrap .i64 ((IntKind.wrap .i64 (s3 + s4)) + 1)) 2)) - 1)) w2))
  (Q (.int .i64 s3) w)) :
N_r08_record.j3 Q s0 s3 s4 w := Nd_fold K_r08_record (by kernel_rfl) h
theorem C_r08_record_eq (Q : Value → World → Prop) (a0 : Int) (w : World) (h :
  N_r08_record.j3 Q a0 0 281474976710656 w) :
C_r08_record #[.int .i64 a0] w Q := C_fold K_r08_record (by kernel_rfl) h
/-! ### ledger/ledgerref08.laid -/
noncomputable def B_r08_laid : Code := match Try.f58.body with | some c => c | _ => .skip
noncomputable def X_r08_laid : Cx := { P := PP, fn := 58, N := 12, tab := tab, results := [.tmp 2], iter := fun _ => (.none, .none), dyn := fun _ => false, live := fun r => cond (Nat.beq r 2) (some [0, 3]) (none) }
theorem K_r08_laid : OkF X_r08_laid B_r08_laid Try.f58 := ⟨⟨tab_ok, mix_ok⟩, Try.func58, by kernel_rfl, by kernel_rfl, by kernel_rfl, by kernel_rfl⟩
noncomputable def N_r08_laid.j2 (Q : Value → World → Prop) (s0 : Int) (s3 : Int) (w : World) : Prop := Nd X_r08_laid Q [(0, 0, .int .i64 s0), (3, 3, .int .i64 s3)] [.code (B_r08_laid.r.r.l.l.l.l.l), .code (B_r08_laid.r.r.l.l.l.l.r), .code (B_r08_laid.r.r.l.l.l.r), .inLoop (B_r08_laid.r.r.l.l.l), .inBlock 0, .code (B_r08_laid.r.r.r)] w
theorem N_r08_laid.j2_eq (Q : Value → World → Prop) (s0 : Int) (s3 : Int) (w : World) (h :
  cond (decide (s0 > 0))
  (2 ≠ (0 : Int) ∧
  N_r08_laid.j2 Q (IntKind.wrap .i64 (Int.tdiv s0 2)) (IntKind.wrap .i64 (s3 + s0)) w)
  (Q (.int .i64 s3) w)) :
N_r08_laid.j2 Q s0 s3 w := Nd_fold K_r08_laid (by kernel_rfl) h
theorem C_r08_laid_eq (Q : Value → World → Prop) (a0 : Int) (w : World) (h :
  N_r08_laid.j2 Q a0 0 w) :
C_r08_laid #[.int .i64 a0] w Q := C_fold K_r08_laid (by kernel_rfl) h
/-! ### ledger/ledgerref08.power -/
noncomputable def B_r08_power : Code := match Try.f59.body with | some c => c | _ => .skip
noncomputable def X_r08_power : Cx := { P := PP, fn := 59, N := 13, tab := tab, results := [.tmp 2], iter := fun _ => (.none, .none), dyn := fun _ => false, live := fun r => cond (Nat.beq r 3) (some [0, 3, 4]) (none) }
theorem K_r08_power : OkF X_r08_power B_r08_power Try.f59 := ⟨⟨tab_ok, mix_ok⟩, Try.func59, by kernel_rfl, by kernel_rfl, by kernel_rfl, by kernel_rfl⟩
noncomputable def N_r08_power.j3 (Q : Value → World → Prop) (s0 : Int) (s3 : Int) (s4 : Int) (w : World) : Prop := Nd X_r08_power Q [(0, 0, .int .i64 s0), (3, 3, .int .i64 s3), (4, 4, .int .i64 s4)] [.code (B_r08_power.r.r.l.r.l.l.l.l), .code (B_r08_power.r.r.l.r.l.l.l.r), .code (B_r08_power.r.r.l.r.l.l.r), .inLoop (B_r08_power.r.r.l.r.l.l), .inBlock 0, .code (B_r08_power.r.r.r)] w
theorem N_r08_power.j3_eq (Q : Value → World → Prop) (s0 : Int) (s3 : Int) (s4 : Int) (w : World) (h :
  cond (decide (s4 < s0))
  (N_r08_power.j3 Q s0 (IntKind.wrap .i64 (2 * s3)) (IntKind.wrap .i64 (s4 + 1)) w)
  (Q (.int .i64 s3) w)) :
N_r08_power.j3 Q s0 s3 s4 w := Nd_fold K_r08_power (by kernel_rfl) h
theorem C_r08_power_eq (Q : Value → World → Prop) (a0 : Int) (w : World) (h :
  N_r08_power.j3 Q a0 1 0 w) :
C_r08_power #[.int .i64 a0] w Q := C_fold K_r08_power (by kernel_rfl) h
/-! ### ledger/tlog.count -/
noncomputable def B_tlog_count : Code := match Try.f60.body with | some c => c | _ => .skip
noncomputable def X_tlog_count : Cx := { P := PP, fn := 60, N := 9, tab := tab, results := [.tmp 2], iter := fun _ => (.none, .none), dyn := fun _ => false, live := fun _ => none }
theorem K_tlog_count : OkF X_tlog_count B_tlog_count Try.f60 := ⟨⟨tab_ok, mix_ok⟩, Try.func60, by kernel_rfl, by kernel_rfl, by kernel_rfl, by kernel_rfl⟩
theorem C_tlog_count_eq (Q : Value → World → Prop) (a0 : Int) (w : World) (h :
  C_math_bits_OnesCount64 #[.int .u64 (IntKind.wrap .u64 a0)] w fun v1 w2 =>
  opnI .i64 (some v1) fun x3 =>
  Q (.int .i64 (IntKind.wrap .i64 ((IntKind.wrap .i64 (2 * a0)) - x3))) w2) :
C_tlog_count #[.int .i64 a0] w Q := C_fold K_tlog_count (by kernel_rfl) h
/-! ### ledger/tlog.peaks -/
noncomputable def B_tlog_peaks : Code := match Try.f61.body with | some c => c | _ => .skip
noncomputable def X_tlog_peaks : Cx := { P := PP, fn := 61, N := 32, tab := tab, results := [.tmp 2], iter := fun _ => (.none, .none), dyn := fun _ => false, live := fun r => cond (Nat.beq r 4) (some [0, 3, 4, 5]) (cond (Nat.beq r 5) (some [0, 3, 4, 5]) (none)) }
theorem K_tlog_peaks : OkF X_tlog_peaks B_tlog_peaks Try.f61 := ⟨⟨tab_ok, mix_ok⟩, Try.func61, by kernel_rfl, by kernel_rfl, by kernel_rfl, by kernel_rfl⟩
noncomputable def N_tlog_peaks.j4 (Q : Value → World → Prop) (s0 : Int) (s3 : Option Addr) (s3n : Nat) (s3c : Nat) (s4 : Int) (s5 : Int) (w : World) : Prop := Nd X_tlog_peaks Q [(0, 0, .int .i64 s0), (3, 3, .slice s3 s3n s3c), (4, 4, .int .i64 s4), (5, 5, .int .i64 s5)] [.code (B_tlog_peaks.r.r.r.l.r.l.l.l.l), .code (B_tlog_peaks.r.r.r.l.r.l.l.l.r), .code (B_tlog_peaks.r.r.r.l.r.l.l.r), .inLoop (B_tlog_peaks.r.r.r.l.r.l.l), .inBlock 0, .code (B_tlog_peaks.r.r.r.r)] w
noncomputable def N_tlog_peaks.j5 (Q : Value → World → Prop) (s0 : Int) (s3 : Option Addr) (s3n : Nat) (s3c : Nat) (s4 : Int) (s5 : Int) (w : World) : Prop := Nd X_tlog_peaks Q [(0, 0, .int .i64 s0), (3, 3, .slice s3 s3n s3c), (4, 4, .int .i64 s4), (5, 5, .int .i64 s5)] [.code (B_tlog_peaks.r.r.r.l.r.l.l.r.r), .inLoop (B_tlog_peaks.r.r.r.l.r.l.l), .inBlock 0, .code (B_tlog_peaks.r.r.r.r)] w
theorem N_tlog_peaks.j4_eq (Q : Value → World → Prop) (s0 : Int) (s3 : Option Addr) (s3n : Nat) (s3c : Nat) (s4 : Int) (s5 : Int) (w : World) (h :
  cond (decide (s5 ≥ 0))
  (nn s5 (
  cond ((bits .and .i64 (shrI .i64 s0 s5) 1) == 1)
  (nn s5 (
  C_tlog_place #[.int .i64 s5, .int .i64 (shrI .i64 s4 s5)] w fun v1 w2 =>
  opnI .i64 (some v1) fun x3 =>
  alC #[.int .i64 x3] 2 w2 fun p4 w5 =>
  sem PP (Builtin.append_ #[51, 51] 51 #[.slice s3 s3n s3c, .slice (some p4) 1 1]) w5 fun v6 w7 =>
  opnL (some v6) fun x8 x8n x8c =>
  nn s5 (
  N_tlog_peaks.j5 Q s0 x8 x8n x8c (IntKind.wrap .i64 (s4 + (shlI .i64 1 s5))) s5 w7)))
  (N_tlog_peaks.j5 Q s0 s3 s3n s3c s4 s5 w)))
  (Q (.slice s3 s3n s3c) w)) :
N_tlog_peaks.j4 Q s0 s3 s3n s3c s4 s5 w := Nd_fold K_tlog_peaks (by kernel_rfl) h
theorem N_tlog_peaks.j5_eq (Q : Value → World → Prop) (s0 : Int) (s3 : Option Addr) (s3n : Nat) (s3c : Nat) (s4 : Int) (s5 : Int) (w : World) (h :
  N_tlog_peaks.j4 Q s0 s3 s3n s3c s4 (IntKind.wrap .i64 (s5 - 1)) w) :
N_tlog_peaks.j5 Q s0 s3 s3n s3c s4 s5 w := Nd_fold K_tlog_peaks (by kernel_rfl) h
theorem C_tlog_peaks_eq (Q : Value → World → Prop) (a0 : Int) (w : World) (h :
  C_math_bits_OnesCount64 #[.int .u64 (IntKind.wrap .u64 a0)] w fun v1 w2 =>
  opnI .i64 (some v1) fun x3 =>
  sem PP (Instr.makeSlice 51 (.int .i64 0) (.int .i64 x3)) w2 fun v4 w5 =>
  opnL (some v4) fun x6 x6n x6c =>
  N_tlog_peaks.j4 Q a0 x6 x6n x6c 0 48 w5) :
C_tlog_peaks #[.int .i64 a0] w Q := C_fold K_tlog_peaks (by kernel_rfl) h
/-! ### ledger/tile.wide -/
noncomputable def B_tile_wide : Code := match Try.f62.body with | some c => c | _ => .skip
noncomputable def X_tile_wide : Cx := { P := PP, fn := 62, N := 15, tab := tab, results := [.cell 4 49], iter := fun _ => (.none, .none), dyn := fun _ => false, live := fun _ => none }
theorem K_tile_wide : OkF X_tile_wide B_tile_wide Try.f62 := ⟨⟨tab_ok, mix_ok⟩, Try.func62, by kernel_rfl, by kernel_rfl, by kernel_rfl, by kernel_rfl⟩
theorem C_tile_wide_eq (Q : Value → World → Prop) (a0_0 : Int) (a0_1 : Int) (a0_2 : Int) (a0_3 : Int) (a0_4 : Bool) (a1 : Int) (w : World) (h :
  alC #[.int .i64 a0_0, .int .i64 a0_1, .int .i64 a0_2, .int .i64 a0_3, .bool a0_4] 49 w fun p1 w2 =>
  alC #[.int .i64 0, .int .i64 0, .int .i64 0, .int .i64 0, .bool false] 49 w2 fun p3 w4 =>
  opnI .i64 (w4.cell? (p1.add 0)) fun x5 =>
  opnI .i64 (w4.cell? (p1.add 1)) fun x6 =>
  opnI .i64 (w4.cell? (p1.add 2)) fun x7 =>
  C_tile_widthOf #[.int .i64 x5, .int .i64 x6, .int .i64 x7, .int .i64 a1] w4 fun v8 w9 =>
  opnI .i64 (some v8) fun x10 =>
  stC (p1.add 3) (.int .i64 x10) w9 fun w11 =>
  opnI .i64 (w11.cell? (p1.add 0)) fun x12 =>
  opnI .i64 (w11.cell? (p1.add 1)) fun x13 =>
  opnI .i64 (w11.cell? (p1.add 2)) fun x14 =>
  opnI .i64 (w11.cell? (p1.add 3)) fun x15 =>
  opnB (w11.cell? (p1.add 4)) fun x16 =>
  Array.size (#[.int .i64 x12, .int .i64 x13, .int .i64 x14, .int .i64 x15, .bool x16] : Array Value) = 5 ∧
  stC (p3.add 0) (.int .i64 x12) w11 fun w17 =>
  stC (p3.add 1) (.int .i64 x13) w17 fun w18 =>
  stC (p3.add 2) (.int .i64 x14) w18 fun w19 =>
  stC (p3.add 3) (.int .i64 x15) w19 fun w20 =>
  stC (p3.add 4) (.bool x16) w20 fun w21 =>
  opnI .i64 (w21.cell? (p3.add 0)) fun x22 =>
  opnI .i64 (w21.cell? (p3.add 1)) fun x23 =>
  opnI .i64 (w21.cell? (p3.add 2)) fun x24 =>
  opnI .i64 (w21.cell? (p3.add 3)) fun x25 =>
  opnB (w21.cell? (p3.add 4)) fun x26 =>
  Q (.agg #[.int .i64 x22, .int .i64 x23, .int .i64 x24, .int .i64 x25, .bool x26]) w21) :
C_tile_wide #[.agg #[.int .i64 a0_0, .int .i64 a0_1, .int .i64 a0_2, .int .i64 a0_3, .bool a0_4], .int .i64 a1] w Q := C_fold K_tile_wide (by kernel_rfl) h
/-! ### ledger/tile.topOf -/
noncomputable def B_tile_topOf : Code := match Try.f63.body with | some c => c | _ => .skip
noncomputable def X_tile_topOf : Cx := { P := PP, fn := 63, N := 18, tab := tab, results := [.tmp 2], iter := fun _ => (.none, .none), dyn := fun _ => false, live := fun _ => none }
theorem K_tile_topOf : OkF X_tile_topOf B_tile_topOf Try.f63 := ⟨⟨tab_ok, mix_ok⟩, Try.func63, by kernel_rfl, by kernel_rfl, by kernel_rfl, by kernel_rfl⟩
theorem C_tile_topOf_eq (Q : Value → World → Prop) (a0_0 : Int) (a0_1 : Int) (a0_2 : Int) (a0_3 : Int) (a0_4 : Bool) (w : World) (h :
  alC #[.int .i64 a0_0, .int .i64 a0_1, .int .i64 a0_2, .int .i64 a0_3, .bool a0_4] 49 w fun p1 w2 =>
  opnI .i64 (w2.cell? (p1.add 0)) fun x3 =>
  opnI .i64 (w2.cell? (p1.add 1)) fun x4 =>
  opnI .i64 (w2.cell? (p1.add 2)) fun x5 =>
  C_tlog_Index #[.int .i64 (IntKind.wrap .i64 (x3 * (IntKind.wrap .i64 (x4 + 1)))), .int .i64 x5] w2 fun v6 w7 =>
  opnT (some v6) fun x8 =>
  x8.size = 2 ∧
  opnI .i64 (x8[0]?) fun x9 =>
  opnI .i64 (x8[1]?) fun x10 =>
  Q (.int .i64 x9) w7) :
C_tile_topOf #[.agg #[.int .i64 a0_0, .int .i64 a0_1, .int .i64 a0_2, .int .i64 a0_3, .bool a0_4]] w Q := C_fold K_tile_topOf (by kernel_rfl) h
end Go.Proofs.Ytccjncflbbhldaa
