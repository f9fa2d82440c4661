/- Functions' equations (printed by wip/gen/drive.py). -/
import Derived.Test.YtccjncflbbhldaaShT
set_option maxRecDepth 100000
namespace Go.Proofs.Ytccjncflbbhldaa
open Go.Sh
/-! ### slices.pdqsortCmpFunc[ledger/tile.Tile] -/
noncomputable def B_slices_pdqsortCmpFunc_tile_Tile : Code := match Try.f64.body with | some c => c | _ => .skip
noncomputable def X_slices_pdqsortCmpFunc_tile_Tile : Cx := { P := PP, fn := 64, N := 148, tab := tab, results := [], iter := fun _ => (.none, .none), dyn := fun r => cond (Nat.beq r 84) true (false), live := fun r => cond (Nat.beq r 2) (some [0, 1, 2, 3, 4, 10, 11]) (cond (Nat.beq r 10) (some [0, 1, 2, 3, 4, 10, 11, 12]) (cond (Nat.beq r 11) (some [0, 1, 2, 3, 4, 10, 11, 12, 13, 14]) (cond (Nat.beq r 12) (some [0, 1, 2, 3, 4, 10, 11, 12, 13]) (cond (Nat.beq r 13) (some [0, 1, 2, 3, 4, 10, 11, 12, 13]) (cond (Nat.beq r 14) (some [0, 1, 2, 3, 4, 10, 11, 12, 13]) (cond (Nat.beq r 15) (some [0, 1, 2, 3, 4, 10, 11, 12, 13, 14]) (cond (Nat.beq r 16) (some [0, 1, 2, 3, 4, 10, 11, 12, 13]) (cond (Nat.beq r 17) (some [0, 1, 2, 3, 4, 10, 11, 12, 13]) (cond (Nat.beq r 18) (some [0, 1, 2, 3, 4, 10, 11, 13]) (cond (Nat.beq r 19) (some [0, 2, 3, 4, 10, 11, 15]) (cond (Nat.beq r 20) (some [0, 1, 2, 3, 4, 12, 13]) (cond (Nat.beq r 21) (some [0, 1, 2, 3, 4, 12, 16, 17]) (cond (Nat.beq r 22) (some [0, 1, 2, 3, 4, 11, 12, 16]) (cond (Nat.beq r 23) (some [0, 1, 2, 3, 4, 11, 12, 16, 18, 19]) (cond (Nat.beq r 24) (some [0, 1, 2, 3, 4, 11, 16, 18, 19, 20]) (cond (Nat.beq r 25) (some [0, 1, 2, 3, 4, 11, 16, 18, 20]) (cond (Nat.beq r 26) (some [0, 1, 2, 3, 4, 10, 11, 16]) (cond (Nat.beq r 27) (some [0, 2, 3, 4, 10, 11, 16]) (cond (Nat.beq r 28) (some [0, 1, 2, 3, 4, 11, 16, 19, 20]) (cond (Nat.beq r 29) (some [0, 1, 2, 3, 4, 10, 11, 16]) (cond (Nat.beq r 30) (some [0, 1, 3, 4, 10, 11, 16]) (none)))))))))))))))))))))) }
theorem K_slices_pdqsortCmpFunc_tile_Tile : OkF X_slices_pdqsortCmpFunc_tile_Tile B_slices_pdqsortCmpFunc_tile_Tile Try.f64 := ⟨⟨tab_ok, mix_ok⟩, Try.func64, by kernel_rfl, by kernel_rfl, by kernel_rfl, by kernel_rfl⟩
noncomputable def N_slices_pdqsortCmpFunc_tile_Tile.j2 (Q : Value → World → Prop) (s0 : Option Addr) (s0n : Nat) (s0c : Nat) (s1 : Int) (s2 : Int) (s3 : Int) (s4 : Value) (s10 : Bool) (s11 : Bool) (w : World) : Prop := Nd X_slices_pdqsortCmpFunc_tile_Tile Q [(0, 0, .slice s0 s0n s0c), (1, 1, .int .i64 s1), (2, 2, .int .i64 s2), (3, 3, .int .i64 s3), (4, 4, s4), (10, 10, .bool s10), (11, 11, .bool s11)] [.code (B_slices_pdqsortCmpFunc_tile_Tile.r.r.l.l.l.l), .code (B_slices_pdqsortCmpFunc_tile_Tile.r.r.l.l.l.r), .inBlock 1, .inLoop (B_slices_pdqsortCmpFunc_tile_Tile.r.r.l.l), .inBlock 0] w
noncomputable def N_slices_pdqsortCmpFunc_tile_Tile.j10 (Q : Value → World → Prop) (s0 : Option Addr) (s0n : Nat) (s0c : Nat) (s1 : Int) (s2 : Int) (s3 : Int) (s4 : Value) (s10 : Bool) (s11 : Bool) (s12 : Int) (w : World) : Prop := Nd X_slices_pdqsortCmpFunc_tile_Tile Q [(0, 0, .slice s0 s0n s0c), (1, 1, .int .i64 s1), (2, 2, .int .i64 s2), (3, 3, .int .i64 s3), (4, 4, s4), (10, 10, .bool s10), (11, 11, .bool s11), (12, 12, .int .i64 s12)] [.code (B_slices_pdqsortCmpFunc_tile_Tile.r.r.l.l.l.r.r.r.r.l), .code (B_slices_pdqsortCmpFunc_tile_Tile.r.r.l.l.l.r.r.r.r.r), .inBlock 1, .inLoop (B_slices_pdqsortCmpFunc_tile_Tile.r.r.l.l), .inBlock 0] w
noncomputable def N_slices_pdqsortCmpFunc_tile_Tile.j11 (Q : Value → World → Prop) (s0 : Option Addr) (s0n : Nat) (s0c : Nat) (s1 : Int) (s2 : Int) (s3 : Int) (s4 : Value) (s10 : Bool) (s11 : Bool) (s12 : Int) (s13 : Int) (s14 : Int) (w : World) : Prop := Nd X_slices_pdqsortCmpFunc_tile_Tile Q [(0, 0, .slice s0 s0n s0c), (1, 1, .int .i64 s1), (2, 2, .int .i64 s2), (3, 3, .int .i64 s3), (4, 4, s4), (10, 10, .bool s10), (11, 11, .bool s11), (12, 12, .int .i64 s12), (13, 13, .int .i64 s13), (14, 14, .int .i64 s14)] [.code (B_slices_pdqsortCmpFunc_tile_Tile.r.r.l.l.l.r.r.r.r.r.l.l), .code (B_slices_pdqsortCmpFunc_tile_Tile.r.r.l.l.l.r.r.r.r.r.l.r), .code (B_slices_pdqsortCmpFunc_tile_Tile.r.r.l.l.l.r.r.r.r.r.r), .inBlock 1, .inLoop (B_slices_pdqsortCmpFunc_tile_Tile.r.r.l.l), .inBlock 0] w
noncomputable def N_slices_pdqsortCmpFunc_tile_Tile.j12 (Q : Value → World → Prop) (s0 : Option Addr) (s0n : Nat) (s0c : Nat) (s1 : Int) (s2 : Int) (s3 : Int) (s4 : Value) (s10 : Bool) (s11 : Bool) (s12 : Int) (s13 : Int) (w : World) : Prop := Nd X_slices_pdqsortCmpFunc_tile_Tile Q [(0, 0, .slice s0 s0n s0c), (1, 1, .int .i64 s1), (2, 2, .int .i64 s2), (3, 3, .int .i64 s3), (4, 4, s4), (10, 10, .bool s10), (11, 11, .bool s11), (12, 12, .int .i64 s12), (13, 13, .int .i64 s13)] [.code (B_slices_pdqsortCmpFunc_tile_Tile.r.r.l.l.l.r.r.r.r.r.l.r.l.l), .code (B_slices_pdqsortCmpFunc_tile_Tile.r.r.l.l.l.r.r.r.r.r.l.r.l.r), .code (B_slices_pdqsortCmpFunc_tile_Tile.r.r.l.l.l.r.r.r.r.r.r), .inBlock 1, .inLoop (B_slices_pdqsortCmpFunc_tile_Tile.r.r.l.l), .inBlock 0] w
noncomputable def N_slices_pdqsortCmpFunc_tile_Tile.j13 (Q : Value → World → Prop) (s0 : Option Addr) (s0n : Nat) (s0c : Nat) (s1 : Int) (s2 : Int) (s3 : Int) (s4 : Value) (s10 : Bool) (s11 : Bool) (s12 : Int) (s13 : Int) (w : World) : Prop := Nd X_slices_pdqsortCmpFunc_tile_Tile Q [(0, 0, .slice s0 s0n s0c), (1, 1, .int .i64 s1), (2, 2, .int .i64 s2), (3, 3, .int .i64 s3), (4, 4, s4), (10, 10, .bool s10), (11, 11, .bool s11), (12, 12, .int .i64 s12), (13, 13, .int .i64 s13)] [.code (B_slices_pdqsortCmpFunc_tile_Tile.r.r.l.l.l.r.r.r.r.r.l.r.l.r.l), .code (B_slices_pdqsortCmpFunc_tile_Tile.r.r.l.l.l.r.r.r.r.r.l.r.l.r.r), .code (B_slices_pdqsortCmpFunc_tile_Tile.r.r.l.l.l.r.r.r.r.r.r), .inBlock 1, .inLoop (B_slices_pdqsortCmpFunc_tile_Tile.r.r.l.l), .inBlock 0] w
noncomputable def N_slices_pdqsortCmpFunc_tile_Tile.j14 (Q : Value → World → Prop) (s0 : Option Addr) (s0n : Nat) (s0c : Nat) (s1 : Int) (s2 : Int) (s3 : Int) (s4 : Value) (s10 : Bool) (s11 : Bool) (s12 : Int) (s13 : Int) (w : World) : Prop := Nd X_slices_pdqsortCmpFunc_tile_Tile Q [(0, 0, .slice s0 s0n s0c), (1, 1, .int .i64 s1), (2, 2, .int .i64 s2), (3, 3, .int .i64 s3), (4, 4, s4), (10, 10, .bool s10), (11, 11, .bool s11), (12, 12, .int .i64 s12), (13, 13, .int .i64 s13)] [.code (B_slices_pdqsortCmpFunc_tile_Tile.r.r.l.l.l.r.r.r.r.r.l.r.l.r.r), .code (B_slices_pdqsortCmpFunc_tile_Tile.r.r.l.l.l.r.r.r.r.r.r), .inBlock 1, .inLoop (B_slices_pdqsortCmpFunc_tile_Tile.r.r.l.l), .inBlock 0] w
noncomputable def N_slices_pdqsortCmpFunc_tile_Tile.j15 (Q : Value → World → Prop) (s0 : Option Addr) (s0n : Nat) (s0c : Nat) (s1 : Int) (s2 : Int) (s3 : Int) (s4 : Value) (s10 : Bool) (s11 : Bool) (s12 : Int) (s13 : Int) (s14 : Int) (w : World) : Prop := Nd X_slices_pdqsortCmpFunc_tile_Tile Q [(0, 0, .slice s0 s0n s0c), (1, 1, .int .i64 s1), (2, 2, .int .i64 s2), (3, 3, .int .i64 s3), (4, 4, s4), (10, 10, .bool s10), (11, 11, .bool s11), (12, 12, .int .i64 s12), (13, 13, .int .i64 s13), (14, 14, .int .i64 s14)] [.code (B_slices_pdqsortCmpFunc_tile_Tile.r.r.l.l.l.r.r.r.r.r.r.l.l), .code (B_slices_pdqsortCmpFunc_tile_Tile.r.r.l.l.l.r.r.r.r.r.r.l.r), .code (B_slices_pdqsortCmpFunc_tile_Tile.r.r.l.l.l.r.r.r.r.r.r.r), .inBlock 1, .inLoop (B_slices_pdqsortCmpFunc_tile_Tile.r.r.l.l), .inBlock 0] w
noncomputable def N_slices_pdqsortCmpFunc_tile_Tile.j16 (Q : Value → World → Prop) (s0 : Option Addr) (s0n : Nat) (s0c : Nat) (s1 : Int) (s2 : Int) (s3 : Int) (s4 : Value) (s10 : Bool) (s11 : Bool) (s12 : Int) (s13 : Int) (w : World) : Prop := Nd X_slices_pdqsortCmpFunc_tile_Tile Q [(0, 0, .slice s0 s0n s0c), (1, 1, .int .i64 s1), (2, 2, .int .i64 s2), (3, 3, .int .i64 s3), (4, 4, s4), (10, 10, .bool s10), (11, 11, .bool s11), (12, 12, .int .i64 s12), (13, 13, .int .i64 s13)] [.code (B_slices_pdqsortCmpFunc_tile_Tile.r.r.l.l.l.r.r.r.r.r.r.l.r.l.l), .code (B_slices_pdqsortCmpFunc_tile_Tile.r.r.l.l.l.r.r.r.r.r.r.l.r.l.r), .code (B_slices_pdqsortCmpFunc_tile_Tile.r.r.l.l.l.r.r.r.r.r.r.r), .inBlock 1, .inLoop (B_slices_pdqsortCmpFunc_tile_Tile.r.r.l.l), .inBlock 0] w
noncomputable def N_slices_pdqsortCmpFunc_tile_Tile.j17 (Q : Value → World → Prop) (s0 : Option Addr) (s0n : Nat) (s0c : Nat) (s1 : Int) (s2 : Int) (s3 : Int) (s4 : Value) (s10 : Bool) (s11 : Bool) (s12 : Int) (s13 : Int) (w : World) : Prop := Nd X_slices_pdqsortCmpFunc_tile_Tile Q [(0, 0, .slice s0 s0n s0c), (1, 1, .int .i64 s1), (2, 2, .int .i64 s2), (3, 3, .int .i64 s3), (4, 4, s4), (10, 10, .bool s10), (11, 11, .bool s11), (12, 12, .int .i64 s12), (13, 13, .int .i64 s13)] [.code (B_slices_pdqsortCmpFunc_tile_Tile.r.r.l.l.l.r.r.r.r.r.r.r.l.l), .code (B_slices_pdqsortCmpFunc_tile_Tile.r.r.l.l.l.r.r.r.r.r.r.r.l.r), .code (B_slices_pdqsortCmpFunc_tile_Tile.r.r.l.l.l.r.r.r.r.r.r.r.r), .inBlock 1, .inLoop (B_slices_pdqsortCmpFunc_tile_Tile.r.r.l.l), .inBlock 0] w
noncomputable def N_slices_pdqsortCmpFunc_tile_Tile.j18 (Q : Value → World → Prop) (s0 : Option Addr) (s0n : Nat) (s0c : Nat) (s1 : Int) (s2 : Int) (s3 : Int) (s4 : Value) (s10 : Bool) (s11 : Bool) (s13 : Int) (w : World) : Prop := Nd X_slices_pdqsortCmpFunc_tile_Tile Q [(0, 0, .slice s0 s0n s0c), (1, 1, .int .i64 s1), (2, 2, .int .i64 s2), (3, 3, .int .i64 s3), (4, 4, s4), (10, 10, .bool s10), (11, 11, .bool s11), (13, 13, .int .i64 s13)] [.code (B_slices_pdqsortCmpFunc_tile_Tile.r.r.l.l.l.r.r.r.r.r.r.r.l.r.l.l), .code (B_slices_pdqsortCmpFunc_tile_Tile.r.r.l.l.l.r.r.r.r.r.r.r.l.r.l.r), .code (B_slices_pdqsortCmpFunc_tile_Tile.r.r.l.l.l.r.r.r.r.r.r.r.r), .inBlock 1, .inLoop (B_slices_pdqsortCmpFunc_tile_Tile.r.r.l.l), .inBlock 0] w
noncomputable def N_slices_pdqsortCmpFunc_tile_Tile.j19 (Q : Value → World → Prop) (s0 : Option Addr) (s0n : Nat) (s0c : Nat) (s2 : Int) (s3 : Int) (s4 : Value) (s10 : Bool) (s11 : Bool) (s15 : Int) (w : World) : Prop := Nd X_slices_pdqsortCmpFunc_tile_Tile Q [(0, 0, .slice s0 s0n s0c), (2, 2, .int .i64 s2), (3, 3, .int .i64 s3), (4, 4, s4), (10, 10, .bool s10), (11, 11, .bool s11), (15, 15, .int .i64 s15)] [.code (B_slices_pdqsortCmpFunc_tile_Tile.r.r.l.l.l.r.r.r.r.r.r.r.l.r.l.r.l), .code (B_slices_pdqsortCmpFunc_tile_Tile.r.r.l.l.l.r.r.r.r.r.r.r.l.r.l.r.r), .code (B_slices_pdqsortCmpFunc_tile_Tile.r.r.l.l.l.r.r.r.r.r.r.r.r), .inBlock 1, .inLoop (B_slices_pdqsortCmpFunc_tile_Tile.r.r.l.l), .inBlock 0] w
noncomputable def N_slices_pdqsortCmpFunc_tile_Tile.j20 (Q : Value → World → Prop) (s0 : Option Addr) (s0n : Nat) (s0c : Nat) (s1 : Int) (s2 : Int) (s3 : Int) (s4 : Value) (s12 : Int) (s13 : Int) (w : World) : Prop := Nd X_slices_pdqsortCmpFunc_tile_Tile Q [(0, 0, .slice s0 s0n s0c), (1, 1, .int .i64 s1), (2, 2, .int .i64 s2), (3, 3, .int .i64 s3), (4, 4, s4), (12, 12, .int .i64 s12), (13, 13, .int .i64 s13)] [.code (B_slices_pdqsortCmpFunc_tile_Tile.r.r.l.l.l.r.r.r.r.r.r.r.r.l), .code (B_slices_pdqsortCmpFunc_tile_Tile.r.r.l.l.l.r.r.r.r.r.r.r.r.r), .inBlock 1, .inLoop (B_slices_pdqsortCmpFunc_tile_Tile.r.r.l.l), .inBlock 0] w
noncomputable def N_slices_pdqsortCmpFunc_tile_Tile.j21 (Q : Value → World → Prop) (s0 : Option Addr) (s0n : Nat) (s0c : Nat) (s1 : Int) (s2 : Int) (s3 : Int) (s4 : Value) (s12 : Int) (s16 : Int) (s17 : Bool) (w : World) : Prop := Nd X_slices_pdqsortCmpFunc_tile_Tile Q [(0, 0, .slice s0 s0n s0c), (1, 1, .int .i64 s1), (2, 2, .int .i64 s2), (3, 3, .int .i64 s3), (4, 4, s4), (12, 12, .int .i64 s12), (16, 16, .int .i64 s16), (17, 17, .bool s17)] [.code (B_slices_pdqsortCmpFunc_tile_Tile.r.r.l.l.l.r.r.r.r.r.r.r.r.r.l), .code (B_slices_pdqsortCmpFunc_tile_Tile.r.r.l.l.l.r.r.r.r.r.r.r.r.r.r), .inBlock 1, .inLoop (B_slices_pdqsortCmpFunc_tile_Tile.r.r.l.l), .inBlock 0] w
noncomputable def N_slices_pdqsortCmpFunc_tile_Tile.j22 (Q : Value → World → Prop) (s0 : Option Addr) (s0n : Nat) (s0c : Nat) (s1 : Int) (s2 : Int) (s3 : Int) (s4 : Value) (s11 : Bool) (s12 : Int) (s16 : Int) (w : World) : Prop := Nd X_slices_pdqsortCmpFunc_tile_Tile Q [(0, 0, .slice s0 s0n s0c), (1, 1, .int .i64 s1), (2, 2, .int .i64 s2), (3, 3, .int .i64 s3), (4, 4, s4), (11, 11, .bool s11), (12, 12, .int .i64 s12), (16, 16, .int .i64 s16)] [.code (B_slices_pdqsortCmpFunc_tile_Tile.r.r.l.l.l.r.r.r.r.r.r.r.r.r.r.l), .code (B_slices_pdqsortCmpFunc_tile_Tile.r.r.l.l.l.r.r.r.r.r.r.r.r.r.r.r), .inBlock 1, .inLoop (B_slices_pdqsortCmpFunc_tile_Tile.r.r.l.l), .inBlock 0] w
noncomputable def N_slices_pdqsortCmpFunc_tile_Tile.j23 (Q : Value → World → Prop) (s0 : Option Addr) (s0n : Nat) (s0c : Nat) (s1 : Int) (s2 : Int) (s3 : Int) (s4 : Value) (s11 : Bool) (s12 : Int) (s16 : Int) (s18 : Int) (s19 : Int) (w : World) : Prop := Nd X_slices_pdqsortCmpFunc_tile_Tile Q [(0, 0, .slice s0 s0n s0c), (1, 1, .int .i64 s1), (2, 2, .int .i64 s2), (3, 3, .int .i64 s3), (4, 4, s4), (11, 11, .bool s11), (12, 12, .int .i64 s12), (16, 16, .int .i64 s16), (18, 18, .int .i64 s18), (19, 19, .int .i64 s19)] [.code (B_slices_pdqsortCmpFunc_tile_Tile.r.r.l.l.l.r.r.r.r.r.r.r.r.r.r.r.l), .code (B_slices_pdqsortCmpFunc_tile_Tile.r.r.l.l.l.r.r.r.r.r.r.r.r.r.r.r.r), .inBlock 1, .inLoop (B_slices_pdqsortCmpFunc_tile_Tile.r.r.l.l), .inBlock 0] w
noncomputable def N_slices_pdqsortCmpFunc_tile_Tile.j24 (Q : Value → World → Prop) (s0 : Option Addr) (s0n : Nat) (s0c : Nat) (s1 : Int) (s2 : Int) (s3 : Int) (s4 : Value) (s11 : Bool) (s16 : Int) (s18 : Int) (s19 : Int) (s20 : Int) (w : World) : Prop := Nd X_slices_pdqsortCmpFunc_tile_Tile Q [(0, 0, .slice s0 s0n s0c), (1, 1, .int .i64 s1), (2, 2, .int .i64 s2), (3, 3, .int .i64 s3), (4, 4, s4), (11, 11, .bool s11), (16, 16, .int .i64 s16), (18, 18, .int .i64 s18), (19, 19, .int .i64 s19), (20, 20, .int .i64 s20)] [.code (B_slices_pdqsortCmpFunc_tile_Tile.r.r.l.l.l.r.r.r.r.r.r.r.r.r.r.r.r.l), .code (B_slices_pdqsortCmpFunc_tile_Tile.r.r.l.l.l.r.r.r.r.r.r.r.r.r.r.r.r.r), .inBlock 1, .inLoop (B_slices_pdqsortCmpFunc_tile_Tile.r.r.l.l), .inBlock 0] w
noncomputable def N_slices_pdqsortCmpFunc_tile_Tile.j25 (Q : Value → World → Prop) (s0 : Option Addr) (s0n : Nat) (s0c : Nat) (s1 : Int) (s2 : Int) (s3 : Int) (s4 : Value) (s11 : Bool) (s16 : Int) (s18 : Int) (s20 : Int) (w : World) : Prop := Nd X_slices_pdqsortCmpFunc_tile_Tile Q [(0, 0, .slice s0 s0n s0c), (1, 1, .int .i64 s1), (2, 2, .int .i64 s2), (3, 3, .int .i64 s3), (4, 4, s4), (11, 11, .bool s11), (16, 16, .int .i64 s16), (18, 18, .int .i64 s18), (20, 20, .int .i64 s20)] [.code (B_slices_pdqsortCmpFunc_tile_Tile.r.r.l.l.l.r.r.r.r.r.r.r.r.r.r.r.r.r.l.l), .code (B_slices_pdqsortCmpFunc_tile_Tile.r.r.l.l.l.r.r.r.r.r.r.r.r.r.r.r.r.r.l.r), .inBlock 1, .inLoop (B_slices_pdqsortCmpFunc_tile_Tile.r.r.l.l), .inBlock 0] w
noncomputable def N_slices_pdqsortCmpFunc_tile_Tile.j26 (Q : Value → World → Prop) (s0 : Option Addr) (s0n : Nat) (s0c : Nat) (s1 : Int) (s2 : Int) (s3 : Int) (s4 : Value) (s10 : Bool) (s11 : Bool) (s16 : Int) (w : World) : Prop := Nd X_slices_pdqsortCmpFunc_tile_Tile Q [(0, 0, .slice s0 s0n s0c), (1, 1, .int .i64 s1), (2, 2, .int .i64 s2), (3, 3, .int .i64 s3), (4, 4, s4), (10, 10, .bool s10), (11, 11, .bool s11), (16, 16, .int .i64 s16)] [.code (B_slices_pdqsortCmpFunc_tile_Tile.r.r.l.l.l.r.r.r.r.r.r.r.r.r.r.r.r.r.l.r.l), .code (B_slices_pdqsortCmpFunc_tile_Tile.r.r.l.l.l.r.r.r.r.r.r.r.r.r.r.r.r.r.l.r.r), .inBlock 1, .inLoop (B_slices_pdqsortCmpFunc_tile_Tile.r.r.l.l), .inBlock 0] w
noncomputable def N_slices_pdqsortCmpFunc_tile_Tile.j27 (Q : Value → World → Prop) (s0 : Option Addr) (s0n : Nat) (s0c : Nat) (s2 : Int) (s3 : Int) (s4 : Value) (s10 : Bool) (s11 : Bool) (s16 : Int) (w : World) : Prop := Nd X_slices_pdqsortCmpFunc_tile_Tile Q [(0, 0, .slice s0 s0n s0c), (2, 2, .int .i64 s2), (3, 3, .int .i64 s3), (4, 4, s4), (10, 10, .bool s10), (11, 11, .bool s11), (16, 16, .int .i64 s16)] [.code (B_slices_pdqsortCmpFunc_tile_Tile.r.r.l.l.l.r.r.r.r.r.r.r.r.r.r.r.r.r.l.r.r), .inBlock 1, .inLoop (B_slices_pdqsortCmpFunc_tile_Tile.r.r.l.l), .inBlock 0] w
noncomputable def N_slices_pdqsortCmpFunc_tile_Tile.j28 (Q : Value → World → Prop) (s0 : Option Addr) (s0n : Nat) (s0c : Nat) (s1 : Int) (s2 : Int) (s3 : Int) (s4 : Value) (s11 : Bool) (s16 : Int) (s19 : Int) (s20 : Int) (w : World) : Prop := Nd X_slices_pdqsortCmpFunc_tile_Tile Q [(0, 0, .slice s0 s0n s0c), (1, 1, .int .i64 s1), (2, 2, .int .i64 s2), (3, 3, .int .i64 s3), (4, 4, s4), (11, 11, .bool s11), (16, 16, .int .i64 s16), (19, 19, .int .i64 s19), (20, 20, .int .i64 s20)] [.code (B_slices_pdqsortCmpFunc_tile_Tile.r.r.l.l.l.r.r.r.r.r.r.r.r.r.r.r.r.r.r.l), .code (B_slices_pdqsortCmpFunc_tile_Tile.r.r.l.l.l.r.r.r.r.r.r.r.r.r.r.r.r.r.r.r), .inBlock 1, .inLoop (B_slices_pdqsortCmpFunc_tile_Tile.r.r.l.l), .inBlock 0] w
noncomputable def N_slices_pdqsortCmpFunc_tile_Tile.j29 (Q : Value → World → Prop) (s0 : Option Addr) (s0n : Nat) (s0c : Nat) (s1 : Int) (s2 : Int) (s3 : Int) (s4 : Value) (s10 : Bool) (s11 : Bool) (s16 : Int) (w : World) : Prop := Nd X_slices_pdqsortCmpFunc_tile_Tile Q [(0, 0, .slice s0 s0n s0c), (1, 1, .int .i64 s1), (2, 2, .int .i64 s2), (3, 3, .int .i64 s3), (4, 4, s4), (10, 10, .bool s10), (11, 11, .bool s11), (16, 16, .int .i64 s16)] [.code (B_slices_pdqsortCmpFunc_tile_Tile.r.r.l.l.l.r.r.r.r.r.r.r.r.r.r.r.r.r.r.r.l), .code (B_slices_pdqsortCmpFunc_tile_Tile.r.r.l.l.l.r.r.r.r.r.r.r.r.r.r.r.r.r.r.r.r), .inBlock 1, .inLoop (B_slices_pdqsortCmpFunc_tile_Tile.r.r.l.l), .inBlock 0] w
noncomputable def N_slices_pdqsortCmpFunc_tile_Tile.j30 (Q : Value → World → Prop) (s0 : Option Addr) (s0n : Nat) (s0c : Nat) (s1 : Int) (s3 : Int) (s4 : Value) (s10 : Bool) (s11 : Bool) (s16 : Int) (w : World) : Prop := Nd X_slices_pdqsortCmpFunc_tile_Tile Q [(0, 0, .slice s0 s0n s0c), (1, 1, .int .i64 s1), (3, 3, .int .i64 s3), (4, 4, s4), (10, 10, .bool s10), (11, 11, .bool s11), (16, 16, .int .i64 s16)] [.code (B_slices_pdqsortCmpFunc_tile_Tile.r.r.l.l.l.r.r.r.r.r.r.r.r.r.r.r.r.r.r.r.r), .inBlock 1, .inLoop (B_slices_pdqsortCmpFunc_tile_Tile.r.r.l.l), .inBlock 0] w
theorem N_slices_pdqsortCmpFunc_tile_Tile.j2_eq (Q : Value → World → Prop) (s0 : Option Addr) (s0n : Nat) (s0c : Nat) (s1 : Int) (s2 : Int) (s3 : Int) (s4 : Value) (s10 : Bool) (s11 : Bool) (w : World) (h :
  cond (decide ((IntKind.wrap .i64 (s2 - s1)) ≤ 12))
  (C_slices_insertionSortCmpFunc_tile_Tile #[.slice s0 s0n s0c, .int .i64 s1, .int .i64 s2, s4] w fun v1 w2 =>
  opnT (some v1) fun x3 =>
  x3.size = 0 ∧
  Q (.tuple #[]) w2)
  (cond (s3 == 0)
  (C_slices_heapSortCmpFunc_tile_Tile #[.slice s0 s0n s0c, .int .i64 s1, .int .i64 s2, s4] w fun v4 w5 =>
  opnT (some v4) fun x6 =>
  x6.size = 0 ∧
  Q (.tuple #[]) w5)
  (cond (!s10)
  (C_slices_breakPatternsCmpFunc_tile_Tile #[.slice s0 s0n s0c, .int .i64 s1, .int .i64 s2, s4] w fun v7 w8 =>
  opnT (some v7) fun x9 =>
  x9.size = 0 ∧
  N_slices_pdqsortCmpFunc_tile_Tile.j10 Q s0 s0n s0c s1 s2 (IntKind.wrap .i64 (s3 - 1)) s4 s10 s11 (IntKind.wrap .i64 (s2 - s1)) w8)
  (N_slices_pdqsortCmpFunc_tile_Tile.j10 Q s0 s0n s0c s1 s2 s3 s4 s10 s11 (IntKind.wrap .i64 (s2 - s1)) w)))) :
N_slices_pdqsortCmpFunc_tile_Tile.j2 Q s0 s0n s0c s1 s2 s3 s4 s10 s11 w := Nd_fold K_slices_pdqsortCmpFunc_tile_Tile (by kernel_rfl) h
theorem N_slices_pdqsortCmpFunc_tile_Tile.j10_eq (Q : Value → World → Prop) (s0 : Option Addr) (s0n : Nat) (s0c : Nat) (s1 : Int) (s2 : Int) (s3 : Int) (s4 : Value) (s10 : Bool) (s11 : Bool) (s12 : Int) (w : World) (h :
  C_slices_choosePivotCmpFunc_tile_Tile #[.slice s0 s0n s0c, .int .i64 s1, .int .i64 s2, s4] w fun v1 w2 =>
  opnT (some v1) fun x3 =>
  x3.size = 2 ∧
  opnI .i64 (x3[0]?) fun x4 =>
  opnI .i64 (x3[1]?) fun x5 =>
  N_slices_pdqsortCmpFunc_tile_Tile.j11 Q s0 s0n s0c s1 s2 s3 s4 s10 s11 s12 x4 x5 w2) :
N_slices_pdqsortCmpFunc_tile_Tile.j10 Q s0 s0n s0c s1 s2 s3 s4 s10 s11 s12 w := Nd_fold K_slices_pdqsortCmpFunc_tile_Tile (by kernel_rfl) h
theorem N_slices_pdqsortCmpFunc_tile_Tile.j11_eq (Q : Value → World → Prop) (s0 : Option Addr) (s0n : Nat) (s0c : Nat) (s1 : Int) (s2 : Int) (s3 : Int) (s4 : Value) (s10 : Bool) (s11 : Bool) (s12 : Int) (s13 : Int) (s14 : Int) (w : World) (h :
  cond (s14 == 2)
  (N_slices_pdqsortCmpFunc_tile_Tile.j12 Q s0 s0n s0c s1 s2 s3 s4 s10 s11 s12 s13 w)
  (N_slices_pdqsortCmpFunc_tile_Tile.j15 Q s0 s0n s0c s1 s2 s3 s4 s10 s11 s12 s13 s14 w)) :
N_slices_pdqsortCmpFunc_tile_Tile.j11 Q s0 s0n s0c s1 s2 s3 s4 s10 s11 s12 s13 s14 w := Nd_fold K_slices_pdqsortCmpFunc_tile_Tile (by kernel_rfl) h
theorem N_slices_pdqsortCmpFunc_tile_Tile.j12_eq (Q : Value → World → Prop) (s0 : Option Addr) (s0n : Nat) (s0c : Nat) (s1 : Int) (s2 : Int) (s3 : Int) (s4 : Value) (s10 : Bool) (s11 : Bool) (s12 : Int) (s13 : Int) (w : World) (h :
  C_slices_reverseRangeCmpFunc_tile_Tile #[.slice s0 s0n s0c, .int .i64 s1, .int .i64 s2, s4] w fun v1 w2 =>
  opnT (some v1) fun x3 =>
  x3.size = 0 ∧
  N_slices_pdqsortCmpFunc_tile_Tile.j13 Q s0 s0n s0c s1 s2 s3 s4 s10 s11 s12 s13 w2) :
N_slices_pdqsortCmpFunc_tile_Tile.j12 Q s0 s0n s0c s1 s2 s3 s4 s10 s11 s12 s13 w := Nd_fold K_slices_pdqsortCmpFunc_tile_Tile (by kernel_rfl) h
theorem N_slices_pdqsortCmpFunc_tile_Tile.j13_eq (Q : Value → World → Prop) (s0 : Option Addr) (s0n : Nat) (s0c : Nat) (s1 : Int) (s2 : Int) (s3 : Int) (s4 : Value) (s10 : Bool) (s11 : Bool) (s12 : Int) (s13 : Int) (w : World) (h :
  N_slices_pdqsortCmpFunc_tile_Tile.j14 Q s0 s0n s0c s1 s2 s3 s4 s10 s11 s12 (IntKind.wrap .i64 ((IntKind.wrap .i64 (s2 - 1)) - (IntKind.wrap .i64 (s13 - s1)))) w) :
N_slices_pdqsortCmpFunc_tile_Tile.j13 Q s0 s0n s0c s1 s2 s3 s4 s10 s11 s12 s13 w := Nd_fold K_slices_pdqsortCmpFunc_tile_Tile (by kernel_rfl) h
theorem N_slices_pdqsortCmpFunc_tile_Tile.j14_eq (Q : Value → World → Prop) (s0 : Option Addr) (s0n : Nat) (s0c : Nat) (s1 : Int) (s2 : Int) (s3 : Int) (s4 : Value) (s10 : Bool) (s11 : Bool) (s12 : Int) (s13 : Int) (w : World) (h :
  N_slices_pdqsortCmpFunc_tile_Tile.j15 Q s0 s0n s0c s1 s2 s3 s4 s10 s11 s12 s13 1 w) :
N_slices_pdqsortCmpFunc_tile_Tile.j14 Q s0 s0n s0c s1 s2 s3 s4 s10 s11 s12 s13 w := Nd_fold K_slices_pdqsortCmpFunc_tile_Tile (by kernel_rfl) h
theorem N_slices_pdqsortCmpFunc_tile_Tile.j15_eq (Q : Value → World → Prop) (s0 : Option Addr) (s0n : Nat) (s0c : Nat) (s1 : Int) (s2 : Int) (s3 : Int) (s4 : Value) (s10 : Bool) (s11 : Bool) (s12 : Int) (s13 : Int) (s14 : Int) (w : World) (h :
  cond s10
  (cond s11
  (cond (s14 == 1)
  (N_slices_pdqsortCmpFunc_tile_Tile.j16 Q s0 s0n s0c s1 s2 s3 s4 true s11 s12 s13 w)
  (N_slices_pdqsortCmpFunc_tile_Tile.j17 Q s0 s0n s0c s1 s2 s3 s4 true s11 s12 s13 w))
  (N_slices_pdqsortCmpFunc_tile_Tile.j17 Q s0 s0n s0c s1 s2 s3 s4 true s11 s12 s13 w))
  (N_slices_pdqsortCmpFunc_tile_Tile.j17 Q s0 s0n s0c s1 s2 s3 s4 false s11 s12 s13 w)) :
N_slices_pdqsortCmpFunc_tile_Tile.j15 Q s0 s0n s0c s1 s2 s3 s4 s10 s11 s12 s13 s14 w := Nd_fold K_slices_pdqsortCmpFunc_tile_Tile (by kernel_rfl) h
theorem N_slices_pdqsortCmpFunc_tile_Tile.j16_eq (Q : Value → World → Prop) (s0 : Option Addr) (s0n : Nat) (s0c : Nat) (s1 : Int) (s2 : Int) (s3 : Int) (s4 : Value) (s10 : Bool) (s11 : Bool) (s12 : Int) (s13 : Int) (w : World) (h :
  C_slices_partialInsertionSortCmpFunc_tile_Tile #[.slice s0 s0n s0c, .int .i64 s1, .int .i64 s2, s4] w fun v1 w2 =>
  opnB (some v1) fun x3 =>
  cond x3
  (Q (.tuple #[]) w2)
  (N_slices_pdqsortCmpFunc_tile_Tile.j17 Q s0 s0n s0c s1 s2 s3 s4 s10 s11 s12 s13 w2)) :
N_slices_pdqsortCmpFunc_tile_Tile.j16 Q s0 s0n s0c s1 s2 s3 s4 s10 s11 s12 s13 w := Nd_fold K_slices_pdqsortCmpFunc_tile_Tile (by kernel_rfl) h
theorem N_slices_pdqsortCmpFunc_tile_Tile.j17_eq (Q : Value → World → Prop) (s0 : Option Addr) (s0n : Nat) (s0c : Nat) (s1 : Int) (s2 : Int) (s3 : Int) (s4 : Value) (s10 : Bool) (s11 : Bool) (s12 : Int) (s13 : Int) (w : World) (h :
  drw w fun w1 =>
  cond (decide (s1 > 0))
  ((0 : Int) ≤ IntKind.wrap .i64 (s1 - 1) ∧
  (IntKind.wrap .i64 (s1 - 1)) < ((s0n : Nat) : Int) ∧
  opnA s0 fun ad2 =>
  (0 : Int) ≤ s13 ∧
  s13 < ((s0n : Nat) : Int) ∧
  opnA s0 fun ad3 =>
  opnI .i64 (w1.cell? ((ad2.add (Int.toNat (IntKind.wrap .i64 (s1 - 1)) * 5)).add 0)) fun x4 =>
  opnI .i64 (w1.cell? ((ad2.add (Int.toNat (IntKind.wrap .i64 (s1 - 1)) * 5)).add 1)) fun x5 =>
  opnI .i64 (w1.cell? ((ad2.add (Int.toNat (IntKind.wrap .i64 (s1 - 1)) * 5)).add 2)) fun x6 =>
  opnI .i64 (w1.cell? ((ad2.add (Int.toNat (IntKind.wrap .i64 (s1 - 1)) * 5)).add 3)) fun x7 =>
  opnB (w1.cell? ((ad2.add (Int.toNat (IntKind.wrap .i64 (s1 - 1)) * 5)).add 4)) fun x8 =>
  opnI .i64 (w1.cell? ((ad3.add (Int.toNat s13 * 5)).add 0)) fun x9 =>
  opnI .i64 (w1.cell? ((ad3.add (Int.toNat s13 * 5)).add 1)) fun x10 =>
  opnI .i64 (w1.cell? ((ad3.add (Int.toNat s13 * 5)).add 2)) fun x11 =>
  opnI .i64 (w1.cell? ((ad3.add (Int.toNat s13 * 5)).add 3)) fun x12 =>
  opnB (w1.cell? ((ad3.add (Int.toNat s13 * 5)).add 4)) fun x13 =>
  invk PP s4 #[.agg #[.int .i64 x4, .int .i64 x5, .int .i64 x6, .int .i64 x7, .bool x8], .agg #[.int .i64 x9, .int .i64 x10, .int .i64 x11, .int .i64 x12, .bool x13]] w1 fun v14 w15 =>
  opnI .i64 (some v14) fun x16 =>
  cond (!(decide (x16 < 0)))
  (N_slices_pdqsortCmpFunc_tile_Tile.j18 Q s0 s0n s0c s1 s2 s3 s4 s10 s11 s13 w15)
  (N_slices_pdqsortCmpFunc_tile_Tile.j20 Q s0 s0n s0c s1 s2 s3 s4 s12 s13 w15))
  (N_slices_pdqsortCmpFunc_tile_Tile.j20 Q s0 s0n s0c s1 s2 s3 s4 s12 s13 w1)) :
N_slices_pdqsortCmpFunc_tile_Tile.j17 Q s0 s0n s0c s1 s2 s3 s4 s10 s11 s12 s13 w := Nd_fold K_slices_pdqsortCmpFunc_tile_Tile (by kernel_rfl) h
theorem N_slices_pdqsortCmpFunc_tile_Tile.j18_eq (Q : Value → World → Prop) (s0 : Option Addr) (s0n : Nat) (s0c : Nat) (s1 : Int) (s2 : Int) (s3 : Int) (s4 : Value) (s10 : Bool) (s11 : Bool) (s13 : Int) (w : World) (h :
  C_slices_partitionEqualCmpFunc_tile_Tile #[.slice s0 s0n s0c, .int .i64 s1, .int .i64 s2, .int .i64 s13, s4] w fun v1 w2 =>
  opnI .i64 (some v1) fun x3 =>
  N_slices_pdqsortCmpFunc_tile_Tile.j19 Q s0 s0n s0c s2 s3 s4 s10 s11 x3 w2) :
N_slices_pdqsortCmpFunc_tile_Tile.j18 Q s0 s0n s0c s1 s2 s3 s4 s10 s11 s13 w := Nd_fold K_slices_pdqsortCmpFunc_tile_Tile (by kernel_rfl) h
theorem N_slices_pdqsortCmpFunc_tile_Tile.j19_eq (Q : Value → World → Prop) (s0 : Option Addr) (s0n : Nat) (s0c : Nat) (s2 : Int) (s3 : Int) (s4 : Value) (s10 : Bool) (s11 : Bool) (s15 : Int) (w : World) (h :
  N_slices_pdqsortCmpFunc_tile_Tile.j2 Q s0 s0n s0c s15 s2 s3 s4 s10 s11 w) :
N_slices_pdqsortCmpFunc_tile_Tile.j19 Q s0 s0n s0c s2 s3 s4 s10 s11 s15 w := Nd_fold K_slices_pdqsortCmpFunc_tile_Tile (by kernel_rfl) h
theorem N_slices_pdqsortCmpFunc_tile_Tile.j20_eq (Q : Value → World → Prop) (s0 : Option Addr) (s0n : Nat) (s0c : Nat) (s1 : Int) (s2 : Int) (s3 : Int) (s4 : Value) (s12 : Int) (s13 : Int) (w : World) (h :
  C_slices_partitionCmpFunc_tile_Tile #[.slice s0 s0n s0c, .int .i64 s1, .int .i64 s2, .int .i64 s13, s4] w fun v1 w2 =>
  opnT (some v1) fun x3 =>
  x3.size = 2 ∧
  opnI .i64 (x3[0]?) fun x4 =>
  opnB (x3[1]?) fun x5 =>
  N_slices_pdqsortCmpFunc_tile_Tile.j21 Q s0 s0n s0c s1 s2 s3 s4 s12 x4 x5 w2) :
N_slices_pdqsortCmpFunc_tile_Tile.j20 Q s0 s0n s0c s1 s2 s3 s4 s12 s13 w := Nd_fold K_slices_pdqsortCmpFunc_tile_Tile (by kernel_rfl) h
theorem N_slices_pdqsortCmpFunc_tile_Tile.j21_eq (Q : Value → World → Prop) (s0 : Option Addr) (s0n : Nat) (s0c : Nat) (s1 : Int) (s2 : Int) (s3 : Int) (s4 : Value) (s12 : Int) (s16 : Int) (s17 : Bool) (w : World) (h :
  N_slices_pdqsortCmpFunc_tile_Tile.j22 Q s0 s0n s0c s1 s2 s3 s4 s17 s12 s16 w) :
N_slices_pdqsortCmpFunc_tile_Tile.j21 Q s0 s0n s0c s1 s2 s3 s4 s12 s16 s17 w := Nd_fold K_slices_pdqsortCmpFunc_tile_Tile (by kernel_rfl) h
theorem N_slices_pdqsortCmpFunc_tile_Tile.j22_eq (Q : Value → World → Prop) (s0 : Option Addr) (s0n : Nat) (s0c : Nat) (s1 : Int) (s2 : Int) (s3 : Int) (s4 : Value) (s11 : Bool) (s12 : Int) (s16 : Int) (w : World) (h :
  N_slices_pdqsortCmpFunc_tile_Tile.j23 Q s0 s0n s0c s1 s2 s3 s4 s11 s12 s16 (IntKind.wrap .i64 (s16 - s1)) (IntKind.wrap .i64 (s2 - s16)) w) :
N_slices_pdqsortCmpFunc_tile_Tile.j22 Q s0 s0n s0c s1 s2 s3 s4 s11 s12 s16 w := Nd_fold K_slices_pdqsortCmpFunc_tile_Tile (by kernel_rfl) h
theorem N_slices_pdqsortCmpFunc_tile_Tile.j23_eq (Q : Value → World → Prop) (s0 : Option Addr) (s0n : Nat) (s0c : Nat) (s1 : Int) (s2 : Int) (s3 : Int) (s4 : Value) (s11 : Bool) (s12 : Int) (s16 : Int) (s18 : Int) (s19 : Int) (w : World) (h :
  8 ≠ (0 : Int) ∧
  N_slices_pdqsortCmpFunc_tile_Tile.j24 Q s0 s0n s0c s1 s2 s3 s4 s11 s16 s18 s19 (IntKind.wrap .i64 (Int.tdiv s12 8)) w) :
N_slices_pdqsortCmpFunc_tile_Tile.j23 Q s0 s0n s0c s1 s2 s3 s4 s11 s12 s16 s18 s19 w := Nd_fold K_slices_pdqsortCmpFunc_tile_Tile (by kernel_rfl) h
theorem N_slices_pdqsortCmpFunc_tile_Tile.j24_eq (Q : Value → World → Prop) (s0 : Option Addr) (s0n : Nat) (s0c : Nat) (s1 : Int) (s2 : Int) (s3 : Int) (s4 : Value) (s11 : Bool) (s16 : Int) (s18 : Int) (s19 : Int) (s20 : Int) (w : World) (h :
  cond (decide (s18 < s19))
  (N_slices_pdqsortCmpFunc_tile_Tile.j25 Q s0 s0n s0c s1 s2 s3 s4 s11 s16 s18 s20 w)
  (N_slices_pdqsortCmpFunc_tile_Tile.j28 Q s0 s0n s0c s1 s2 s3 s4 s11 s16 s19 s20 w)) :
N_slices_pdqsortCmpFunc_tile_Tile.j24 Q s0 s0n s0c s1 s2 s3 s4 s11 s16 s18 s19 s20 w := Nd_fold K_slices_pdqsortCmpFunc_tile_Tile (by kernel_rfl) h
theorem N_slices_pdqsortCmpFunc_tile_Tile.j25_eq (Q : Value → World → Prop) (s0 : Option Addr) (s0n : Nat) (s0c : Nat) (s1 : Int) (s2 : Int) (s3 : Int) (s4 : Value) (s11 : Bool) (s16 : Int) (s18 : Int) (s20 : Int) (w : World) (h :
  N_slices_pdqsortCmpFunc_tile_Tile.j26 Q s0 s0n s0c s1 s2 s3 s4 (decide (s18 ≥ s20)) s11 s16 w) :
N_slices_pdqsortCmpFunc_tile_Tile.j25 Q s0 s0n s0c s1 s2 s3 s4 s11 s16 s18 s20 w := Nd_fold K_slices_pdqsortCmpFunc_tile_Tile (by kernel_rfl) h
theorem N_slices_pdqsortCmpFunc_tile_Tile.j26_eq (Q : Value → World → Prop) (s0 : Option Addr) (s0n : Nat) (s0c : Nat) (s1 : Int) (s2 : Int) (s3 : Int) (s4 : Value) (s10 : Bool) (s11 : Bool) (s16 : Int) (w : World) (h :
  C_slices_pdqsortCmpFunc_tile_Tile #[.slice s0 s0n s0c, .int .i64 s1, .int .i64 s16, .int .i64 s3, s4] w fun v1 w2 =>
  opnT (some v1) fun x3 =>
  x3.size = 0 ∧
  N_slices_pdqsortCmpFunc_tile_Tile.j27 Q s0 s0n s0c s2 s3 s4 s10 s11 s16 w2) :
N_slices_pdqsortCmpFunc_tile_Tile.j26 Q s0 s0n s0c s1 s2 s3 s4 s10 s11 s16 w := Nd_fold K_slices_pdqsortCmpFunc_tile_Tile (by kernel_rfl) h
theorem N_slices_pdqsortCmpFunc_tile_Tile.j27_eq (Q : Value → World → Prop) (s0 : Option Addr) (s0n : Nat) (s0c : Nat) (s2 : Int) (s3 : Int) (s4 : Value) (s10 : Bool) (s11 : Bool) (s16 : Int) (w : World) (h :
  N_slices_pdqsortCmpFunc_tile_Tile.j2 Q s0 s0n s0c (IntKind.wrap .i64 (s16 + 1)) s2 s3 s4 s10 s11 w) :
N_slices_pdqsortCmpFunc_tile_Tile.j27 Q s0 s0n s0c s2 s3 s4 s10 s11 s16 w := Nd_fold K_slices_pdqsortCmpFunc_tile_Tile (by kernel_rfl) h
theorem N_slices_pdqsortCmpFunc_tile_Tile.j28_eq (Q : Value → World → Prop) (s0 : Option Addr) (s0n : Nat) (s0c : Nat) (s1 : Int) (s2 : Int) (s3 : Int) (s4 : Value) (s11 : Bool) (s16 : Int) (s19 : Int) (s20 : Int) (w : World) (h :
  N_slices_pdqsortCmpFunc_tile_Tile.j29 Q s0 s0n s0c s1 s2 s3 s4 (decide (s19 ≥ s20)) s11 s16 w) :
N_slices_pdqsortCmpFunc_tile_Tile.j28 Q s0 s0n s0c s1 s2 s3 s4 s11 s16 s19 s20 w := Nd_fold K_slices_pdqsortCmpFunc_tile_Tile (by kernel_rfl) h
theorem N_slices_pdqsortCmpFunc_tile_Tile.j29_eq (Q : Value → World → Prop) (s0 : Option Addr) (s0n : Nat) (s0c : Nat) (s1 : Int) (s2 : Int) (s3 : Int) (s4 : Value) (s10 : Bool) (s11 : Bool) (s16 : Int) (w : World) (h :
  C_slices_pdqsortCmpFunc_tile_Tile #[.slice s0 s0n s0c, .int .i64 (IntKind.wrap .i64 (s16 + 1)), .int .i64 s2, .int .i64 s3, s4] w fun v1 w2 =>
  opnT (some v1) fun x3 =>
  x3.size = 0 ∧
  N_slices_pdqsortCmpFunc_tile_Tile.j30 Q s0 s0n s0c s1 s3 s4 s10 s11 s16 w2) :
N_slices_pdqsortCmpFunc_tile_Tile.j29 Q s0 s0n s0c s1 s2 s3 s4 s10 s11 s16 w := Nd_fold K_slices_pdqsortCmpFunc_tile_Tile (by kernel_rfl) h
theorem N_slices_pdqsortCmpFunc_tile_Tile.j30_eq (Q : Value → World → Prop) (s0 : Option Addr) (s0n : Nat) (s0c : Nat) (s1 : Int) (s3 : Int) (s4 : Value) (s10 : Bool) (s11 : Bool) (s16 : Int) (w : World) (h :
  N_slices_pdqsortCmpFunc_tile_Tile.j2 Q s0 s0n s0c s1 s16 s3 s4 s10 s11 w) :
N_slices_pdqsortCmpFunc_tile_Tile.j30 Q s0 s0n s0c s1 s3 s4 s10 s11 s16 w := Nd_fold K_slices_pdqsortCmpFunc_tile_Tile (by kernel_rfl) h
theorem C_slices_pdqsortCmpFunc_tile_Tile_eq (Q : Value → World → Prop) (a0 : Option Addr) (a0n : Nat) (a0c : Nat) (a1 : Int) (a2 : Int) (a3 : Int) (a4 : Value) (w : World) (h :
  N_slices_pdqsortCmpFunc_tile_Tile.j2 Q a0 a0n a0c a1 a2 a3 a4 true true w) :
C_slices_pdqsortCmpFunc_tile_Tile #[.slice a0 a0n a0c, .int .i64 a1, .int .i64 a2, .int .i64 a3, a4] w Q := C_fold K_slices_pdqsortCmpFunc_tile_Tile (by kernel_rfl) h
/-! ### math/bits.Len -/
noncomputable def B_math_bits_Len : Code := match Try.f65.body with | some c => c | _ => .skip
noncomputable def X_math_bits_Len : Cx := { P := PP, fn := 65, N := 8, tab := tab, results := [.tmp 2], iter := fun _ => (.none, .none), dyn := fun _ => false, live := fun _ => none }
theorem K_math_bits_Len : OkF X_math_bits_Len B_math_bits_Len Try.f65 := ⟨⟨tab_ok, mix_ok⟩, Try.func65, by kernel_rfl, by kernel_rfl, by kernel_rfl, by kernel_rfl⟩
theorem C_math_bits_Len_eq (Q : Value → World → Prop) (a0 : Int) (w : World) (h :
  C_math_bits_Len64 #[.int .u64 a0] w fun v1 w2 =>
  opnI .i64 (some v1) fun x3 =>
  Q (.int .i64 x3) w2) :
C_math_bits_Len #[.int .u64 a0] w Q := C_fold K_math_bits_Len (by kernel_rfl) h
/-! ### cmp.isNaN[int] -/
noncomputable def B_cmp_isNaN_int : Code := match Try.f66.body with | some c => c | _ => .skip
noncomputable def X_cmp_isNaN_int : Cx := { P := PP, fn := 66, N := 6, tab := tab, results := [.tmp 2], iter := fun _ => (.none, .none), dyn := fun _ => false, live := fun _ => none }
theorem K_cmp_isNaN_int : OkF X_cmp_isNaN_int B_cmp_isNaN_int Try.f66 := ⟨⟨tab_ok, mix_ok⟩, Try.func66, by kernel_rfl, by kernel_rfl, by kernel_rfl, by kernel_rfl⟩
theorem C_cmp_isNaN_int_eq (Q : Value → World → Prop) (a0 : Int) (w : World) (h :
  Q (.bool (a0 != a0)) w) :
C_cmp_isNaN_int #[.int .i64 a0] w Q := C_fold K_cmp_isNaN_int (by kernel_rfl) h
/-! ### cmp.isNaN[int64] -/
noncomputable def B_cmp_isNaN_int64 : Code := match Try.f67.body with | some c => c | _ => .skip
noncomputable def X_cmp_isNaN_int64 : Cx := { P := PP, fn := 67, N := 6, tab := tab, results := [.tmp 2], iter := fun _ => (.none, .none), dyn := fun _ => false, live := fun _ => none }
theorem K_cmp_isNaN_int64 : OkF X_cmp_isNaN_int64 B_cmp_isNaN_int64 Try.f67 := ⟨⟨tab_ok, mix_ok⟩, Try.func67, by kernel_rfl, by kernel_rfl, by kernel_rfl, by kernel_rfl⟩
theorem C_cmp_isNaN_int64_eq (Q : Value → World → Prop) (a0 : Int) (w : World) (h :
  Q (.bool (a0 != a0)) w) :
C_cmp_isNaN_int64 #[.int .i64 a0] w Q := C_fold K_cmp_isNaN_int64 (by kernel_rfl) h
/-! ### ledger/ledgerref08.Index -/
noncomputable def B_r08_Index : Code := match Try.f68.body with | some c => c | _ => .skip
noncomputable def X_r08_Index : Cx := { P := PP, fn := 68, N := 38, tab := tab, results := [.tmp 4, .tmp 5], iter := fun _ => (.none, .none), dyn := fun _ => false, live := fun r => cond (Nat.beq r 2) (some []) (none) }
theorem K_r08_Index : OkF X_r08_Index B_r08_Index Try.f68 := ⟨⟨tab_ok, mix_ok⟩, Try.func68, by kernel_rfl, by kernel_rfl, by kernel_rfl, by kernel_rfl⟩
noncomputable def N_r08_Index.j2 (Q : Value → World → Prop) (w : World) : Prop := Nd X_r08_Index Q [] [.code (B_r08_Index.r.l.r.l.l), .code (B_r08_Index.r.l.r.l.r), .code (B_r08_Index.r.r)] w
theorem N_r08_Index.j2_eq (Q : Value → World → Prop) (w : World) (h :
  Q (.tuple #[.int .i64 0, .int .i64 1]) w) :
N_r08_Index.j2 Q w := Nd_fold K_r08_Index (by kernel_rfl) h
theorem C_r08_Index_eq (Q : Value → World → Prop) (a0 : Int) (a1 : Int) (w : World) (h :
  cond (decide (a0 < 0))
  (N_r08_Index.j2 Q w)
  (cond (decide (a0 > 48))
  (N_r08_Index.j2 Q w)
  (cond (decide (a1 < 0))
  (N_r08_Index.j2 Q w)
  (cond (decide (a1 ≥ 281474976710656))
  (N_r08_Index.j2 Q w)
  (C_r08_power #[.int .i64 a0] w fun v1 w2 =>
  opnI .i64 (some v1) fun x3 =>
  x3 ≠ (0 : Int) ∧
  cond (decide ((IntKind.wrap .i64 (a1 + 1)) > (IntKind.wrap .i64 (Int.tdiv 281474976710656 x3))))
  (Q (.tuple #[.int .i64 0, .int .i64 1]) w2)
  (C_r08_laid #[.int .i64 (IntKind.wrap .i64 ((IntKind.wrap .i64 ((IntKind.wrap .i64 (a1 + 1)) * x3)) - 1))] w2 fun v4 w5 =>
  opnI .i64 (some v4) fun x6 =>
  Q (.tuple #[.int .i64 (IntKind.wrap .i64 (x6 + a0)), .int .i64 0]) w5)))))) :
C_r08_Index #[.int .i64 a0, .int .i64 a1] w Q := C_fold K_r08_Index (by kernel_rfl) h
/-! ### ledger/tlog.filled -/
noncomputable def B_tlog_filled : Code := match Try.f69.body with | some c => c | _ => .skip
noncomputable def X_tlog_filled : Cx := { P := PP, fn := 69, N := 18, tab := tab, results := [.tmp 2], iter := fun _ => (.none, .none), dyn := fun _ => false, live := fun r => cond (Nat.beq r 2) (some [0, 3]) (cond (Nat.beq r 4) (some [3]) (none)) }
theorem K_tlog_filled : OkF X_tlog_filled B_tlog_filled Try.f69 := ⟨⟨tab_ok, mix_ok⟩, Try.func69, by kernel_rfl, by kernel_rfl, by kernel_rfl, by kernel_rfl⟩
noncomputable def N_tlog_filled.j2 (Q : Value → World → Prop) (s0 : Int) (s3 : Int) (w : World) : Prop := Nd X_tlog_filled Q [(0, 0, .int .i64 s0), (3, 3, .int .i64 s3)] [.code (B_tlog_filled.r.r.l.l.l.l.l), .code (B_tlog_filled.r.r.l.l.l.l.r), .code (B_tlog_filled.r.r.l.l.l.r), .inLoop (B_tlog_filled.r.r.l.l.l), .inBlock 0, .code (B_tlog_filled.r.r.r)] w
noncomputable def N_tlog_filled.j4 (Q : Value → World → Prop) (s3 : Int) (w : World) : Prop := Nd X_tlog_filled Q [(3, 3, .int .i64 s3)] [.code (B_tlog_filled.r.r.r.l), .code (B_tlog_filled.r.r.r.r)] w
theorem N_tlog_filled.j2_eq (Q : Value → World → Prop) (s0 : Int) (s3 : Int) (w : World) (h :
  cond (decide (s3 < 281474976710656))
  (C_tlog_count #[.int .i64 (IntKind.wrap .i64 (s3 + 1))] w fun v1 w2 =>
  opnI .i64 (some v1) fun x3 =>
  cond (decide (x3 ≤ s0))
  (N_tlog_filled.j2 Q s0 (IntKind.wrap .i64 (s3 + 1)) w2)
  (N_tlog_filled.j4 Q s3 w2))
  (N_tlog_filled.j4 Q s3 w)) :
N_tlog_filled.j2 Q s0 s3 w := Nd_fold K_tlog_filled (by kernel_rfl) h
theorem N_tlog_filled.j4_eq (Q : Value → World → Prop) (s3 : Int) (w : World) (h :
  Q (.int .i64 s3) w) :
N_tlog_filled.j4 Q s3 w := Nd_fold K_tlog_filled (by kernel_rfl) h
theorem C_tlog_filled_eq (Q : Value → World → Prop) (a0 : Int) (w : World) (h :
  2 ≠ (0 : Int) ∧
  N_tlog_filled.j2 Q a0 (IntKind.wrap .i64 (Int.tdiv a0 2)) w) :
C_tlog_filled #[.int .i64 a0] w Q := C_fold K_tlog_filled (by kernel_rfl) h
/-! ### math/bits.OnesCount64 -/
noncomputable def B_math_bits_OnesCount64 : Code := match Try.f70.body with | some c => c | _ => .skip
noncomputable def X_math_bits_OnesCount64 : Cx := { P := PP, fn := 70, N := 35, tab := tab, results := [.tmp 2], iter := fun _ => (.none, .none), dyn := fun _ => false, live := fun _ => none }
theorem K_math_bits_OnesCount64 : OkF X_math_bits_OnesCount64 B_math_bits_OnesCount64 Try.f70 := ⟨⟨tab_ok, mix_ok⟩, Try.func70, by kernel_rfl, by kernel_rfl, by kernel_rfl, by kernel_rfl⟩
theorem C_math_bits_OnesCount64_eq (Q : Value → World → Prop) (a0 : Int) (w : World) (h :
  Q (.int .i64 (bits .and .i64 (IntKind.wrap .i64 (IntKind.wrap .u64 ((IntKind.wrap .u64 ((IntKind.wrap .u64 ((bits .and .u64 (IntKind.wrap .u64 ((shrI .u64 (IntKind.wrap .u64 ((bits .and .u64 (shrI .u64 (IntKind.wrap .u64 ((bits .and .u64 (shrI .u64 a0 1) 6148914691236517205) + (bits .and .u64 a0 6148914691236517205))) 2) 3689348814741910323) + (bits .and .u64 (IntKind.wrap .u64 ((bits .and .u64 (shrI .u64 a0 1) 6148914691236517205) + (bits .and .u64 a0 6148914691236517205))) 3689348814741910323))) 4) + (IntKind.wrap .u64 ((bits .and .u64 (shrI .u64 (IntKind.wrap .u64 ((bits .and .u64 (shrI .u64 a0 1) 6148914691236517205) + (bits .and .u64 a0 6148914691236517205))) 2) 3689348814741910323) + (bits .and .u64 (IntKind.wrap .u64 ((bits .and .u64 (shrI .u64 a0 1) 6148914691236517205) + (bits .and .u64 a0 6148914691236517205))) 3689348814741910323))))) 1085102592571150095) + (shrI .u64 (bits .and .u64 (IntKind.wrap .u64 ((shrI .u64 (IntKind.wrap .u64 ((bits .and .u64 (shrI .u64 (IntKind.wrap .u64 ((bits .and .u64 (shrI .u64 a0 1) 6148914691236517205) + (bits .and .u64 a0 6148914691236517205))) 2) 3689348814741910323) + (bits .and .u64 (IntKind.wrap .u64 ((bits .and .u64 (shrI .u64 a0 1) 6148914691236517205) + (bits .and .u64 a0 6148914691236517205))) 3689348814741910323))) 4) + (IntKind.wrap .u64 ((bits .and .u64 (shrI .u64 (IntKind.wrap .u64 ((bits .and .u64 (shrI .u64 a0 1) 6148914691236517205) + (bits .and .u64 a0 6148914691236517205))) 2) 3689348814741910323) + (bits .and .u64 (IntKind.wrap .u64 ((bits .and .u64 (shrI .u64 a0 1) 6148914691236517205) + (bits .and .u64 a0 6148914691236517205))) 3689348814741910323))))) 1085102592571150095) 8))) + (shrI .u64 (IntKind.wrap .u64 ((bits .and .u64 (IntKind.wrap .u64 ((shrI .u64 (IntKind.wrap .u64 ((bits .and .u64 (shrI .u64 (IntKind.wrap .u64 ((bits .and .u64 (shrI .u64 a0 1) 6148914691236517205) + (bits .and .u64 a0 6148914691236517205))) 2) 3689348814741910323) + (bits .and .u64 (IntKind.wrap .u64 ((bits .and .u64 (shrI .u64 a0 1) 6148914691236517205) + (bits .and .u64 a0 6148914691236517205))) 3689348814741910323))) 4) + (IntKind.wrap .u64 ((bits .and .u64 (shrI .u64 (IntKind.wrap .u64 ((bits .and .u64 (shrI .u64 a0 1) 6148914691236517205) + (bits .and .u64 a0 6148914691236517205))) 2) 3689348814741910323) + (bits .and .u64 (IntKind.wrap .u64 ((bits .and .u64 (shrI .u64 a0 1) 6148914691236517205) + (bits .and .u64 a0 6148914691236517205))) 3689348814741910323))))) 1085102592571150095) + (shrI .u64 (bits .and .u64 (IntKind.wrap .u64 ((shrI .u64 (IntKind.wrap .u64 ((bits .and .u64 (shrI .u64 (IntKind.wrap .u64 ((bits .and .u64 (shrI .u64 a0 1) 6148914691236517205) + (bits .and .u64 a0 6148914691236517205))) 2) 3689348814741910323) + (bits .and .u64 (IntKind.wrap .u64 ((bits .and .u64 (shrI .u64 a0 1) 6148914691236517205) + (bits .and .u64 a0 6148914691236517205))) 3689348814741910323))) 4) + (IntKind.wrap .u64 ((bits .and .u64 (shrI .u64 (IntKind.wrap .u64 ((bits .and .u64 (shrI .u64 a0 1) 6148914691236517205) + (bits .and .u64 a0 6148914691236517205))) 2) 3689348814741910323) + (bits .and .u64 (IntKind.wrap .u64 ((bits .and .u64 (shrI .u64 a0 1) 6148914691236517205) + (bits .and .u64 a0 6148914691236517205))) 3689348814741910323))))) 1085102592571150095) 8))) 16))) + (shrI .u64 (IntKind.wrap .u64 ((IntKind.wrap .u64 ((bits .and .u64 (IntKind.wrap .u64 ((shrI .u64 (IntKind.wrap .u64 ((bits .and .u64 (shrI .u64 (IntKind.wrap .u64 ((bits .and .u64 (shrI .u64 a0 1) 6148914691236517205) + (bits .and .u64 a0 6148914691236517205))) 2) 3689348814741910323) + (bits .and .u64 (IntKind.wrap .u64 ((bits .and .u64 (shrI .u64 a0 1) 6148914691236517205) + (bits .and .u64 a0 6148914691236517205))) 3689348814741910323))) 4) + (IntKind.wrap .u64 ((bits .and .u64 (shrI .u64 (IntKind.wrap .u64 ((bits .and .u64 (shrI .u64 a0 1) 6148914691236517205) + (bits .and .u64 a0 6148914691236517205))) 2) 3689348814741910323) + (bits .and .u64 (IntKind.wrap .u64 ((bits .and .u64 (shrI .u64 a0 1) 6148914691236517205) + (bits .and .u64 a0 6148914691236517205))) 3689348814741910323))))) 1085102592571150095) + (shrI .u64 (bits .and .u64 (IntKind.wrap .u64 ((shrI .u64 (IntKind.wrap .u64 ((bits .and .u64 (shrI .u64 (IntKind.wrap .u64 ((bits .and .u64 (shrI .u64 a0 1) 6148914691236517205) + (bits .and .u64 a0 6148914691236517205))) 2) 3689348814741910323) + (bits .and .u64 (IntKind.wrap .u64 ((bits .and .u64 (shrI .u64 a0 1) 6148914691236517205) + (bits .and .u64 a0 6148914691236517205))) 3689348814741910323))) 4) + (IntKind.wrap .u64 ((bits .and .u64 (shrI .u64 (IntKind.wrap .u64 ((bits .and .u64 (shrI .u64 a0 1) 6148914691236517205) + (bits .and .u64 a0 6148914691236517205))) 2) 3689348814741910323) + (bits .and .u64 (IntKind.wrap .u64 ((bits .and .u64 (shrI .u64 a0 1) 6148914691236517205) + (bits .and .u64 a0 6148914691236517205))) 3689348814741910323))))) 1085102592571150095) 8))) + (shrI .u64 (IntKind.wrap .u64 ((bits .and .u64 (IntKind.wrap .u64 ((shrI .u64 (IntKind.wrap .u64 ((bits .and .u64 (shrI .u64 (IntKind.wrap .u64 ((bits .and .u64 (shrI .u64 a0 1) 6148914691236517205) + (bits .and .u64 a0 6148914691236517205))) 2) 3689348814741910323) + (bits .and .u64 (IntKind.wrap .u64 ((bits .and .u64 (shrI .u64 a0 1) 6148914691236517205) + (bits .and .u64 a0 6148914691236517205))) 3689348814741910323))) 4) + (IntKind.wrap .u64 ((bits .and .u64 (shrI .u64 (IntKind.wrap .u64 ((bits .and .u64 (shrI .u64 a0 1) 6148914691236517205) + (bits .and .u64 a0 6148914691236517205))) 2) 3689348814741910323) + (bits .and .u64 (IntKind.wrap .u64 ((bits .and .u64 (shrI .u64 a0 1) 6148914691236517205) + (bits .and .u64 a0 6148914691236517205))) 3689348814741910323))))) 1085102592571150095) + (shrI .u64 (bits .and .u64 (IntKind.wrap .u64 ((shrI .u64 (IntKind.wrap .u64 ((bits .and .u64 (shrI .u64 (IntKind.wrap .u64 ((bits .and .u64 (shrI .u64 a0 1) 6148914691236517205) + (bits .and .u64 a0 6148914691236517205))) 2) 3689348814741910323) + (bits .and .u64 (IntKind.wrap .u64 ((bits .and .u64 (shrI .u64 a0 1) 6148914691236517205) + (bits .and .u64 a0 6148914691236517205))) 3689348814741910323))) 4) + (IntKind.wrap .u64 ((bits .and .u64 (shrI .u64 (IntKind.wrap .u64 ((bits .and .u64 (shrI .u64 a0 1) 6148914691236517205) + (bits .and .u64 a0 6148914691236517205))) 2) 3689348814741910323) + (bits .and .u64 (IntKind.wrap .u64 ((bits .and .u64 (shrI .u64 a0 1) 6148914691236517205) + (bits .and .u64 a0 6148914691236517205))) 3689348814741910323))))) 1085102592571150095) 8))) 16))) 32)))) 127)) w) :
C_math_bits_OnesCount64 #[.int .u64 a0] w Q := C_fold K_math_bits_OnesCount64 (by kernel_rfl) h
/-! ### ledger/tlog.place -/
noncomputable def B_tlog_place : Code := match Try.f71.body with | some c => c | _ => .skip
noncomputable def X_tlog_place : Cx := { P := PP, fn := 71, N := 13, tab := tab, results := [.tmp 4], iter := fun _ => (.none, .none), dyn := fun _ => false, live := fun _ => none }
theorem K_tlog_place : OkF X_tlog_place B_tlog_place Try.f71 := ⟨⟨tab_ok, mix_ok⟩, Try.func71, by kernel_rfl, by kernel_rfl, by kernel_rfl, by kernel_rfl⟩
theorem C_tlog_place_eq (Q : Value → World → Prop) (a0 : Int) (a1 : Int) (w : World) (h :
  nn a0 (
  C_tlog_count #[.int .i64 (IntKind.wrap .i64 ((shlI .i64 (IntKind.wrap .i64 (a1 + 1)) a0) - 1))] w fun v1 w2 =>
  opnI .i64 (some v1) fun x3 =>
  Q (.int .i64 (IntKind.wrap .i64 (x3 + a0))) w2)) :
C_tlog_place #[.int .i64 a0, .int .i64 a1] w Q := C_fold K_tlog_place (by kernel_rfl) h
/-! ### ledger/tlog.Index -/
noncomputable def B_tlog_Index : Code := match Try.f72.body with | some c => c | _ => .skip
noncomputable def X_tlog_Index : Cx := { P := PP, fn := 72, N := 25, tab := tab, results := [.tmp 4, .tmp 5], iter := fun _ => (.none, .none), dyn := fun _ => false, live := fun r => cond (Nat.beq r 2) (some []) (none) }
theorem K_tlog_Index : OkF X_tlog_Index B_tlog_Index Try.f72 := ⟨⟨tab_ok, mix_ok⟩, Try.func72, by kernel_rfl, by kernel_rfl, by kernel_rfl, by kernel_rfl⟩
noncomputable def N_tlog_Index.j2 (Q : Value → World → Prop) (w : World) : Prop := Nd X_tlog_Index Q [] [.code (B_tlog_Index.r.l.r.l.l), .code (B_tlog_Index.r.l.r.l.r), .code (B_tlog_Index.r.r)] w
theorem N_tlog_Index.j2_eq (Q : Value → World → Prop) (w : World) (h :
  Q (.tuple #[.int .i64 0, .int .i64 1]) w) :
N_tlog_Index.j2 Q w := Nd_fold K_tlog_Index (by kernel_rfl) h
theorem C_tlog_Index_eq (Q : Value → World → Prop) (a0 : Int) (a1 : Int) (w : World) (h :
  cond (decide (a0 < 0))
  (N_tlog_Index.j2 Q w)
  (cond (decide (a0 > 48))
  (N_tlog_Index.j2 Q w)
  (cond (decide (a1 < 0))
  (N_tlog_Index.j2 Q w)
  (nn a0 (
  cond (decide (a1 ≥ (shrI .i64 281474976710656 a0)))
  (N_tlog_Index.j2 Q w)
  (C_tlog_place #[.int .i64 a0, .int .i64 a1] w fun v1 w2 =>
  opnI .i64 (some v1) fun x3 =>
  Q (.tuple #[.int .i64 x3, .int .i64 0]) w2)))))) :
C_tlog_Index #[.int .i64 a0, .int .i64 a1] w Q := C_fold K_tlog_Index (by kernel_rfl) h
/-! ### slices.insertionSortCmpFunc[ledger/tile.Tile] -/
noncomputable def B_slices_insertionSortCmpFunc_tile_Tile : Code := match Try.f73.body with | some c => c | _ => .skip
noncomputable def X_slices_insertionSortCmpFunc_tile_Tile : Cx := { P := PP, fn := 73, N := 53, tab := tab, results := [], iter := fun _ => (.none, .none), dyn := fun r => cond (Nat.beq r 22) true (false), live := fun r => cond (Nat.beq r 1) (some [0, 1, 2, 3, 8]) (cond (Nat.beq r 2) (some [0, 1, 2, 3, 8]) (cond (Nat.beq r 4) (some [0, 1, 2, 3, 8, 9]) (none))) }
theorem K_slices_insertionSortCmpFunc_tile_Tile : OkF X_slices_insertionSortCmpFunc_tile_Tile B_slices_insertionSortCmpFunc_tile_Tile Try.f73 := ⟨⟨tab_ok, mix_ok⟩, Try.func73, by kernel_rfl, by kernel_rfl, by kernel_rfl, by kernel_rfl⟩
noncomputable def N_slices_insertionSortCmpFunc_tile_Tile.j1 (Q : Value → World → Prop) (s0 : Option Addr) (s0n : Nat) (s0c : Nat) (s1 : Int) (s2 : Int) (s3 : Value) (s8 : Int) (w : World) : Prop := Nd X_slices_insertionSortCmpFunc_tile_Tile Q [(0, 0, .slice s0 s0n s0c), (1, 1, .int .i64 s1), (2, 2, .int .i64 s2), (3, 3, s3), (8, 8, .int .i64 s8)] [.code (B_slices_insertionSortCmpFunc_tile_Tile.r.l.l.l.l), .code (B_slices_insertionSortCmpFunc_tile_Tile.r.l.l.l.r), .code (B_slices_insertionSortCmpFunc_tile_Tile.r.l.l.r), .inLoop (B_slices_insertionSortCmpFunc_tile_Tile.r.l.l), .inBlock 0] w
noncomputable def N_slices_insertionSortCmpFunc_tile_Tile.j2 (Q : Value → World → Prop) (s0 : Option Addr) (s0n : Nat) (s0c : Nat) (s1 : Int) (s2 : Int) (s3 : Value) (s8 : Int) (w : World) : Prop := Nd X_slices_insertionSortCmpFunc_tile_Tile Q [(0, 0, .slice s0 s0n s0c), (1, 1, .int .i64 s1), (2, 2, .int .i64 s2), (3, 3, s3), (8, 8, .int .i64 s8)] [.code (B_slices_insertionSortCmpFunc_tile_Tile.r.l.l.r.r), .inLoop (B_slices_insertionSortCmpFunc_tile_Tile.r.l.l), .inBlock 0] w
noncomputable def N_slices_insertionSortCmpFunc_tile_Tile.j4 (Q : Value → World → Prop) (s0 : Option Addr) (s0n : Nat) (s0c : Nat) (s1 : Int) (s2 : Int) (s3 : Value) (s8 : Int) (s9 : Int) (w : World) : Prop := Nd X_slices_insertionSortCmpFunc_tile_Tile Q [(0, 0, .slice s0 s0n s0c), (1, 1, .int .i64 s1), (2, 2, .int .i64 s2), (3, 3, s3), (8, 8, .int .i64 s8), (9, 9, .int .i64 s9)] [.code (B_slices_insertionSortCmpFunc_tile_Tile.r.l.l.r.l.l.r.l.l.l.l), .code (B_slices_insertionSortCmpFunc_tile_Tile.r.l.l.r.l.l.r.l.l.l.r), .code (B_slices_insertionSortCmpFunc_tile_Tile.r.l.l.r.l.l.r.l.l.r), .inLoop (B_slices_insertionSortCmpFunc_tile_Tile.r.l.l.r.l.l.r.l.l), .inBlock 2, .inBlock 1, .code (B_slices_insertionSortCmpFunc_tile_Tile.r.l.l.r.r), .inLoop (B_slices_insertionSortCmpFunc_tile_Tile.r.l.l), .inBlock 0] w
theorem N_slices_insertionSortCmpFunc_tile_Tile.j1_eq (Q : Value → World → Prop) (s0 : Option Addr) (s0n : Nat) (s0c : Nat) (s1 : Int) (s2 : Int) (s3 : Value) (s8 : Int) (w : World) (h :
  cond (decide (s8 < s2))
  (N_slices_insertionSortCmpFunc_tile_Tile.j4 Q s0 s0n s0c s1 s2 s3 s8 s8 w)
  (Q (.tuple #[]) w)) :
N_slices_insertionSortCmpFunc_tile_Tile.j1 Q s0 s0n s0c s1 s2 s3 s8 w := Nd_fold K_slices_insertionSortCmpFunc_tile_Tile (by kernel_rfl) h
theorem N_slices_insertionSortCmpFunc_tile_Tile.j2_eq (Q : Value → World → Prop) (s0 : Option Addr) (s0n : Nat) (s0c : Nat) (s1 : Int) (s2 : Int) (s3 : Value) (s8 : Int) (w : World) (h :
  N_slices_insertionSortCmpFunc_tile_Tile.j1 Q s0 s0n s0c s1 s2 s3 (IntKind.wrap .i64 (s8 + 1)) w) :
N_slices_insertionSortCmpFunc_tile_Tile.j2 Q s0 s0n s0c s1 s2 s3 s8 w := Nd_fold K_slices_insertionSortCmpFunc_tile_Tile (by kernel_rfl) h
theorem N_slices_insertionSortCmpFunc_tile_Tile.j4_eq (Q : Value → World → Prop) (s0 : Option Addr) (s0n : Nat) (s0c : Nat) (s1 : Int) (s2 : Int) (s3 : Value) (s8 : Int) (s9 : Int) (w : World) (h :
  drw w fun w1 =>
  cond (decide (s9 > s1))
  ((0 : Int) ≤ s9 ∧
  s9 < ((s0n : Nat) : Int) ∧
  opnA s0 fun ad2 =>
  (0 : Int) ≤ IntKind.wrap .i64 (s9 - 1) ∧
  (IntKind.wrap .i64 (s9 - 1)) < ((s0n : Nat) : Int) ∧
  opnA s0 fun ad3 =>
  opnI .i64 (w1.cell? ((ad2.add (Int.toNat s9 * 5)).add 0)) fun x4 =>
  opnI .i64 (w1.cell? ((ad2.add (Int.toNat s9 * 5)).add 1)) fun x5 =>
  opnI .i64 (w1.cell? ((ad2.add (Int.toNat s9 * 5)).add 2)) fun x6 =>
  opnI .i64 (w1.cell? ((ad2.add (Int.toNat s9 * 5)).add 3)) fun x7 =>
  opnB (w1.cell? ((ad2.add (Int.toNat s9 * 5)).add 4)) fun x8 =>
  opnI .i64 (w1.cell? ((ad3.add (Int.toNat (IntKind.wrap .i64 (s9 - 1)) * 5)).add 0)) fun x9 =>
  opnI .i64 (w1.cell? ((ad3.add (Int.toNat (IntKind.wrap .i64 (s9 - 1)) * 5)).add 1)) fun x10 =>
  opnI .i64 (w1.cell? ((ad3.add (Int.toNat (IntKind.wrap .i64 (s9 - 1)) * 5)).add 2)) fun x11 =>
  opnI .i64 (w1.cell? ((ad3.add (Int.toNat (IntKind.wrap .i64 (s9 - 1)) * 5)).add 3)) fun x12 =>
  opnB (w1.cell? ((ad3.add (Int.toNat (IntKind.wrap .i64 (s9 - 1)) * 5)).add 4)) fun x13 =>
  invk PP s3 #[.agg #[.int .i64 x4, .int .i64 x5, .int .i64 x6, .int .i64 x7, .bool x8], .agg #[.int .i64 x9, .int .i64 x10, .int .i64 x11, .int .i64 x12, .bool x13]] w1 fun v14 w15 =>
  opnI .i64 (some v14) fun x16 =>
  cond (decide (x16 < 0))
  (drw w15 fun w17 =>
  (0 : Int) ≤ IntKind.wrap .i64 (s9 - 1) ∧
  (IntKind.wrap .i64 (s9 - 1)) < ((s0n : Nat) : Int) ∧
  opnA s0 fun ad18 =>
  (0 : Int) ≤ s9 ∧
  s9 < ((s0n : Nat) : Int) ∧
  opnA s0 fun ad19 =>
  opnI .i64 (w17.cell? ((ad18.add (Int.toNat (IntKind.wrap .i64 (s9 - 1)) * 5)).add 0)) fun x20 =>
  opnI .i64 (w17.cell? ((ad18.add (Int.toNat (IntKind.wrap .i64 (s9 - 1)) * 5)).add 1)) fun x21 =>
  opnI .i64 (w17.cell? ((ad18.add (Int.toNat (IntKind.wrap .i64 (s9 - 1)) * 5)).add 2)) fun x22 =>
  opnI .i64 (w17.cell? ((ad18.add (Int.toNat (IntKind.wrap .i64 (s9 - 1)) * 5)).add 3)) fun x23 =>
  opnB (w17.cell? ((ad18.add (Int.toNat (IntKind.wrap .i64 (s9 - 1)) * 5)).add 4)) fun x24 =>
  opnI .i64 (w17.cell? ((ad19.add (Int.toNat s9 * 5)).add 0)) fun x25 =>
  opnI .i64 (w17.cell? ((ad19.add (Int.toNat s9 * 5)).add 1)) fun x26 =>
  opnI .i64 (w17.cell? ((ad19.add (Int.toNat s9 * 5)).add 2)) fun x27 =>
  opnI .i64 (w17.cell? ((ad19.add (Int.toNat s9 * 5)).add 3)) fun x28 =>
  opnB (w17.cell? ((ad19.add (Int.toNat s9 * 5)).add 4)) fun x29 =>
  (0 : Int) ≤ s9 ∧
  s9 < ((s0n : Nat) : Int) ∧
  opnA s0 fun ad30 =>
  Array.size (#[.int .i64 x20, .int .i64 x21, .int .i64 x22, .int .i64 x23, .bool x24] : Array Value) = 5 ∧
  stC ((ad30.add (Int.toNat s9 * 5)).add 0) (.int .i64 x20) w17 fun w31 =>
  stC ((ad30.add (Int.toNat s9 * 5)).add 1) (.int .i64 x21) w31 fun w32 =>
  stC ((ad30.add (Int.toNat s9 * 5)).add 2) (.int .i64 x22) w32 fun w33 =>
  stC ((ad30.add (Int.toNat s9 * 5)).add 3) (.int .i64 x23) w33 fun w34 =>
  stC ((ad30.add (Int.toNat s9 * 5)).add 4) (.bool x24) w34 fun w35 =>
  (0 : Int) ≤ IntKind.wrap .i64 (s9 - 1) ∧
  (IntKind.wrap .i64 (s9 - 1)) < ((s0n : Nat) : Int) ∧
  opnA s0 fun ad36 =>
  Array.size (#[.int .i64 x25, .int .i64 x26, .int .i64 x27, .int .i64 x28, .bool x29] : Array Value) = 5 ∧
  stC ((ad36.add (Int.toNat (IntKind.wrap .i64 (s9 - 1)) * 5)).add 0) (.int .i64 x25) w35 fun w37 =>
  stC ((ad36.add (Int.toNat (IntKind.wrap .i64 (s9 - 1)) * 5)).add 1) (.int .i64 x26) w37 fun w38 =>
  stC ((ad36.add (Int.toNat (IntKind.wrap .i64 (s9 - 1)) * 5)).add 2) (.int .i64 x27) w38 fun w39 =>
  stC ((ad36.add (Int.toNat (IntKind.wrap .i64 (s9 - 1)) * 5)).add 3) (.int .i64 x28) w39 fun w40 =>
  stC ((ad36.add (Int.toNat (IntKind.wrap .i64 (s9 - 1)) * 5)).add 4) (.bool x29) w40 fun w41 =>
  N_slices_insertionSortCmpFunc_tile_Tile.j4 Q s0 s0n s0c s1 s2 s3 s8 (IntKind.wrap .i64 (s9 - 1)) w41)
  (N_slices_insertionSortCmpFunc_tile_Tile.j2 Q s0 s0n s0c s1 s2 s3 s8 w15))
  (N_slices_insertionSortCmpFunc_tile_Tile.j2 Q s0 s0n s0c s1 s2 s3 s8 w1)) :
N_slices_insertionSortCmpFunc_tile_Tile.j4 Q s0 s0n s0c s1 s2 s3 s8 s9 w := Nd_fold K_slices_insertionSortCmpFunc_tile_Tile (by kernel_rfl) h
theorem C_slices_insertionSortCmpFunc_tile_Tile_eq (Q : Value → World → Prop) (a0 : Option Addr) (a0n : Nat) (a0c : Nat) (a1 : Int) (a2 : Int) (a3 : Value) (w : World) (h :
  N_slices_insertionSortCmpFunc_tile_Tile.j1 Q a0 a0n a0c a1 a2 a3 (IntKind.wrap .i64 (a1 + 1)) w) :
C_slices_insertionSortCmpFunc_tile_Tile #[.slice a0 a0n a0c, .int .i64 a1, .int .i64 a2, a3] w Q := C_fold K_slices_insertionSortCmpFunc_tile_Tile (by kernel_rfl) h
/-! ### slices.heapSortCmpFunc[ledger/tile.Tile] -/
noncomputable def B_slices_heapSortCmpFunc_tile_Tile : Code := match Try.f74.body with | some c => c | _ => .skip
noncomputable def X_slices_heapSortCmpFunc_tile_Tile : Cx := { P := PP, fn := 74, N := 60, tab := tab, results := [], iter := fun _ => (.none, .none), dyn := fun _ => false, live := fun r => cond (Nat.beq r 4) (some [0, 3, 8, 9, 10, 11]) (cond (Nat.beq r 8) (some [0, 3, 8, 9, 12]) (none)) }
theorem K_slices_heapSortCmpFunc_tile_Tile : OkF X_slices_heapSortCmpFunc_tile_Tile B_slices_heapSortCmpFunc_tile_Tile Try.f74 := ⟨⟨tab_ok, mix_ok⟩, Try.func74, by kernel_rfl, by kernel_rfl, by kernel_rfl, by kernel_rfl⟩
noncomputable def N_slices_heapSortCmpFunc_tile_Tile.j4 (Q : Value → World → Prop) (s0 : Option Addr) (s0n : Nat) (s0c : Nat) (s3 : Value) (s8 : Int) (s9 : Int) (s10 : Int) (s11 : Int) (w : World) : Prop := Nd X_slices_heapSortCmpFunc_tile_Tile Q [(0, 0, .slice s0 s0n s0c), (3, 3, s3), (8, 8, .int .i64 s8), (9, 9, .int .i64 s9), (10, 10, .int .i64 s10), (11, 11, .int .i64 s11)] [.code (B_slices_heapSortCmpFunc_tile_Tile.r.r.r.l.r.l.l.l.l), .code (B_slices_heapSortCmpFunc_tile_Tile.r.r.r.l.r.l.l.l.r), .code (B_slices_heapSortCmpFunc_tile_Tile.r.r.r.l.r.l.l.r), .inLoop (B_slices_heapSortCmpFunc_tile_Tile.r.r.r.l.r.l.l), .inBlock 0, .code (B_slices_heapSortCmpFunc_tile_Tile.r.r.r.r)] w
noncomputable def N_slices_heapSortCmpFunc_tile_Tile.j8 (Q : Value → World → Prop) (s0 : Option Addr) (s0n : Nat) (s0c : Nat) (s3 : Value) (s8 : Int) (s9 : Int) (s12 : Int) (w : World) : Prop := Nd X_slices_heapSortCmpFunc_tile_Tile Q [(0, 0, .slice s0 s0n s0c), (3, 3, s3), (8, 8, .int .i64 s8), (9, 9, .int .i64 s9), (12, 12, .int .i64 s12)] [.code (B_slices_heapSortCmpFunc_tile_Tile.r.r.r.r.r.l.l.l.l), .code (B_slices_heapSortCmpFunc_tile_Tile.r.r.r.r.r.l.l.l.r), .code (B_slices_heapSortCmpFunc_tile_Tile.r.r.r.r.r.l.l.r), .inLoop (B_slices_heapSortCmpFunc_tile_Tile.r.r.r.r.r.l.l), .inBlock 2] w
theorem N_slices_heapSortCmpFunc_tile_Tile.j4_eq (Q : Value → World → Prop) (s0 : Option Addr) (s0n : Nat) (s0c : Nat) (s3 : Value) (s8 : Int) (s9 : Int) (s10 : Int) (s11 : Int) (w : World) (h :
  cond (decide (s11 ≥ 0))
  (C_slices_siftDownCmpFunc_tile_Tile #[.slice s0 s0n s0c, .int .i64 s11, .int .i64 s10, .int .i64 s8, s3] w fun v1 w2 =>
  opnT (some v1) fun x3 =>
  x3.size = 0 ∧
  N_slices_heapSortCmpFunc_tile_Tile.j4 Q s0 s0n s0c s3 s8 s9 s10 (IntKind.wrap .i64 (s11 - 1)) w2)
  (N_slices_heapSortCmpFunc_tile_Tile.j8 Q s0 s0n s0c s3 s8 s9 (IntKind.wrap .i64 (s10 - 1)) w)) :
N_slices_heapSortCmpFunc_tile_Tile.j4 Q s0 s0n s0c s3 s8 s9 s10 s11 w := Nd_fold K_slices_heapSortCmpFunc_tile_Tile (by kernel_rfl) h
theorem N_slices_heapSortCmpFunc_tile_Tile.j8_eq (Q : Value → World → Prop) (s0 : Option Addr) (s0n : Nat) (s0c : Nat) (s3 : Value) (s8 : Int) (s9 : Int) (s12 : Int) (w : World) (h :
  cond (decide (s12 ≥ 0))
  (drw w fun w1 =>
  (0 : Int) ≤ IntKind.wrap .i64 (s8 + s12) ∧
  (IntKind.wrap .i64 (s8 + s12)) < ((s0n : Nat) : Int) ∧
  opnA s0 fun ad2 =>
  (0 : Int) ≤ s8 ∧
  s8 < ((s0n : Nat) : Int) ∧
  opnA s0 fun ad3 =>
  opnI .i64 (w1.cell? ((ad2.add (Int.toNat (IntKind.wrap .i64 (s8 + s12)) * 5)).add 0)) fun x4 =>
  opnI .i64 (w1.cell? ((ad2.add (Int.toNat (IntKind.wrap .i64 (s8 + s12)) * 5)).add 1)) fun x5 =>
  opnI .i64 (w1.cell? ((ad2.add (Int.toNat (IntKind.wrap .i64 (s8 + s12)) * 5)).add 2)) fun x6 =>
  opnI .i64 (w1.cell? ((ad2.add (Int.toNat (IntKind.wrap .i64 (s8 + s12)) * 5)).add 3)) fun x7 =>
  opnB (w1.cell? ((ad2.add (Int.toNat (IntKind.wrap .i64 (s8 + s12)) * 5)).add 4)) fun x8 =>
  opnI .i64 (w1.cell? ((ad3.add (Int.toNat s8 * 5)).add 0)) fun x9 =>
  opnI .i64 (w1.cell? ((ad3.add (Int.toNat s8 * 5)).add 1)) fun x10 =>
  opnI .i64 (w1.cell? ((ad3.add (Int.toNat s8 * 5)).add 2)) fun x11 =>
  opnI .i64 (w1.cell? ((ad3.add (Int.toNat s8 * 5)).add 3)) fun x12 =>
  opnB (w1.cell? ((ad3.add (Int.toNat s8 * 5)).add 4)) fun x13 =>
  (0 : Int) ≤ s8 ∧
  s8 < ((s0n : Nat) : Int) ∧
  opnA s0 fun ad14 =>
  Array.size (#[.int .i64 x4, .int .i64 x5, .int .i64 x6, .int .i64 x7, .bool x8] : Array Value) = 5 ∧
  stC ((ad14.add (Int.toNat s8 * 5)).add 0) (.int .i64 x4) w1 fun w15 =>
  stC ((ad14.add (Int.toNat s8 * 5)).add 1) (.int .i64 x5) w15 fun w16 =>
  stC ((ad14.add (Int.toNat s8 * 5)).add 2) (.int .i64 x6) w16 fun w17 =>
  stC ((ad14.add (Int.toNat s8 * 5)).add 3) (.int .i64 x7) w17 fun w18 =>
  stC ((ad14.add (Int.toNat s8 * 5)).add 4) (.bool x8) w18 fun w19 =>
  (0 : Int) ≤ IntKind.wrap .i64 (s8 + s12) ∧
  (IntKind.wrap .i64 (s8 + s12)) < ((s0n : Nat) : Int) ∧
  opnA s0 fun ad20 =>
  Array.size (#[.int .i64 x9, .int .i64 x10, .int .i64 x11, .int .i64 x12, .bool x13] : Array Value) = 5 ∧
  stC ((ad20.add (Int.toNat (IntKind.wrap .i64 (s8 + s12)) * 5)).add 0) (.int .i64 x9) w19 fun w21 =>
  stC ((ad20.add (Int.toNat (IntKind.wrap .i64 (s8 + s12)) * 5)).add 1) (.int .i64 x10) w21 fun w22 =>
  stC ((ad20.add (Int.toNat (IntKind.wrap .i64 (s8 + s12)) * 5)).add 2) (.int .i64 x11) w22 fun w23 =>
  stC ((ad20.add (Int.toNat (IntKind.wrap .i64 (s8 + s12)) * 5)).add 3) (.int .i64 x12) w23 fun w24 =>
  stC ((ad20.add (Int.toNat (IntKind.wrap .i64 (s8 + s12)) * 5)).add 4) (.bool x13) w24 fun w25 =>
  C_slices_siftDownCmpFunc_tile_Tile #[.slice s0 s0n s0c, .int .i64 s9, .int .i64 s12, .int .i64 s8, s3] w25 fun v26 w27 =>
  opnT (some v26) fun x28 =>
  x28.size = 0 ∧
  N_slices_heapSortCmpFunc_tile_Tile.j8 Q s0 s0n s0c s3 s8 s9 (IntKind.wrap .i64 (s12 - 1)) w27)
  (Q (.tuple #[]) w)) :
N_slices_heapSortCmpFunc_tile_Tile.j8 Q s0 s0n s0c s3 s8 s9 s12 w := Nd_fold K_slices_heapSortCmpFunc_tile_Tile (by kernel_rfl) h
theorem C_slices_heapSortCmpFunc_tile_Tile_eq (Q : Value → World → Prop) (a0 : Option Addr) (a0n : Nat) (a0c : Nat) (a1 : Int) (a2 : Int) (a3 : Value) (w : World) (h :
  2 ≠ (0 : Int) ∧
  N_slices_heapSortCmpFunc_tile_Tile.j4 Q a0 a0n a0c a3 a1 0 (IntKind.wrap .i64 (a2 - a1)) (IntKind.wrap .i64 (Int.tdiv (IntKind.wrap .i64 ((IntKind.wrap .i64 (a2 - a1)) - 1)) 2)) w) :
C_slices_heapSortCmpFunc_tile_Tile #[.slice a0 a0n a0c, .int .i64 a1, .int .i64 a2, a3] w Q := C_fold K_slices_heapSortCmpFunc_tile_Tile (by kernel_rfl) h
/-! ### slices.breakPatternsCmpFunc[ledger/tile.Tile] -/
noncomputable def B_slices_breakPatternsCmpFunc_tile_Tile : Code := match Try.f75.body with | some c => c | _ => .skip
noncomputable def X_slices_breakPatternsCmpFunc_tile_Tile : Cx := { P := PP, fn := 75, N := 67, tab := tab, results := [], iter := fun _ => (.none, .none), dyn := fun _ => false, live := fun r => cond (Nat.beq r 5) (some [0, 1, 8, 9, 10, 11]) (cond (Nat.beq r 6) (some [0, 1, 8, 9, 10, 11]) (cond (Nat.beq r 10) (some [0, 1, 8, 9, 10, 11, 12]) (none))) }
theorem K_slices_breakPatternsCmpFunc_tile_Tile : OkF X_slices_breakPatternsCmpFunc_tile_Tile B_slices_breakPatternsCmpFunc_tile_Tile Try.f75 := ⟨⟨tab_ok, mix_ok⟩, Try.func75, by kernel_rfl, by kernel_rfl, by kernel_rfl, by kernel_rfl⟩
noncomputable def N_slices_breakPatternsCmpFunc_tile_Tile.j5 (Q : Value → World → Prop) (s0 : Option Addr) (s0n : Nat) (s0c : Nat) (s1 : Int) (s8 : Int) (s9 : Addr) (s10 : Int) (s11 : Int) (w : World) : Prop := Nd X_slices_breakPatternsCmpFunc_tile_Tile Q [(0, 0, .slice s0 s0n s0c), (1, 1, .int .i64 s1), (8, 8, .int .i64 s8), (9, 9, .pointer (some s9)), (10, 10, .int .u64 s10), (11, 11, .int .i64 s11)] [.code (B_slices_breakPatternsCmpFunc_tile_Tile.r.r.l.r.r.r.l.l.l.l), .code (B_slices_breakPatternsCmpFunc_tile_Tile.r.r.l.r.r.r.l.l.l.r), .code (B_slices_breakPatternsCmpFunc_tile_Tile.r.r.l.r.r.r.l.l.r), .inLoop (B_slices_breakPatternsCmpFunc_tile_Tile.r.r.l.r.r.r.l.l), .inBlock 0] w
noncomputable def N_slices_breakPatternsCmpFunc_tile_Tile.j6 (Q : Value → World → Prop) (s0 : Option Addr) (s0n : Nat) (s0c : Nat) (s1 : Int) (s8 : Int) (s9 : Addr) (s10 : Int) (s11 : Int) (w : World) : Prop := Nd X_slices_breakPatternsCmpFunc_tile_Tile Q [(0, 0, .slice s0 s0n s0c), (1, 1, .int .i64 s1), (8, 8, .int .i64 s8), (9, 9, .pointer (some s9)), (10, 10, .int .u64 s10), (11, 11, .int .i64 s11)] [.code (B_slices_breakPatternsCmpFunc_tile_Tile.r.r.l.r.r.r.l.l.r.r), .inLoop (B_slices_breakPatternsCmpFunc_tile_Tile.r.r.l.r.r.r.l.l), .inBlock 0] w
noncomputable def N_slices_breakPatternsCmpFunc_tile_Tile.j10 (Q : Value → World → Prop) (s0 : Option Addr) (s0n : Nat) (s0c : Nat) (s1 : Int) (s8 : Int) (s9 : Addr) (s10 : Int) (s11 : Int) (s12 : Int) (w : World) : Prop := Nd X_slices_breakPatternsCmpFunc_tile_Tile Q [(0, 0, .slice s0 s0n s0c), (1, 1, .int .i64 s1), (8, 8, .int .i64 s8), (9, 9, .pointer (some s9)), (10, 10, .int .u64 s10), (11, 11, .int .i64 s11), (12, 12, .int .i64 s12)] [.code (B_slices_breakPatternsCmpFunc_tile_Tile.r.r.l.r.r.r.l.l.r.l.l.r.r), .inBlock 1, .code (B_slices_breakPatternsCmpFunc_tile_Tile.r.r.l.r.r.r.l.l.r.r), .inLoop (B_slices_breakPatternsCmpFunc_tile_Tile.r.r.l.r.r.r.l.l), .inBlock 0] w
theorem N_slices_breakPatternsCmpFunc_tile_Tile.j5_eq (Q : Value → World → Prop) (s0 : Option Addr) (s0n : Nat) (s0c : Nat) (s1 : Int) (s8 : Int) (s9 : Addr) (s10 : Int) (s11 : Int) (w : World) (h :
  4 ≠ (0 : Int) ∧
  cond (decide (s11 ≤ (IntKind.wrap .i64 ((IntKind.wrap .i64 (s1 + (IntKind.wrap .i64 ((IntKind.wrap .i64 (Int.tdiv s8 4)) * 2)))) + 1))))
  (C_p_slices_xorshift_Next #[.pointer (some s9)] w fun v1 w2 =>
  opnI .u64 (some v1) fun x3 =>
  cond (decide ((IntKind.wrap .i64 (bits .and .u64 x3 (IntKind.wrap .u64 (s10 - 1)))) ≥ s8))
  (N_slices_breakPatternsCmpFunc_tile_Tile.j10 Q s0 s0n s0c s1 s8 s9 s10 s11 (IntKind.wrap .i64 ((IntKind.wrap .i64 (bits .and .u64 x3 (IntKind.wrap .u64 (s10 - 1)))) - s8)) w2)
  (N_slices_breakPatternsCmpFunc_tile_Tile.j10 Q s0 s0n s0c s1 s8 s9 s10 s11 (IntKind.wrap .i64 (bits .and .u64 x3 (IntKind.wrap .u64 (s10 - 1)))) w2))
  (Q (.tuple #[]) w)) :
N_slices_breakPatternsCmpFunc_tile_Tile.j5 Q s0 s0n s0c s1 s8 s9 s10 s11 w := Nd_fold K_slices_breakPatternsCmpFunc_tile_Tile (by kernel_rfl) h
theorem N_slices_breakPatternsCmpFunc_tile_Tile.j6_eq (Q : Value → World → Prop) (s0 : Option Addr) (s0n : Nat) (s0c : Nat) (s1 : Int) (s8 : Int) (s9 : Addr) (s10 : Int) (s11 : Int) (w : World) (h :
  N_slices_breakPatternsCmpFunc_tile_Tile.j5 Q s0 s0n s0c s1 s8 s9 s10 (IntKind.wrap .i64 (s11 + 1)) w) :
N_slices_breakPatternsCmpFunc_tile_Tile.j6 Q s0 s0n s0c s1 s8 s9 s10 s11 w := Nd_fold K_slices_breakPatternsCmpFunc_tile_Tile (by kernel_rfl) h
theorem N_slices_breakPatternsCmpFunc_tile_Tile.j10_eq (Q : Value → World → Prop) (s0 : Option Addr) (s0n : Nat) (s0c : Nat) (s1 : Int) (s8 : Int) (s9 : Addr) (s10 : Int) (s11 : Int) (s12 : Int) (w : World) (h :
  drw w fun w1 =>
  (0 : Int) ≤ IntKind.wrap .i64 (s1 + s12) ∧
  (IntKind.wrap .i64 (s1 + s12)) < ((s0n : Nat) : Int) ∧
  opnA s0 fun ad2 =>
  (0 : Int) ≤ s11 ∧
  s11 < ((s0n : Nat) : Int) ∧
  opnA s0 fun ad3 =>
  opnI .i64 (w1.cell? ((ad2.add (Int.toNat (IntKind.wrap .i64 (s1 + s12)) * 5)).add 0)) fun x4 =>
  opnI .i64 (w1.cell? ((ad2.add (Int.toNat (IntKind.wrap .i64 (s1 + s12)) * 5)).add 1)) fun x5 =>
  opnI .i64 (w1.cell? ((ad2.add (Int.toNat (IntKind.wrap .i64 (s1 + s12)) * 5)).add 2)) fun x6 =>
  opnI .i64 (w1.cell? ((ad2.add (Int.toNat (IntKind.wrap .i64 (s1 + s12)) * 5)).add 3)) fun x7 =>
  opnB (w1.cell? ((ad2.add (Int.toNat (IntKind.wrap .i64 (s1 + s12)) * 5)).add 4)) fun x8 =>
  opnI .i64 (w1.cell? ((ad3.add (Int.toNat s11 * 5)).add 0)) fun x9 =>
  opnI .i64 (w1.cell? ((ad3.add (Int.toNat s11 * 5)).add 1)) fun x10 =>
  opnI .i64 (w1.cell? ((ad3.add (Int.toNat s11 * 5)).add 2)) fun x11 =>
  opnI .i64 (w1.cell? ((ad3.add (Int.toNat s11 * 5)).add 3)) fun x12 =>
  opnB (w1.cell? ((ad3.add (Int.toNat s11 * 5)).add 4)) fun x13 =>
  (0 : Int) ≤ s11 ∧
  s11 < ((s0n : Nat) : Int) ∧
  opnA s0 fun ad14 =>
  Array.size (#[.int .i64 x4, .int .i64 x5, .int .i64 x6, .int .i64 x7, .bool x8] : Array Value) = 5 ∧
  stC ((ad14.add (Int.toNat s11 * 5)).add 0) (.int .i64 x4) w1 fun w15 =>
  stC ((ad14.add (Int.toNat s11 * 5)).add 1) (.int .i64 x5) w15 fun w16 =>
  stC ((ad14.add (Int.toNat s11 * 5)).add 2) (.int .i64 x6) w16 fun w17 =>
  stC ((ad14.add (Int.toNat s11 * 5)).add 3) (.int .i64 x7) w17 fun w18 =>
  stC ((ad14.add (Int.toNat s11 * 5)).add 4) (.bool x8) w18 fun w19 =>
  (0 : Int) ≤ IntKind.wrap .i64 (s1 + s12) ∧
  (IntKind.wrap .i64 (s1 + s12)) < ((s0n : Nat) : Int) ∧
  opnA s0 fun ad20 =>
  Array.size (#[.int .i64 x9, .int .i64 x10, .int .i64 x11, .int .i64 x12, .bool x13] : Array Value) = 5 ∧
  stC ((ad20.add (Int.toNat (IntKind.wrap .i64 (s1 + s12)) * 5)).add 0) (.int .i64 x9) w19 fun w21 =>
  stC ((ad20.add (Int.toNat (IntKind.wrap .i64 (s1 + s12)) * 5)).add 1) (.int .i64 x10) w21 fun w22 =>
  stC ((ad20.add (Int.toNat (IntKind.wrap .i64 (s1 + s12)) * 5)).add 2) (.int .i64 x11) w22 fun w23 =>
  stC ((ad20.add (Int.toNat (IntKind.wrap .i64 (s1 + s12)) * 5)).add 3) (.int .i64 x12) w23 fun w24 =>
  stC ((ad20.add (Int.toNat (IntKind.wrap .i64 (s1 + s12)) * 5)).add 4) (.bool x13) w24 fun w25 =>
  N_slices_breakPatternsCmpFunc_tile_Tile.j6 Q s0 s0n s0c s1 s8 s9 s10 s11 w25) :
N_slices_breakPatternsCmpFunc_tile_Tile.j10 Q s0 s0n s0c s1 s8 s9 s10 s11 s12 w := Nd_fold K_slices_breakPatternsCmpFunc_tile_Tile (by kernel_rfl) h
theorem C_slices_breakPatternsCmpFunc_tile_Tile_eq (Q : Value → World → Prop) (a0 : Option Addr) (a0n : Nat) (a0c : Nat) (a1 : Int) (a2 : Int) (a3 : Value) (w : World) (h :
  cond (decide ((IntKind.wrap .i64 (a2 - a1)) ≥ 8))
  (alC #[.int .u64 0] 133 w fun p1 w2 =>
  stC p1 (.int .u64 (IntKind.wrap .u64 (IntKind.wrap .i64 (a2 - a1)))) w2 fun w3 =>
  C_slices_nextPowerOfTwo #[.int .i64 (IntKind.wrap .i64 (a2 - a1))] w3 fun v4 w5 =>
  opnI .u64 (some v4) fun x6 =>
  4 ≠ (0 : Int) ∧
  N_slices_breakPatternsCmpFunc_tile_Tile.j5 Q a0 a0n a0c a1 (IntKind.wrap .i64 (a2 - a1)) p1 x6 (IntKind.wrap .i64 ((IntKind.wrap .i64 (a1 + (IntKind.wrap .i64 ((IntKind.wrap .i64 (Int.tdiv (IntKind.wrap .i64 (a2 - a1)) 4)) * 2)))) - 1)) w5)
  (Q (.tuple #[]) w)) :
C_slices_breakPatternsCmpFunc_tile_Tile #[.slice a0 a0n a0c, .int .i64 a1, .int .i64 a2, a3] w Q := C_fold K_slices_breakPatternsCmpFunc_tile_Tile (by kernel_rfl) h
/-! ### slices.choosePivotCmpFunc[ledger/tile.Tile] -/
noncomputable def B_slices_choosePivotCmpFunc_tile_Tile : Code := match Try.f76.body with | some c => c | _ => .skip
noncomputable def X_slices_choosePivotCmpFunc_tile_Tile : Cx := { P := PP, fn := 76, N := 63, tab := tab, results := [.tmp 8, .tmp 9], iter := fun _ => (.none, .none), dyn := fun _ => false, live := fun r => cond (Nat.beq r 11) (some [0, 3, 11, 12, 13, 14]) (cond (Nat.beq r 12) (some [11, 13]) (cond (Nat.beq r 13) (some [13]) (cond (Nat.beq r 14) (some [13, 55]) (cond (Nat.beq r 15) (some [13]) (cond (Nat.beq r 16) (some [13, 55]) (cond (Nat.beq r 17) (some [13]) (none))))))) }
theorem K_slices_choosePivotCmpFunc_tile_Tile : OkF X_slices_choosePivotCmpFunc_tile_Tile B_slices_choosePivotCmpFunc_tile_Tile Try.f76 := ⟨⟨tab_ok, mix_ok⟩, Try.func76, by kernel_rfl, by kernel_rfl, by kernel_rfl, by kernel_rfl⟩
noncomputable def N_slices_choosePivotCmpFunc_tile_Tile.j11 (Q : Value → World → Prop) (s0 : Option Addr) (s0n : Nat) (s0c : Nat) (s3 : Value) (s11 : Addr) (s12 : Int) (s13 : Int) (s14 : Int) (w : World) : Prop := Nd X_slices_choosePivotCmpFunc_tile_Tile Q [(0, 0, .slice s0 s0n s0c), (3, 3, s3), (11, 11, .pointer (some s11)), (12, 12, .int .i64 s12), (13, 13, .int .i64 s13), (14, 14, .int .i64 s14)] [.code (B_slices_choosePivotCmpFunc_tile_Tile.r.r.r.r.r.r.l.r.l.r), .code (B_slices_choosePivotCmpFunc_tile_Tile.r.r.r.r.r.r.r)] w
noncomputable def N_slices_choosePivotCmpFunc_tile_Tile.j12 (Q : Value → World → Prop) (s11 : Addr) (s13 : Int) (w : World) : Prop := Nd X_slices_choosePivotCmpFunc_tile_Tile Q [(11, 11, .pointer (some s11)), (13, 13, .int .i64 s13)] [.code (B_slices_choosePivotCmpFunc_tile_Tile.r.r.r.r.r.r.r.l), .code (B_slices_choosePivotCmpFunc_tile_Tile.r.r.r.r.r.r.r.r)] w
noncomputable def N_slices_choosePivotCmpFunc_tile_Tile.j13 (Q : Value → World → Prop) (s13 : Int) (w : World) : Prop := Nd X_slices_choosePivotCmpFunc_tile_Tile Q [(13, 13, .int .i64 s13)] [.code (B_slices_choosePivotCmpFunc_tile_Tile.r.r.r.r.r.r.r.r.l.r.r.r.r.l), .code (B_slices_choosePivotCmpFunc_tile_Tile.r.r.r.r.r.r.r.r.l.r.r.r.r.r), .inBlock 0] w
noncomputable def N_slices_choosePivotCmpFunc_tile_Tile.j14 (Q : Value → World → Prop) (s13 : Int) (s55 : Int) (w : World) : Prop := Nd X_slices_choosePivotCmpFunc_tile_Tile Q [(13, 13, .int .i64 s13), (55, 55, .int .i64 s55)] [.code (B_slices_choosePivotCmpFunc_tile_Tile.r.r.r.r.r.r.r.r.l.l), .code (B_slices_choosePivotCmpFunc_tile_Tile.r.r.r.r.r.r.r.r.l.r), .inBlock 0] w
noncomputable def N_slices_choosePivotCmpFunc_tile_Tile.j15 (Q : Value → World → Prop) (s13 : Int) (w : World) : Prop := Nd X_slices_choosePivotCmpFunc_tile_Tile Q [(13, 13, .int .i64 s13)] [.code (B_slices_choosePivotCmpFunc_tile_Tile.r.r.r.r.r.r.r.r.l.r.l.l), .code (B_slices_choosePivotCmpFunc_tile_Tile.r.r.r.r.r.r.r.r.l.r.l.r), .inBlock 0] w
noncomputable def N_slices_choosePivotCmpFunc_tile_Tile.j16 (Q : Value → World → Prop) (s13 : Int) (s55 : Int) (w : World) : Prop := Nd X_slices_choosePivotCmpFunc_tile_Tile Q [(13, 13, .int .i64 s13), (55, 55, .int .i64 s55)] [.code (B_slices_choosePivotCmpFunc_tile_Tile.r.r.r.r.r.r.r.r.l.r.r.l), .code (B_slices_choosePivotCmpFunc_tile_Tile.r.r.r.r.r.r.r.r.l.r.r.r), .inBlock 0] w
noncomputable def N_slices_choosePivotCmpFunc_tile_Tile.j17 (Q : Value → World → Prop) (s13 : Int) (w : World) : Prop := Nd X_slices_choosePivotCmpFunc_tile_Tile Q [(13, 13, .int .i64 s13)] [.code (B_slices_choosePivotCmpFunc_tile_Tile.r.r.r.r.r.r.r.r.l.r.r.r.l.l), .code (B_slices_choosePivotCmpFunc_tile_Tile.r.r.r.r.r.r.r.r.l.r.r.r.l.r), .inBlock 0] w
theorem N_slices_choosePivotCmpFunc_tile_Tile.j11_eq (Q : Value → World → Prop) (s0 : Option Addr) (s0n : Nat) (s0c : Nat) (s3 : Value) (s11 : Addr) (s12 : Int) (s13 : Int) (s14 : Int) (w : World) (h :
  C_slices_medianCmpFunc_tile_Tile #[.slice s0 s0n s0c, .int .i64 s12, .int .i64 s13, .int .i64 s14, .pointer (some s11), s3] w fun v1 w2 =>
  opnI .i64 (some v1) fun x3 =>
  N_slices_choosePivotCmpFunc_tile_Tile.j12 Q s11 x3 w2) :
N_slices_choosePivotCmpFunc_tile_Tile.j11 Q s0 s0n s0c s3 s11 s12 s13 s14 w := Nd_fold K_slices_choosePivotCmpFunc_tile_Tile (by kernel_rfl) h
theorem N_slices_choosePivotCmpFunc_tile_Tile.j12_eq (Q : Value → World → Prop) (s11 : Addr) (s13 : Int) (w : World) (h :
  opnI .i64 (w.cell? s11) fun x1 =>
  N_slices_choosePivotCmpFunc_tile_Tile.j14 Q s13 x1 w) :
N_slices_choosePivotCmpFunc_tile_Tile.j12 Q s11 s13 w := Nd_fold K_slices_choosePivotCmpFunc_tile_Tile (by kernel_rfl) h
theorem N_slices_choosePivotCmpFunc_tile_Tile.j13_eq (Q : Value → World → Prop) (s13 : Int) (w : World) (h :
  Q (.tuple #[.int .i64 s13, .int .i64 0]) w) :
N_slices_choosePivotCmpFunc_tile_Tile.j13 Q s13 w := Nd_fold K_slices_choosePivotCmpFunc_tile_Tile (by kernel_rfl) h
theorem N_slices_choosePivotCmpFunc_tile_Tile.j14_eq (Q : Value → World → Prop) (s13 : Int) (s55 : Int) (w : World) (h :
  cond (s55 == 0)
  (N_slices_choosePivotCmpFunc_tile_Tile.j15 Q s13 w)
  (N_slices_choosePivotCmpFunc_tile_Tile.j16 Q s13 s55 w)) :
N_slices_choosePivotCmpFunc_tile_Tile.j14 Q s13 s55 w := Nd_fold K_slices_choosePivotCmpFunc_tile_Tile (by kernel_rfl) h
theorem N_slices_choosePivotCmpFunc_tile_Tile.j15_eq (Q : Value → World → Prop) (s13 : Int) (w : World) (h :
  Q (.tuple #[.int .i64 s13, .int .i64 1]) w) :
N_slices_choosePivotCmpFunc_tile_Tile.j15 Q s13 w := Nd_fold K_slices_choosePivotCmpFunc_tile_Tile (by kernel_rfl) h
theorem N_slices_choosePivotCmpFunc_tile_Tile.j16_eq (Q : Value → World → Prop) (s13 : Int) (s55 : Int) (w : World) (h :
  cond (s55 == 12)
  (N_slices_choosePivotCmpFunc_tile_Tile.j17 Q s13 w)
  (N_slices_choosePivotCmpFunc_tile_Tile.j13 Q s13 w)) :
N_slices_choosePivotCmpFunc_tile_Tile.j16 Q s13 s55 w := Nd_fold K_slices_choosePivotCmpFunc_tile_Tile (by kernel_rfl) h
theorem N_slices_choosePivotCmpFunc_tile_Tile.j17_eq (Q : Value → World → Prop) (s13 : Int) (w : World) (h :
  Q (.tuple #[.int .i64 s13, .int .i64 2]) w) :
N_slices_choosePivotCmpFunc_tile_Tile.j17 Q s13 w := Nd_fold K_slices_choosePivotCmpFunc_tile_Tile (by kernel_rfl) h
theorem C_slices_choosePivotCmpFunc_tile_Tile_eq (Q : Value → World → Prop) (a0 : Option Addr) (a0n : Nat) (a0c : Nat) (a1 : Int) (a2 : Int) (a3 : Value) (w : World) (h :
  alC #[.int .i64 0] 3 w fun p1 w2 =>
  4 ≠ (0 : Int) ∧
  4 ≠ (0 : Int) ∧
  4 ≠ (0 : Int) ∧
  cond (decide ((IntKind.wrap .i64 (a2 - a1)) ≥ 8))
  (cond (decide ((IntKind.wrap .i64 (a2 - a1)) ≥ 50))
  (C_slices_medianAdjacentCmpFunc_tile_Tile #[.slice a0 a0n a0c, .int .i64 (IntKind.wrap .i64 (a1 + (IntKind.wrap .i64 ((IntKind.wrap .i64 (Int.tdiv (IntKind.wrap .i64 (a2 - a1)) 4)) * 1)))), .pointer (some p1), a3] w2 fun v3 w4 =>
  opnI .i64 (some v3) fun x5 =>
  C_slices_medianAdjacentCmpFunc_tile_Tile #[.slice a0 a0n a0c, .int .i64 (IntKind.wrap .i64 (a1 + (IntKind.wrap .i64 ((IntKind.wrap .i64 (Int.tdiv (IntKind.wrap .i64 (a2 - a1)) 4)) * 2)))), .pointer (some p1), a3] w4 fun v6 w7 =>
  opnI .i64 (some v6) fun x8 =>
  C_slices_medianAdjacentCmpFunc_tile_Tile #[.slice a0 a0n a0c, .int .i64 (IntKind.wrap .i64 (a1 + (IntKind.wrap .i64 ((IntKind.wrap .i64 (Int.tdiv (IntKind.wrap .i64 (a2 - a1)) 4)) * 3)))), .pointer (some p1), a3] w7 fun v9 w10 =>
  opnI .i64 (some v9) fun x11 =>
  N_slices_choosePivotCmpFunc_tile_Tile.j11 Q a0 a0n a0c a3 p1 x5 x8 x11 w10)
  (N_slices_choosePivotCmpFunc_tile_Tile.j11 Q a0 a0n a0c a3 p1 (IntKind.wrap .i64 (a1 + (IntKind.wrap .i64 ((IntKind.wrap .i64 (Int.tdiv (IntKind.wrap .i64 (a2 - a1)) 4)) * 1)))) (IntKind.wrap .i64 (a1 + (IntKind.wrap .i64 ((IntKind.wrap .i64 (Int.tdiv (IntKind.wrap .i64 (a2 - a1)) 4)) * 2)))) (IntKind.wrap .i64 (a1 + (IntKind.wrap .i64 ((IntKind.wrap .i64 (Int.tdiv (IntKind.wrap .i64 (a2 - a1)) 4)) * 3)))) w2))
  (N_slices_choosePivotCmpFunc_tile_Tile.j12 Q p1 (IntKind.wrap .i64 (a1 + (IntKind.wrap .i64 ((IntKind.wrap .i64 (Int.tdiv (IntKind.wrap .i64 (a2 - a1)) 4)) * 2)))) w2)) :
C_slices_choosePivotCmpFunc_tile_Tile #[.slice a0 a0n a0c, .int .i64 a1, .int .i64 a2, a3] w Q := C_fold K_slices_choosePivotCmpFunc_tile_Tile (by kernel_rfl) h
/-! ### slices.reverseRangeCmpFunc[ledger/tile.Tile] -/
noncomputable def B_slices_reverseRangeCmpFunc_tile_Tile : Code := match Try.f77.body with | some c => c | _ => .skip
noncomputable def X_slices_reverseRangeCmpFunc_tile_Tile : Cx := { P := PP, fn := 77, N := 34, tab := tab, results := [], iter := fun _ => (.none, .none), dyn := fun _ => false, live := fun r => cond (Nat.beq r 2) (some [0, 8, 9]) (none) }
theorem K_slices_reverseRangeCmpFunc_tile_Tile : OkF X_slices_reverseRangeCmpFunc_tile_Tile B_slices_reverseRangeCmpFunc_tile_Tile Try.f77 := ⟨⟨tab_ok, mix_ok⟩, Try.func77, by kernel_rfl, by kernel_rfl, by kernel_rfl, by kernel_rfl⟩
noncomputable def N_slices_reverseRangeCmpFunc_tile_Tile.j2 (Q : Value → World → Prop) (s0 : Option Addr) (s0n : Nat) (s0c : Nat) (s8 : Int) (s9 : Int) (w : World) : Prop := Nd X_slices_reverseRangeCmpFunc_tile_Tile Q [(0, 0, .slice s0 s0n s0c), (8, 8, .int .i64 s8), (9, 9, .int .i64 s9)] [.code (B_slices_reverseRangeCmpFunc_tile_Tile.r.r.l.l.l.l), .code (B_slices_reverseRangeCmpFunc_tile_Tile.r.r.l.l.l.r), .code (B_slices_reverseRangeCmpFunc_tile_Tile.r.r.l.l.r), .inLoop (B_slices_reverseRangeCmpFunc_tile_Tile.r.r.l.l), .inBlock 0] w
theorem N_slices_reverseRangeCmpFunc_tile_Tile.j2_eq (Q : Value → World → Prop) (s0 : Option Addr) (s0n : Nat) (s0c : Nat) (s8 : Int) (s9 : Int) (w : World) (h :
  cond (decide (s8 < s9))
  (drw w fun w1 =>
  (0 : Int) ≤ s9 ∧
  s9 < ((s0n : Nat) : Int) ∧
  opnA s0 fun ad2 =>
  (0 : Int) ≤ s8 ∧
  s8 < ((s0n : Nat) : Int) ∧
  opnA s0 fun ad3 =>
  opnI .i64 (w1.cell? ((ad2.add (Int.toNat s9 * 5)).add 0)) fun x4 =>
  opnI .i64 (w1.cell? ((ad2.add (Int.toNat s9 * 5)).add 1)) fun x5 =>
  opnI .i64 (w1.cell? ((ad2.add (Int.toNat s9 * 5)).add 2)) fun x6 =>
  opnI .i64 (w1.cell? ((ad2.add (Int.toNat s9 * 5)).add 3)) fun x7 =>
  opnB (w1.cell? ((ad2.add (Int.toNat s9 * 5)).add 4)) fun x8 =>
  opnI .i64 (w1.cell? ((ad3.add (Int.toNat s8 * 5)).add 0)) fun x9 =>
  opnI .i64 (w1.cell? ((ad3.add (Int.toNat s8 * 5)).add 1)) fun x10 =>
  opnI .i64 (w1.cell? ((ad3.add (Int.toNat s8 * 5)).add 2)) fun x11 =>
  opnI .i64 (w1.cell? ((ad3.add (Int.toNat s8 * 5)).add 3)) fun x12 =>
  opnB (w1.cell? ((ad3.add (Int.toNat s8 * 5)).add 4)) fun x13 =>
  (0 : Int) ≤ s8 ∧
  s8 < ((s0n : Nat) : Int) ∧
  opnA s0 fun ad14 =>
  Array.size (#[.int .i64 x4, .int .i64 x5, .int .i64 x6, .int .i64 x7, .bool x8] : Array Value) = 5 ∧
  stC ((ad14.add (Int.toNat s8 * 5)).add 0) (.int .i64 x4) w1 fun w15 =>
  stC ((ad14.add (Int.toNat s8 * 5)).add 1) (.int .i64 x5) w15 fun w16 =>
  stC ((ad14.add (Int.toNat s8 * 5)).add 2) (.int .i64 x6) w16 fun w17 =>
  stC ((ad14.add (Int.toNat s8 * 5)).add 3) (.int .i64 x7) w17 fun w18 =>
  stC ((ad14.add (Int.toNat s8 * 5)).add 4) (.bool x8) w18 fun w19 =>
  (0 : Int) ≤ s9 ∧
  s9 < ((s0n : Nat) : Int) ∧
  opnA s0 fun ad20 =>
  Array.size (#[.int .i64 x9, .int .i64 x10, .int .i64 x11, .int .i64 x12, .bool x13] : Array Value) = 5 ∧
  stC ((ad20.add (Int.toNat s9 * 5)).add 0) (.int .i64 x9) w19 fun w21 =>
  stC ((ad20.add (Int.toNat s9 * 5)).add 1) (.int .i64 x10) w21 fun w22 =>
  stC ((ad20.add (Int.toNat s9 * 5)).add 2) (.int .i64 x11) w22 fun w23 =>
  stC ((ad20.add (Int.toNat s9 * 5)).add 3) (.int .i64 x12) w23 fun w24 =>
  stC ((ad20.add (Int.toNat s9 * 5)).add 4) (.bool x13) w24 fun w25 =>
  N_slices_reverseRangeCmpFunc_tile_Tile.j2 Q s0 s0n s0c (IntKind.wrap .i64 (s8 + 1)) (IntKind.wrap .i64 (s9 - 1)) w25)
  (Q (.tuple #[]) w)) :
N_slices_reverseRangeCmpFunc_tile_Tile.j2 Q s0 s0n s0c s8 s9 w := Nd_fold K_slices_reverseRangeCmpFunc_tile_Tile (by kernel_rfl) h
theorem C_slices_reverseRangeCmpFunc_tile_Tile_eq (Q : Value → World → Prop) (a0 : Option Addr) (a0n : Nat) (a0c : Nat) (a1 : Int) (a2 : Int) (a3 : Value) (w : World) (h :
  N_slices_reverseRangeCmpFunc_tile_Tile.j2 Q a0 a0n a0c a1 (IntKind.wrap .i64 (a2 - 1)) w) :
C_slices_reverseRangeCmpFunc_tile_Tile #[.slice a0 a0n a0c, .int .i64 a1, .int .i64 a2, a3] w Q := C_fold K_slices_reverseRangeCmpFunc_tile_Tile (by kernel_rfl) h
end Go.Proofs.Ytccjncflbbhldaa
