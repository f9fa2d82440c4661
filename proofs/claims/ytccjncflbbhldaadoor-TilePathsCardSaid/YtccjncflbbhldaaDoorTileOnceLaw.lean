/- TileOnce, the law. -/
import Derived.Test.YtccjncflbbhldaaDoorParseWalk
set_option maxRecDepth 10000
namespace Go.Proofs.YtccjncflbbhldaaDoor
open Go.Sh Go.RowKit

theorem E24 : EqT PP 24 [(3, 0), (3, 1), (2, 2), (3, 3), (4, 4)] := ⟨by kernel_rfl, by kernel_rfl, by kernel_rfl, by kernel_rfl⟩
theorem UU2 : PP.underlying 2 = some (.int .i64) := by kernel_rfl
theorem UU3 : PP.underlying 3 = some (.int .i64) := by kernel_rfl
theorem UU4 : PP.underlying 4 = some .bool := by kernel_rfl
def eqTl (t u : Tl) : Bool := (t.H == u.H) && ((t.L == u.L) && ((t.N == u.N) && ((t.W == u.W) && ((t.D == u.D) && true))))
theorem eqTl_self (t : Tl) : eqTl t t = true := by simp [eqTl]
theorem eqTl_f (t u : Tl) : EqF PP #[.int .i64 t.H, .int .i64 t.L, .int .i64 t.N, .int .i64 t.W, .bool t.D] #[.int .i64 u.H, .int .i64 u.L, .int .i64 u.N, .int .i64 u.W, .bool u.D] [(3, 0), (3, 1), (2, 2), (3, 3), (4, 4)] (eqTl t u) :=
  .int UU3 rfl rfl (.int UU3 rfl rfl (.int UU2 rfl rfl (.int UU3 rfl rfl (.bool UU4 rfl rfl .nil))))
def t1 : Tl := ⟨8, 1, 1234067, 5, false⟩
theorem ok1 : okT t1 := by
  unfold okT t1
  refine ⟨by decide, by decide, by decide, by decide, by decide, by decide, by decide, by decide, by decide⟩
theorem path1 : pathB t1 = [116, 105, 108, 101, 47, 56, 47, 49, 47, 120, 48, 48, 49, 47, 120, 50, 51, 52, 47, 48, 54, 55, 46, 112, 47, 53] := by
  have i8 : Lib.itoa 8 = [56] := by simp [Lib.itoa, Lib.decDigits]
  have i1 : Lib.itoa 1 = [49] := by simp [Lib.itoa, Lib.decDigits]
  have i5 : Lib.itoa 5 = [53] := by simp [Lib.itoa, Lib.decDigits]
  have iN : Lib.itoa 1234067 = [49, 50, 51, 52, 48, 54, 55] := by simp [Lib.itoa, Lib.decDigits]
  have hp : pad3 [49, 50, 51, 52, 48, 54, 55] = [48, 48, 49, 50, 51, 52, 48, 54, 55] := by decide
  have hw : wdB t1 = some [53] := by unfold wdB; rw [if_pos (by decide)]; exact congrArg some i5
  have hl : lvlB t1 = [49] := i1
  rw [pathB, partsB, hw, hl, show t1.H = 8 from rfl, show t1.N = 1234067 from rfl, i8, iN, hp]
  rw [gtail_big (by decide), gtail_big (by decide), gtail_small (by decide)]
  decide
theorem opnG_c {o : Option Value} {x : Array Value} (h : o = some (.agg x)) {K : Array Value → Prop} (hK : K x) : opnG o K := by subst h; exact hK
theorem num_word {Q : Value → World → Prop} {n : Int} {w : World} (h : Q (.int .i64 n) w) : C_l10_num #[.int .i64 n] w Q := C_l10_num_eq _ _ _ h
section
variable {Q : Value → World → Prop} {w w0 : World}
theorem mk_tile {t : Tl} {z0 z1 z2 z3 z4 : Value} {K : Addr → World → Prop} (hK : ∀ b w', Blk w' b 24 (tv t) → Chg None w w' → w.heap.size ≤ b → K ⟨b, 0, none⟩ w') :
    alC #[z0, z1, z2, z3, z4] 24 w fun p w0 => Array.size (#[.int .i64 t.H, .int .i64 t.L, .int .i64 t.N, .int .i64 t.W, .bool t.D] : Array Value) = 5 ∧ stC (p.add 0) (.int .i64 t.H) w0 fun w1 => stC (p.add 1) (.int .i64 t.L) w1 fun w2 => stC (p.add 2) (.int .i64 t.N) w2 fun w3 => stC (p.add 3) (.int .i64 t.W) w3 fun w4 => stC (p.add 4) (.bool t.D) w4 fun w5 => K p w5 :=
  mkbox5 rfl hK
theorem once_j12 {s : ByteArray} (st : Std w0) (k : Chg None w0 w) (hQ : ∀ w', Chg None w0 w' → Q (.bool true) w') : N_l10_TileOnce.j12 Q s w := by
  refine N_l10_TileOnce.j12_eq (h := parsepath_word (st.chg k) (fun hg w2 k2 => ?_) fun hg w2 k2 => ?_)
  · refine ⟨rfl, opnG_c rfl ⟨rfl, opnI_c rfl (opnI_c rfl (opnI_c rfl (opnI_c rfl (opnB_c rfl (opnI_c rfl ?_)))))⟩⟩
    refine mk_tile fun b w3 hb k3 hlo => ?_
    refine N_l10_TileOnce.j13_eq (h := num_word (opnI_s (c_nne rfl ?_)))
    refine N_l10_TileOnce.j15_eq (h := opnI_c (hb.rd 0 rfl) (opnI_c (hb.rd 1 rfl) (opnI_c (hb.rd 2 rfl) (opnI_c (hb.rd 3 rfl) (opnB_c (hb.rd 4 rfl) ?_)))))
    have k03 := k.none_trans (k2.none_trans k3)
    refine path_word (guess_fits _) (st.chg k03) (fun _ w4 k4 => ⟨rfl, opnS_c rfl (opnI_c rfl ?_)⟩) fun hk => absurd hg.2.1 hk
    refine N_l10_TileOnce.j16_eq (h := num_word (opnI_s (c_eq rfl ?_)))
    rw [Lib.toList_data, Lib.toList_data, ba_list, hg.2.2, beq_self_eq_true]
    exact hQ w4 (k03.none_trans k4)
  · refine ⟨rfl, opnG_c rfl ⟨rfl, opnI_c rfl (opnI_c rfl (opnI_c rfl (opnI_c rfl (opnB_c rfl (opnI_c rfl ?_)))))⟩⟩
    refine mk_tile (t := tz) fun b w3 hb k3 hlo => ?_
    refine N_l10_TileOnce.j13_eq (h := num_word (opnI_s (c_ne (by decide) ?_)))
    refine N_l10_TileOnce.j14_eq (h := opnI_c (hb.rd 0 rfl) (opnI_c (hb.rd 1 rfl) (opnI_c (hb.rd 2 rfl) (opnI_c (hb.rd 3 rfl) (opnB_c (hb.rd 4 rfl) ?_)))))
    refine struct_eql E24 (eqTl_f tz tz) ?_
    rw [eqTl_self, opnB_s, cond_true]
    exact num_word (opnI_s (hQ w3 (k.none_trans (k2.none_trans k3))))
theorem tileonce_word {t : Tl} {s : ByteArray} (hf : fitsT t) (st : Std w0) (hQ : ∀ w', Chg None w0 w' → Q (.bool true) w') : C_l10_TileOnce #[tg t, .string s] w0 Q := by
  refine C_l10_TileOnce_eq _ _ _ _ _ _ _ _ ?_
  refine alC_box fun b w1 hb k1 hlo => ?_
  refine mk_tile (t := t1) fun b2 w2 hb2 k2 hlo2 => ?_
  have k02 := k1.none_trans k2
  refine opnI_c (hb2.rd 0 rfl) (opnI_c (hb2.rd 1 rfl) (opnI_c (hb2.rd 2 rfl) (opnI_c (hb2.rd 3 rfl) (opnB_c (hb2.rd 4 rfl) ?_))))
  refine path_word (t := t1) (by unfold fitsT t1; simp) (st.chg k02) (fun _ w3 k3 => ⟨rfl, opnS_c rfl (opnI_c rfl ?_)⟩) fun hk => absurd ok1 hk
  refine num_word (opnI_s (c_nne rfl ?_))
  rw [path1]
  refine c_str_ne rfl ?_
  have k03 := k02.none_trans k3
  have hb3 : Blk w3 b 24 (tv t) := hb.chg (k2.none_trans k3) (fun h => h)
  refine opnI_c (hb3.rd 0 rfl) (opnI_c (hb3.rd 1 rfl) (opnI_c (hb3.rd 2 rfl) (opnI_c (hb3.rd 3 rfl) (opnB_c (hb3.rd 4 rfl) ?_))))
  refine path_word (t := t) hf (st.chg k03) (fun hk w4 k4 => ⟨rfl, opnS_c rfl (opnI_c rfl ?_)⟩) fun hk w4 k4 => ⟨rfl, opnS_c rfl (opnI_c rfl ?_)⟩
  · have hb4 := hb3.chg k4 (fun h => h)
    have k04 := k03.none_trans k4
    refine opnI_c (hb4.rd 0 rfl) (opnI_c (hb4.rd 1 rfl) (opnI_c (hb4.rd 2 rfl) (opnI_c (hb4.rd 3 rfl) (opnB_c (hb4.rd 4 rfl) ?_))))
    refine check_word (t := t) hf (fun _ w5 k5 => opnI_s ?_) fun h => absurd hk h
    refine num_word (opnI_s (num_word (opnI_s (c_nne rfl (num_word (opnI_s (c_nne rfl ?_)))))))
    refine N_l10_TileOnce.j8_eq (h := num_word (opnI_s (c_eq rfl ?_)))
    have k05 := k04.none_trans k5
    obtain ⟨hg, he⟩ := goodP_path hk
    refine N_l10_TileOnce.j9_eq (h := parsepath_word (st.chg k05) (fun _ w6 k6 => ?_) fun h => absurd (by rw [ba_list]; exact hg) h)
    rw [ba_list, he]
    refine ⟨rfl, opnG_c rfl ⟨rfl, opnI_c rfl (opnI_c rfl (opnI_c rfl (opnI_c rfl (opnB_c rfl (opnI_c rfl ?_)))))⟩⟩
    refine mk_tile (t := t) fun b7 w7 hb7 k7 hlo7 => ?_
    have hb' := ((hb4.chg k5 (fun h => h)).chg k6 (fun h => h)).chg k7 (fun h => h)
    refine N_l10_TileOnce.j10_eq (h := num_word (opnI_s (c_nne rfl ?_)))
    refine opnI_c (hb7.rd 0 rfl) (opnI_c (hb7.rd 1 rfl) (opnI_c (hb7.rd 2 rfl) (opnI_c (hb7.rd 3 rfl) (opnB_c (hb7.rd 4 rfl) ?_))))
    refine opnI_c (hb'.rd 0 rfl) (opnI_c (hb'.rd 1 rfl) (opnI_c (hb'.rd 2 rfl) (opnI_c (hb'.rd 3 rfl) (opnB_c (hb'.rd 4 rfl) ?_))))
    refine struct_neq E24 (eqTl_f t t) ?_
    rw [eqTl_self, opnB_s, Bool.not_true, cond_false]
    have hk' := hk
    obtain ⟨h1, h2, h3, h4, _⟩ := hk
    refine opnI_c (hb'.rd 3 rfl) (c_nlt (by omega) (opnI_c (hb'.rd 0 rfl) (c_nlt (by omega) (opnI_c (hb'.rd 0 rfl) (c_ngt (by omega) (opnI_c (hb'.rd 3 rfl) (opnI_c (hb'.rd 0 rfl) ?_)))))))
    have hu : IntKind.wrap .u64 t.H = t.H := by rw [IntKind.wrap_u64]; omega
    rw [hu, shl_one (by omega) (by omega)]
    have hnn : ∀ {p : Prop}, p → nn t.H p := fun h => by
      obtain ⟨m, hm⟩ := Int.eq_ofNat_of_zero_le (by omega : 0 ≤ t.H)
      rw [hm]; exact h
    exact hnn (c_ngt (by omega) (once_j12 st (k05.none_trans (k6.none_trans k7)) hQ))
  · have hb4 := hb3.chg k4 (fun h => h)
    have k04 := k03.none_trans k4
    refine opnI_c (hb4.rd 0 rfl) (opnI_c (hb4.rd 1 rfl) (opnI_c (hb4.rd 2 rfl) (opnI_c (hb4.rd 3 rfl) (opnB_c (hb4.rd 4 rfl) ?_))))
    refine check_word (t := t) hf (fun h => absurd h hk) fun _ w5 k5 => opnI_s ?_
    refine num_word (opnI_s (num_word (opnI_s (c_nne rfl (num_word (opnI_s (c_ne (by decide) ?_)))))))
    refine c_str_ne rfl ?_
    refine N_l10_TileOnce.j8_eq (h := num_word (opnI_s (c_neq (by decide) ?_)))
    exact once_j12 st (k04.none_trans k5) hQ
end
end Go.Proofs.YtccjncflbbhldaaDoor
