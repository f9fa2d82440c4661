/- The tile of a place, its width: the program's and the document's. -/
import Derived.Test.YtccjncflbbhldaaOf
set_option maxRecDepth 10000
namespace Go.Proofs.Ytccjncflbbhldaa
open Go.Sh

/-! ### tiles as values and in boxes -/
abbrev tg (t : Tl) : Value := .agg #[.int .i64 t.H, .int .i64 t.L, .int .i64 t.N, .int .i64 t.W, .bool t.D]
theorem tv_one (t : Tl) : ([Value.int .i64 t.H, .int .i64 t.L, .int .i64 t.N, .int .i64 t.W, .bool t.D] : List Value).all Value.oneCell' = true := rfl
section
variable {w : World} {b T : Nat}
theorem rd_tile {t : Tl} (h : Blk w b T (tv t)) {K : Int → Int → Int → Int → Bool → Prop} (hK : K t.H t.L t.N t.W t.D) :
    opnI .i64 (w.cell? ((⟨b, 0, none⟩ : Addr).add 0)) fun x0 => opnI .i64 (w.cell? ((⟨b, 0, none⟩ : Addr).add 1)) fun x1 => opnI .i64 (w.cell? ((⟨b, 0, none⟩ : Addr).add 2)) fun x2 => opnI .i64 (w.cell? ((⟨b, 0, none⟩ : Addr).add 3)) fun x3 => opnB (w.cell? ((⟨b, 0, none⟩ : Addr).add 4)) fun x4 => K x0 x1 x2 x3 x4 := by
  rw [h.rd 0 rfl, h.rd 1 rfl, h.rd 2 rfl, h.rd 3 rfl, h.rd 4 rfl]
  exact ⟨rfl, ⟨rfl, ⟨rfl, ⟨rfl, hK⟩⟩⟩⟩
theorem rd_tile2 {t : Tl} {l : List Value} (h : Blk w b T l) (hl : l.take 5 = tv t) {K : Int → Int → Int → Int → Bool → Prop} (hK : K t.H t.L t.N t.W t.D) :
    opnI .i64 (w.cell? (((⟨b, 0, none⟩ : Addr).add 0).add 0)) fun x0 => opnI .i64 (w.cell? (((⟨b, 0, none⟩ : Addr).add 0).add 1)) fun x1 => opnI .i64 (w.cell? (((⟨b, 0, none⟩ : Addr).add 0).add 2)) fun x2 => opnI .i64 (w.cell? (((⟨b, 0, none⟩ : Addr).add 0).add 3)) fun x3 => opnB (w.cell? (((⟨b, 0, none⟩ : Addr).add 0).add 4)) fun x4 => K x0 x1 x2 x3 x4 := by
  have g : ∀ j v, (tv t)[j]? = some v → j < 5 → l[0 + j]? = some v := fun j v hv hj => by rw [← hl, List.getElem?_take, if_pos hj] at hv; rw [Nat.zero_add]; exact hv
  rw [h.rd2 0 0 (g 0 _ rfl (by decide)), h.rd2 0 1 (g 1 _ rfl (by decide)), h.rd2 0 2 (g 2 _ rfl (by decide)), h.rd2 0 3 (g 3 _ rfl (by decide)), h.rd2 0 4 (g 4 _ rfl (by decide))]
  exact ⟨rfl, ⟨rfl, ⟨rfl, ⟨rfl, hK⟩⟩⟩⟩
theorem opn_tile {t : Tl} {K : Int → Int → Int → Int → Bool → Prop} (hK : K t.H t.L t.N t.W t.D) :
    opnG (some (tg t)) fun x => x.size = 5 ∧ opnI .i64 (x[0]?) fun x0 => opnI .i64 (x[1]?) fun x1 => opnI .i64 (x[2]?) fun x2 => opnI .i64 (x[3]?) fun x3 => opnB (x[4]?) fun x4 => K x0 x1 x2 x3 x4 := ⟨rfl, ⟨rfl, ⟨rfl, ⟨rfl, ⟨rfl, hK⟩⟩⟩⟩⟩
theorem set_tile {t : Tl} {old : List Value} (h : Blk w b T old) (hl : old.length = 5) {K : World → Prop} (hK : ∀ w', Blk w' b T (tv t) → Chg (fun k => k = b) w w' → K w') :
    Array.size (#[.int .i64 t.H, .int .i64 t.L, .int .i64 t.N, .int .i64 t.W, .bool t.D] : Array Value) = 5 ∧ stC ((⟨b, 0, none⟩ : Addr).add 0) (.int .i64 t.H) w fun w1 => stC ((⟨b, 0, none⟩ : Addr).add 1) (.int .i64 t.L) w1 fun w2 => stC ((⟨b, 0, none⟩ : Addr).add 2) (.int .i64 t.N) w2 fun w3 => stC ((⟨b, 0, none⟩ : Addr).add 3) (.int .i64 t.W) w3 fun w4 => stC ((⟨b, 0, none⟩ : Addr).add 4) (.bool t.D) w4 fun w5 => K w5 :=
  ⟨rfl, box5 h hl (tv_one t) hK⟩
theorem mk_tile {t : Tl} {z0 z1 z2 z3 z4 : Value} {K : Addr → World → Prop} (hK : ∀ b w', Blk w' b T (tv t) → Chg None w w' → w.heap.size ≤ b → K ⟨b, 0, none⟩ w') :
    alC #[z0, z1, z2, z3, z4] T w fun p w0 => Array.size (#[.int .i64 t.H, .int .i64 t.L, .int .i64 t.N, .int .i64 t.W, .bool t.D] : Array Value) = 5 ∧ stC (p.add 0) (.int .i64 t.H) w0 fun w1 => stC (p.add 1) (.int .i64 t.L) w1 fun w2 => stC (p.add 2) (.int .i64 t.N) w2 fun w3 => stC (p.add 3) (.int .i64 t.W) w3 fun w4 => stC (p.add 4) (.bool t.D) w4 fun w5 => K p w5 :=
  mkbox5 (tv_one t) hK
theorem arg_tile {t : Tl} {K : Addr → World → Prop} (hK : ∀ b w', Blk w' b T (tv t) → Chg None w w' → w.heap.size ≤ b → K ⟨b, 0, none⟩ w') : alC #[.int .i64 t.H, .int .i64 t.L, .int .i64 t.N, .int .i64 t.W, .bool t.D] T w K := alC_box hK
end
def tz : Tl := ⟨0, 0, 0, 0, false⟩

/-! ### the tile of a place -/
noncomputable def foldOf (h c : Nat) : Nat := levOf c % h
noncomputable def atOf (h c : Nat) : Nat := nodOf c * 2 ^ foldOf h c
noncomputable def firstOf (h c : Nat) : Nat := atOf h c % 2 ^ h
noncomputable def tlOf (h c : Nat) : Tl := ⟨h, (levOf c / h : Nat), (atOf h c / 2 ^ h : Nat), (firstOf h c + 2 ^ foldOf h c : Nat), false⟩
theorem fold_lt {h c : Nat} (h1 : 1 ≤ h) : foldOf h c < h := Nat.mod_lt _ (by omega)
theorem at_le {h c : Nat} (hc : c < 562949953421311) : atOf h c ≤ 281474976710656 := by
  have h1 := nod_lt hc
  have h2 : 2 ^ foldOf h c ≤ 2 ^ levOf c := Nat.pow_le_pow_right (by decide) (Nat.mod_le _ _)
  have h3 : nodOf c * 2 ^ foldOf h c ≤ nodOf c * 2 ^ levOf c := Nat.mul_le_mul_left _ h2
  rw [Nat.add_mul] at h1
  unfold atOf; omega
theorem mask_mod (x h : Nat) (hx : x < 9223372036854775808) (h8 : h ≤ 8) : bits .and .i64 (x : Int) (IntKind.wrap .i64 (((2 ^ h : Nat) : Int) - 1)) = ((x % 2 ^ h : Nat) : Int) := by
  have hp := pow_le h h8
  have hp0 := pow_pos2 h
  rw [wrap_id (by omega) (by omega), show ((2 ^ h : Nat) : Int) - 1 = ((2 ^ h - 1 : Nat) : Int) by omega, i64_and x (2 ^ h - 1) hx (by omega), Nat.and_two_pow_sub_one_eq_mod]

theorem seat_word {Q : Value → World → Prop} {h : Nat} {c : Int} {w0 : World} (h1 : 1 ≤ h) (h8 : h ≤ 8)
    (hok : ∀ c' : Nat, c = c' → c' < 562949953421311 → ∀ w', Chg None w0 w' → Q (.tuple #[.agg #[.int .i64 (tlOf h c').H, .int .i64 (tlOf h c').L, .int .i64 (tlOf h c').N, .int .i64 (tlOf h c').W, .bool (tlOf h c').D, .int .i64 (firstOf h c' : Nat), .int .i64 (foldOf h c' : Nat)], .bool true]) w')
    (hno : ¬ (0 ≤ c ∧ c < 562949953421311) → ∀ w', Chg None w0 w' → Q (.tuple #[.agg #[.int .i64 0, .int .i64 0, .int .i64 0, .int .i64 0, .bool false, .int .i64 0, .int .i64 0], .bool false]) w') :
    C_tile_seatOf #[.int .i64 (h : Int), .int .i64 c] w0 Q := by
  refine C_tile_seatOf_eq _ _ _ _ ?_
  refine alC_box fun b w1 hb k1 hb1 => ?_
  have fin : ∀ (vs : List Value) (w : World), Blk w b 80 vs → Chg None w0 w → True := fun _ _ _ _ => trivial
  refine split_word (fun c' hc hlt w2 k2 => ⟨rfl, ⟨rfl, ⟨rfl, ⟨rfl, c_nne rfl ?_⟩⟩⟩⟩) fun hn => ⟨rfl, ⟨rfl, ⟨rfl, ⟨rfl, c_ne (by decide) ?_⟩⟩⟩⟩
  · subst hc
    rw [drw_s]
    have k3 : Chg None w0 w2.drew := (k1.none_trans k2).drew
    refine ⟨by omega, by omega, ?_⟩
    have hf := fold_lt (c := c') h1
    have hat := at_le (h := h) hlt
    have hnl := nod_lt hlt
    have hnod : nodOf c' < 281474976710656 := by
      have : nodOf c' + 1 ≤ (nodOf c' + 1) * 2 ^ levOf c' := Nat.le_mul_of_pos_right _ (pow_pos2 _)
      omega
    have hlv := lev_le hlt
    have hdv : levOf c' / h ≤ levOf c' := Nat.div_le_self _ _
    have hmod := Nat.mod_lt (atOf h c') (pow_pos2 h)
    have hp := pow_le h h8
    have hpf : 2 ^ foldOf h c' ≤ 256 := pow_le _ (by omega)
    rw [tmod_nat, show levOf c' % h = foldOf h c' from rfl]
    refine nn_nat (full_word h8 (opnI_s ?_))
    rw [drw_s]
    refine nn_nat (nn_nat ?_)
    have hs1 := shl_nat (nodOf c') (foldOf h c') (by omega) (by show atOf h c' < _; omega)
    have hs2 := shl_nat 1 (foldOf h c') (by omega) (by omega)
    rw [Nat.one_mul] at hs2
    have hs2' : shlI .i64 1 ((foldOf h c' : Nat) : Int) = ((2 ^ foldOf h c' : Nat) : Int) := hs2
    have hat' : nodOf c' * 2 ^ foldOf h c' = atOf h c' := rfl
    rw [hs1, hat', shr_nat _ h (by omega), mask_mod _ h (by omega) h8, hs2', tdiv_nat, wrap_n _ (by omega), ← Int.natCast_add, wrap_n _ (by omega)]
    refine ⟨rfl, box7 (hb.chg (k2.drew.drew) (fun h => h)) rfl rfl fun w3 hb3 k4 => ?_⟩
    simp only [hb3.rd 0 rfl, hb3.rd 1 rfl, hb3.rd 2 rfl, hb3.rd 3 rfl, hb3.rd 4 rfl, hb3.rd 5 rfl, hb3.rd 6 rfl, opnI, true_and]
    rw [opnB_s]
    exact hok c' rfl hlt w3 (Chg.fresh k3.drew k4 fun x hx => by rw [hx]; exact hb1)
  · refine ⟨rfl, box7 hb rfl rfl fun w3 hb3 k4 => ?_⟩
    simp only [hb3.rd 0 rfl, hb3.rd 1 rfl, hb3.rd 2 rfl, hb3.rd 3 rfl, hb3.rd 4 rfl, hb3.rd 5 rfl, hb3.rd 6 rfl, opnI, true_and]
    rw [opnB_s]
    exact hno hn w3 (Chg.fresh k1 k4 fun x hx => by rw [hx]; exact hb1)

theorem opn_seat {a0 a1 a2 a3 a5 a6 : Int} {a4 ok : Bool} {K : Int → Int → Int → Int → Bool → Int → Int → Bool → Prop} (hK : K a0 a1 a2 a3 a4 a5 a6 ok) :
    opnT (some (.tuple #[.agg #[.int .i64 a0, .int .i64 a1, .int .i64 a2, .int .i64 a3, .bool a4, .int .i64 a5, .int .i64 a6], .bool ok])) fun x => x.size = 2 ∧ opnG (x[0]?) fun y => y.size = 7 ∧ opnI .i64 (y[0]?) fun y0 => opnI .i64 (y[1]?) fun y1 => opnI .i64 (y[2]?) fun y2 => opnI .i64 (y[3]?) fun y3 => opnB (y[4]?) fun y4 => opnI .i64 (y[5]?) fun y5 => opnI .i64 (y[6]?) fun y6 => opnB (x[1]?) fun b => K y0 y1 y2 y3 y4 y5 y6 b :=
  ⟨rfl, ⟨rfl, ⟨rfl, ⟨rfl, ⟨rfl, ⟨rfl, ⟨rfl, ⟨rfl, hK⟩⟩⟩⟩⟩⟩⟩⟩
/-! what Of answers -/
noncomputable def ofV (h c : Int) : Tl × Int := if 1 ≤ h ∧ h ≤ 8 ∧ 0 ≤ c ∧ c < 562949953421311 then (tlOf h.toNat c.toNat, 0) else (tz, 1)
theorem of_word {Q : Value → World → Prop} {h c : Int} {w0 : World} (hQ : ∀ w', Chg None w0 w' → Q (.tuple #[tg (ofV h c).1, .int .i64 (ofV h c).2]) w') : C_tile_Of #[.int .i64 h, .int .i64 c] w0 Q := by
  refine C_tile_Of_eq _ _ _ _ ?_
  refine alC_box fun b w1 hb k1 hb1 => ?_
  have bad : ¬ (1 ≤ h ∧ h ≤ 8 ∧ 0 ≤ c ∧ c < 562949953421311) → N_tile_Of.j2 Q ⟨b, 0, none⟩ w1 := by
    intro hn
    refine N_tile_Of.j2_eq (h := set_tile (t := tz) hb rfl fun w2 hb2 k2 => rd_tile hb2 ?_)
    have := hQ w2 (Chg.fresh k1 k2 fun x hx => by rw [hx]; exact hb1)
    rw [ofV, if_neg hn] at this
    exact this
  by_cases g1 : h < 1
  · exact c_lt g1 (bad (by omega))
  refine c_nlt (by omega) ?_
  by_cases g2 : h > 8
  · exact c_gt g2 (bad (by omega))
  refine c_ngt (by omega) ?_
  obtain ⟨h, rfl⟩ := Int.eq_ofNat_of_zero_le (by omega : 0 ≤ h)
  refine seat_word (by omega) (by omega) (fun c' hc hlt w2 k2 => opn_seat ?_) fun hn w2 k2 => opn_seat ?_
  · subst hc
    refine mkbox7 rfl fun b2 w3 hb3 k3 hlt3 => ?_
    refine (rd_tile2 hb3 rfl ?_ : opnI .i64 (w3.cell? (((⟨b2, 0, none⟩ : Addr).add 0).add 0)) _)
    refine set_tile (hb.chg (k2.none_trans k3) (fun h => h)) rfl fun w4 hb4 k4 => rd_tile hb4 ?_
    have := hQ w4 (Chg.fresh (k1.none_trans (k2.none_trans k3)) k4 fun x hx => by rw [hx]; exact hb1)
    rw [ofV, if_pos (by omega)] at this
    exact this
  · refine mkbox7 rfl fun b2 w3 hb3 k3 hlt3 => ?_
    refine (set_tile (t := tz) (hb.chg (k2.none_trans k3) (fun h => h)) rfl fun w4 hb4 k4 => rd_tile hb4 ?_ : _ ∧ _)
    have := hQ w4 (Chg.fresh (k1.none_trans (k2.none_trans k3)) k4 fun x hx => by rw [hx]; exact hb1)
    rw [ofV, if_neg (by omega)] at this
    exact this

/-- what Width answers -/
def widV (h l n size : Int) : Int × Int := if 1 ≤ h ∧ h ≤ 8 ∧ 0 ≤ l ∧ 0 ≤ n ∧ 0 ≤ size ∧ size ≤ 281474976710656 then ((wid h.toNat l.toNat n.toNat size.toNat : Nat), 0) else (0, 1)
theorem twidth_word {Q : Value → World → Prop} {h l n size : Int} {w0 : World} (hQ : ∀ w', Chg None w0 w' → Q (.tuple #[.int .i64 (widV h l n size).1, .int .i64 (widV h l n size).2]) w') : C_tile_Width #[.int .i64 h, .int .i64 l, .int .i64 n, .int .i64 size] w0 Q := by
  refine C_tile_Width_eq _ _ _ _ _ _ (C_tile_sizes_eq _ _ _ _ ?_)
  have bad : ¬ (1 ≤ h ∧ h ≤ 8 ∧ 0 ≤ l ∧ 0 ≤ n ∧ 0 ≤ size ∧ size ≤ 281474976710656) → N_tile_Width.j2 Q w0 := by
    intro hn
    refine N_tile_Width.j2_eq (h := ?_)
    have := hQ w0 (Chg.refl _ _)
    rw [widV, if_neg hn] at this
    exact this
  by_cases g1 : 1 ≤ h
  case neg => exact c_nge (by omega) (bad (by omega))
  refine c_ge g1 ?_
  by_cases g2 : h ≤ 8
  case neg => exact c_nle (by omega) (bad (by omega))
  refine c_le g2 ?_
  by_cases g3 : 0 ≤ size
  case neg => exact c_nge (by omega) (bad (by omega))
  refine c_ge g3 ?_
  by_cases g4 : size ≤ 281474976710656
  case neg =>
    rw [decide_eq_false g4]
    exact bad (by omega)
  rw [decide_eq_true g4, opnB_s, Bool.not_true, cond_false]
  by_cases g5 : l < 0
  · exact c_lt g5 (bad (by omega))
  refine c_nlt (by omega) ?_
  by_cases g6 : n < 0
  · exact c_lt g6 (bad (by omega))
  refine c_nlt (by omega) ?_
  obtain ⟨h, rfl⟩ := Int.eq_ofNat_of_zero_le (by omega : 0 ≤ h)
  obtain ⟨l, rfl⟩ := Int.eq_ofNat_of_zero_le (by omega : 0 ≤ l)
  obtain ⟨n, rfl⟩ := Int.eq_ofNat_of_zero_le (by omega : 0 ≤ n)
  obtain ⟨size, rfl⟩ := Int.eq_ofNat_of_zero_le (by omega : 0 ≤ size)
  refine width_word (by omega) (by omega) (by omega) fun w1 k1 => opnI_s ?_
  have := hQ w1 k1
  rw [widV, if_pos (by omega)] at this
  exact this

/-! ### the document's -/
theorem rpow_word {Q : Value → World → Prop} {n : Nat} {w : World} (hn : n ≤ 62) (hQ : Q (.int .i64 ((2 ^ n : Nat) : Int)) w) : C_r10_power #[.int .i64 (n : Int)] w Q := by
  refine C_r10_power_eq _ _ _ ?_
  rw [wrap_u n (by omega)]
  have hle : 2 ^ n ≤ 2 ^ 62 := Nat.pow_le_pow_right (by decide) hn
  have hs := shl_nat 1 n (by omega) (by rw [Nat.one_mul]; omega)
  rw [Nat.one_mul] at hs
  have hs' : shlI .i64 1 ((n : Nat) : Int) = ((2 ^ n : Nat) : Int) := hs
  rw [hs']
  exact nn_nat hQ
def nodesV (h l size : Nat) : Nat := if 48 < l ∨ 48 < h * l then 0 else size / 2 ^ (h * l)
theorem nodes_word {Q : Value → World → Prop} {h l size : Nat} {w : World} (h8 : h ≤ 8) (hl : l ≤ 9223372036854775807) (hs : size ≤ 281474976710656) (hQ : Q (.int .i64 ((nodesV h l size : Nat) : Int)) w) : C_r10_nodes #[.int .i64 (h : Int), .int .i64 (l : Int), .int .i64 (size : Int)] w Q := by
  refine C_r10_nodes_eq _ _ _ _ _ ?_
  unfold nodesV at hQ
  by_cases g1 : 48 < l
  · rw [if_pos (.inl g1)] at hQ
    exact c_gt (by omega) (N_r10_nodes.j2_eq (h := hQ))
  refine c_ngt (by omega) ?_
  have hm : h * l ≤ 8 * 48 := Nat.mul_le_mul h8 (by omega)
  rw [wrap_mul (by omega)]
  by_cases g2 : 48 < h * l
  · rw [if_pos (.inr g2)] at hQ
    exact c_gt (by omega) (N_r10_nodes.j2_eq (h := hQ))
  rw [if_neg (by omega)] at hQ
  have hp := pow_pos2 (h * l)
  have hd : size / 2 ^ (h * l) ≤ size := Nat.div_le_self _ _
  refine c_ngt (by omega) (rpow_word (by omega) (opnI_s ⟨by omega, ?_⟩))
  rw [tdiv_nat, wrap_n _ (by omega)]
  exact hQ
theorem nodes_cnt {h l size : Nat} (h1 : 1 ≤ h) : nodesV h l size = if 48 / h < l then 0 else cnt h l size := by
  unfold nodesV cnt
  by_cases g : 48 / h < l
  · rw [if_pos g, if_pos]
    have := (Nat.div_lt_iff_lt_mul (show 0 < h by omega)).1 g
    rw [Nat.mul_comm]; exact .inr this
  · rw [if_neg g, if_neg]
    have h2 := mul_small h1 (by omega : l ≤ 48 / h)
    have h3 : 48 / h ≤ 48 := Nat.div_le_self _ _
    omega
theorem rwidth_word {Q : Value → World → Prop} {h l n size : Int} {w0 : World} (hl : l ≤ 9223372036854775807) (hQ : Q (.tuple #[.int .i64 (widV h l n size).1, .int .i64 (widV h l n size).2]) w0) : C_r10_Width #[.int .i64 h, .int .i64 l, .int .i64 n, .int .i64 size] w0 Q := by
  refine C_r10_Width_eq _ _ _ _ _ _ ?_
  have bad : ¬ (1 ≤ h ∧ h ≤ 8 ∧ 0 ≤ l ∧ 0 ≤ n ∧ 0 ≤ size ∧ size ≤ 281474976710656) → N_r10_Width.j2 Q w0 := by
    intro hn
    refine N_r10_Width.j2_eq (h := ?_)
    rw [widV, if_neg hn] at hQ
    exact hQ
  by_cases g1 : h < 1
  · exact c_lt g1 (bad (by omega))
  refine c_nlt (by omega) ?_
  by_cases g2 : h > 8
  · exact c_gt g2 (bad (by omega))
  refine c_ngt (by omega) ?_
  by_cases g3 : l < 0
  · exact c_lt g3 (bad (by omega))
  refine c_nlt (by omega) ?_
  by_cases g4 : n < 0
  · exact c_lt g4 (bad (by omega))
  refine c_nlt (by omega) ?_
  by_cases g5 : size < 0
  · exact c_lt g5 (bad (by omega))
  refine c_nlt (by omega) ?_
  by_cases g6 : size > 281474976710656
  · exact c_gt g6 (bad (by omega))
  refine c_ngt (by omega) ?_
  clear bad
  obtain ⟨h, rfl⟩ := Int.eq_ofNat_of_zero_le (by omega : 0 ≤ h)
  obtain ⟨l, rfl⟩ := Int.eq_ofNat_of_zero_le (by omega : 0 ≤ l)
  obtain ⟨n, rfl⟩ := Int.eq_ofNat_of_zero_le (by omega : 0 ≤ n)
  obtain ⟨size, rfl⟩ := Int.eq_ofNat_of_zero_le (by omega : 0 ≤ size)
  rw [widV, if_pos (by omega)] at hQ
  simp only [Int.toNat_natCast] at hQ
  have h1 : 1 ≤ h := by omega
  refine nodes_word (by omega) (by omega) (by omega) (opnI_s ?_)
  have e := nodes_cnt (l := l) (size := size) h1
  have hp := pow_le h (by omega)
  have hp0 := pow_pos2 h
  have hc := cnt_le h l size
  unfold wid at hQ
  by_cases hl2 : 48 / h < l
  · rw [if_pos hl2] at e hQ
    rw [e]
    by_cases hn0 : n = 0
    · subst hn0
      refine c_ngt (by omega) (rpow_word (by omega) (opnI_s ?_))
      have ez : IntKind.wrap .i64 (((0 : Nat) : Int) - IntKind.wrap .i64 (((0 : Nat) : Int) * ((2 ^ h : Nat) : Int))) = 0 := by simp [wrap_id]
      rw [ez]
      refine c_nlt (by omega) (N_r10_Width.j9_eq (h := rpow_word (by omega) (opnI_s (c_ngt (by omega) (N_r10_Width.j11_eq (h := hQ))))))
    · exact c_gt (by omega) hQ
  rw [if_neg hl2] at e hQ
  rw [e]
  by_cases hn1 : cnt h l size < n
  · have : cnt h l size / 2 ^ h < n := Nat.lt_of_le_of_lt (Nat.div_le_self _ _) hn1
    rw [if_pos this] at hQ
    exact c_gt (by omega) hQ
  refine c_ngt (by omega) (rpow_word (by omega) (opnI_s ?_))
  have hmul : n * 2 ^ h ≤ 281474976710656 * 256 := Nat.mul_le_mul (by omega) hp
  rw [show ((n : Int) * ((2 ^ h : Nat) : Int)) = ((n * 2 ^ h : Nat) : Int) by norm_cast, wrap_n _ (by omega), wrap_id (by omega) (by omega)]
  by_cases hn2 : cnt h l size / 2 ^ h < n
  · rw [if_pos hn2] at hQ
    have h2 := (Nat.div_lt_iff_lt_mul hp0).1 hn2
    refine c_lt (by omega) (N_r10_Width.j9_eq (h := rpow_word (by omega) (opnI_s (c_ngt (by omega) (N_r10_Width.j11_eq (h := hQ))))))
  rw [if_neg hn2] at hQ
  have h2 : n * 2 ^ h ≤ cnt h l size := (Nat.le_div_iff_mul_le hp0).1 (by omega)
  refine c_nlt (by omega) (N_r10_Width.j9_eq (h := rpow_word (by omega) (opnI_s ?_)))
  by_cases h3 : 2 ^ h < cnt h l size - n * 2 ^ h
  · rw [Nat.min_eq_right (by omega)] at hQ
    refine c_gt (by omega) (N_r10_Width.j10_eq (h := rpow_word (by omega) (opnI_s (N_r10_Width.j11_eq (h := hQ)))))
  · rw [Nat.min_eq_left (by omega)] at hQ
    rw [show ((cnt h l size : Nat) : Int) - ((n * 2 ^ h : Nat) : Int) = ((cnt h l size - n * 2 ^ h : Nat) : Int) by omega]
    exact c_ngt (by omega) (N_r10_Width.j11_eq (h := hQ))
end Go.Proofs.Ytccjncflbbhldaa
