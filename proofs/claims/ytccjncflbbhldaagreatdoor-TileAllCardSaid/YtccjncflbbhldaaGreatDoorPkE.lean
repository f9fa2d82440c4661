/- PlSeat, PlWide, ShL16, TreeMem, TreeAdd, TreeRoot, TreeAll, FromTree, Joined, Inside, WidthsPure, RefSha3, RefNode, PathWalk, GuessWalk, ParseWalk, RefPath, RefTree, ShL17, WidthsLaw, RefInside, ShGk0, PlPlanPure, ShM1, ShM2, PlNeed, PlSort, PlPlan, Shelf, ReadPure -/
import Derived.Test.YtccjncflbbhldaaGreatDoorPkB
import Derived.Test.YtccjncflbbhldaaGreatDoorPkC
import Derived.Test.YtccjncflbbhldaaGreatDoorPkD
import Derived.Test.YtccjncflbbhldaaGreatDoorPkA
import Derived.MapKept
import Derived.Laws.IdiomRangeMap
import Derived.Shelf.SlSortCmp.WholeK
import Derived.Test.YtccjncflbbhldaaGreatDoorProg
/-! ## PlSeat -/
set_option maxRecDepth 10000
namespace Go.Proofs.YtccjncflbbhldaaGreatDoor.Pl
open Go.Sh

/-! ### tiles as values and in boxes -/
theorem tv_one (t : Tl) : ([Value.int .i64 t.H, .int .i64 t.L, .int .i64 t.N, .int .i64 t.W, .bool t.D] : List Value).all Value.oneCell' = true := rfl
section
variable {w : World} {b T : Nat}
theorem rd_tile {t : Tl} (h : Blk w b T (tv t)) {K : Int → Int → Int → Int → Bool → Prop} (hK : K t.H t.L t.N t.W t.D) :
    opnI .i64 (w.cell? ((⟨b, 0, none⟩ : Addr).add 0)) fun x0 => opnI .i64 (w.cell? ((⟨b, 0, none⟩ : Addr).add 1)) fun x1 => opnI .i64 (w.cell? ((⟨b, 0, none⟩ : Addr).add 2)) fun x2 => opnI .i64 (w.cell? ((⟨b, 0, none⟩ : Addr).add 3)) fun x3 => opnB (w.cell? ((⟨b, 0, none⟩ : Addr).add 4)) fun x4 => K x0 x1 x2 x3 x4 := by
  rw [h.rd 0 rfl, h.rd 1 rfl, h.rd 2 rfl, h.rd 3 rfl, h.rd 4 rfl]
  exact ⟨rfl, ⟨rfl, ⟨rfl, ⟨rfl, hK⟩⟩⟩⟩
theorem rd_tile2 {t : Tl} {l : List Value} (h : Blk w b T l) (hl : l.take 5 = tv t) {K : Int → Int → Int → Int → Bool → Prop} (hK : K t.H t.L t.N t.W t.D) :
    opnI .i64 (w.cell? (((⟨b, 0, none⟩ : Addr).add 0).add 0)) fun x0 => opnI .i64 (w.cell? (((⟨b, 0, none⟩ : Addr).add 0).add 1)) fun x1 => opnI .i64 (w.cell? (((⟨b, 0, none⟩ : Addr).add 0).add 2)) fun x2 => opnI .i64 (w.cell? (((⟨b, 0, none⟩ : Addr).add 0).add 3)) fun x3 => opnB (w.cell? (((⟨b, 0, none⟩ : Addr).add 0).add 4)) fun x4 => K x0 x1 x2 x3 x4 := by
  have g : ∀ j v, (tv t)[j]? = some v → j < 5 → l[0 + j]? = some v := fun j v hv hj => by rw [← hl, List.getElem?_take, if_pos hj] at hv; rw [Nat.zero_add]; exact hv
  rw [h.rd2 0 0 (g 0 _ rfl (by decide)), h.rd2 0 1 (g 1 _ rfl (by decide)), h.rd2 0 2 (g 2 _ rfl (by decide)), h.rd2 0 3 (g 3 _ rfl (by decide)), h.rd2 0 4 (g 4 _ rfl (by decide))]
  exact ⟨rfl, ⟨rfl, ⟨rfl, ⟨rfl, hK⟩⟩⟩⟩
theorem opn_tile {t : Tl} {K : Int → Int → Int → Int → Bool → Prop} (hK : K t.H t.L t.N t.W t.D) :
    opnG (some (tg t)) fun x => x.size = 5 ∧ opnI .i64 (x[0]?) fun x0 => opnI .i64 (x[1]?) fun x1 => opnI .i64 (x[2]?) fun x2 => opnI .i64 (x[3]?) fun x3 => opnB (x[4]?) fun x4 => K x0 x1 x2 x3 x4 := ⟨rfl, ⟨rfl, ⟨rfl, ⟨rfl, ⟨rfl, hK⟩⟩⟩⟩⟩
theorem set_tile {t : Tl} {old : List Value} (h : Blk w b T old) (hl : old.length = 5) {K : World → Prop} (hK : ∀ w', Blk w' b T (tv t) → Chg (fun k => k = b) w w' → K w') :
    Array.size (#[.int .i64 t.H, .int .i64 t.L, .int .i64 t.N, .int .i64 t.W, .bool t.D] : Array Value) = 5 ∧ stC ((⟨b, 0, none⟩ : Addr).add 0) (.int .i64 t.H) w fun w1 => stC ((⟨b, 0, none⟩ : Addr).add 1) (.int .i64 t.L) w1 fun w2 => stC ((⟨b, 0, none⟩ : Addr).add 2) (.int .i64 t.N) w2 fun w3 => stC ((⟨b, 0, none⟩ : Addr).add 3) (.int .i64 t.W) w3 fun w4 => stC ((⟨b, 0, none⟩ : Addr).add 4) (.bool t.D) w4 fun w5 => K w5 :=
  ⟨rfl, box5 h hl (tv_one t) hK⟩
theorem mk_tile {t : Tl} {z0 z1 z2 z3 z4 : Value} {K : Addr → World → Prop} (hK : ∀ b w', Blk w' b T (tv t) → Chg None w w' → w.heap.size ≤ b → K ⟨b, 0, none⟩ w') :
    alC #[z0, z1, z2, z3, z4] T w fun p w0 => Array.size (#[.int .i64 t.H, .int .i64 t.L, .int .i64 t.N, .int .i64 t.W, .bool t.D] : Array Value) = 5 ∧ stC (p.add 0) (.int .i64 t.H) w0 fun w1 => stC (p.add 1) (.int .i64 t.L) w1 fun w2 => stC (p.add 2) (.int .i64 t.N) w2 fun w3 => stC (p.add 3) (.int .i64 t.W) w3 fun w4 => stC (p.add 4) (.bool t.D) w4 fun w5 => K p w5 :=
  mkbox5 (tv_one t) hK
theorem arg_tile {t : Tl} {K : Addr → World → Prop} (hK : ∀ b w', Blk w' b T (tv t) → Chg None w w' → w.heap.size ≤ b → K ⟨b, 0, none⟩ w') : alC #[.int .i64 t.H, .int .i64 t.L, .int .i64 t.N, .int .i64 t.W, .bool t.D] T w K := alC_box hK
end
/-! ### the tile of a place -/
noncomputable def foldOf (h c : Nat) : Nat := levOf c % h
noncomputable def atOf (h c : Nat) : Nat := nodOf c * 2 ^ foldOf h c
noncomputable def firstOf (h c : Nat) : Nat := atOf h c % 2 ^ h
noncomputable def tlOf (h c : Nat) : Tl := ⟨h, (levOf c / h : Nat), (atOf h c / 2 ^ h : Nat), (firstOf h c + 2 ^ foldOf h c : Nat), false⟩
theorem fold_lt {h c : Nat} (h1 : 1 ≤ h) : foldOf h c < h := Nat.mod_lt _ (by omega)
theorem at_le {h c : Nat} (hc : c < 562949953421311) : atOf h c ≤ 281474976710656 := by
  have h1 := nod_lt hc
  have h2 : 2 ^ foldOf h c ≤ 2 ^ levOf c := Nat.pow_le_pow_right (by decide) (Nat.mod_le _ _)
  have h3 : nodOf c * 2 ^ foldOf h c ≤ nodOf c * 2 ^ levOf c := Nat.mul_le_mul_left _ h2
  rw [Nat.add_mul] at h1
  unfold atOf; omega
theorem mask_mod (x h : Nat) (hx : x < 9223372036854775808) (h8 : h ≤ 8) : bits .and .i64 (x : Int) (IntKind.wrap .i64 (((2 ^ h : Nat) : Int) - 1)) = ((x % 2 ^ h : Nat) : Int) := by
  have hp := pow_le h h8
  have hp0 := pow_pos2 h
  rw [wrap_id (by omega) (by omega), show ((2 ^ h : Nat) : Int) - 1 = ((2 ^ h - 1 : Nat) : Int) by omega, i64_and x (2 ^ h - 1) hx (by omega), Nat.and_two_pow_sub_one_eq_mod]

theorem seat_word {Q : Value → World → Prop} {h : Nat} {c : Int} {w0 : World} (h1 : 1 ≤ h) (h8 : h ≤ 8)
    (hok : ∀ c' : Nat, c = c' → c' < 562949953421311 → ∀ w', Chg None w0 w' → Q (.tuple #[.agg #[.int .i64 (tlOf h c').H, .int .i64 (tlOf h c').L, .int .i64 (tlOf h c').N, .int .i64 (tlOf h c').W, .bool (tlOf h c').D, .int .i64 (firstOf h c' : Nat), .int .i64 (foldOf h c' : Nat)], .bool true]) w')
    (hno : ¬ (0 ≤ c ∧ c < 562949953421311) → ∀ w', Chg None w0 w' → Q (.tuple #[.agg #[.int .i64 0, .int .i64 0, .int .i64 0, .int .i64 0, .bool false, .int .i64 0, .int .i64 0], .bool false]) w') :
    C_tile_seatOf #[.int .i64 (h : Int), .int .i64 c] w0 Q := by
  refine C_tile_seatOf_eq _ _ _ _ ?_
  refine alC_box fun b w1 hb k1 hb1 => ?_
  have fin : ∀ (vs : List Value) (w : World), Blk w b 87 vs → Chg None w0 w → True := fun _ _ _ _ => trivial
  refine split_word (fun c' hc hlt w2 k2 => ⟨rfl, ⟨rfl, ⟨rfl, ⟨rfl, c_nne rfl ?_⟩⟩⟩⟩) fun hn => ⟨rfl, ⟨rfl, ⟨rfl, ⟨rfl, c_ne (by decide) ?_⟩⟩⟩⟩
  · subst hc
    rw [drw_s]
    have k3 : Chg None w0 w2.drew := (k1.none_trans k2).drew
    refine ⟨by omega, by omega, ?_⟩
    have hf := fold_lt (c := c') h1
    have hat := at_le (h := h) hlt
    have hnl := nod_lt hlt
    have hnod : nodOf c' < 281474976710656 := by
      have : nodOf c' + 1 ≤ (nodOf c' + 1) * 2 ^ levOf c' := Nat.le_mul_of_pos_right _ (pow_pos2 _)
      omega
    have hlv := lev_le hlt
    have hdv : levOf c' / h ≤ levOf c' := Nat.div_le_self _ _
    have hmod := Nat.mod_lt (atOf h c') (pow_pos2 h)
    have hp := pow_le h h8
    have hpf : 2 ^ foldOf h c' ≤ 256 := pow_le _ (by omega)
    rw [tmod_nat, show levOf c' % h = foldOf h c' from rfl]
    refine nn_nat (full_word h8 (opnI_s ?_))
    rw [drw_s]
    refine nn_nat (nn_nat ?_)
    have hs1 := shl_nat (nodOf c') (foldOf h c') (by omega) (by show atOf h c' < _; omega)
    have hs2 := shl_nat 1 (foldOf h c') (by omega) (by omega)
    rw [Nat.one_mul] at hs2
    have hs2' : shlI .i64 1 ((foldOf h c' : Nat) : Int) = ((2 ^ foldOf h c' : Nat) : Int) := hs2
    have hat' : nodOf c' * 2 ^ foldOf h c' = atOf h c' := rfl
    rw [hs1, hat', shr_nat _ h (by omega), mask_mod _ h (by omega) h8, hs2', tdiv_nat, wrap_n _ (by omega), ← Int.natCast_add, wrap_n _ (by omega)]
    refine ⟨rfl, box7 (hb.chg (k2.drew.drew) (fun h => h)) rfl rfl fun w3 hb3 k4 => ?_⟩
    simp only [hb3.rd 0 rfl, hb3.rd 1 rfl, hb3.rd 2 rfl, hb3.rd 3 rfl, hb3.rd 4 rfl, hb3.rd 5 rfl, hb3.rd 6 rfl, opnI, true_and]
    rw [opnB_s]
    exact hok c' rfl hlt w3 (Chg.fresh k3.drew k4 fun x hx => by rw [hx]; exact hb1)
  · refine ⟨rfl, box7 hb rfl rfl fun w3 hb3 k4 => ?_⟩
    simp only [hb3.rd 0 rfl, hb3.rd 1 rfl, hb3.rd 2 rfl, hb3.rd 3 rfl, hb3.rd 4 rfl, hb3.rd 5 rfl, hb3.rd 6 rfl, opnI, true_and]
    rw [opnB_s]
    exact hno hn w3 (Chg.fresh k1 k4 fun x hx => by rw [hx]; exact hb1)

theorem opn_seat {a0 a1 a2 a3 a5 a6 : Int} {a4 ok : Bool} {K : Int → Int → Int → Int → Bool → Int → Int → Bool → Prop} (hK : K a0 a1 a2 a3 a4 a5 a6 ok) :
    opnT (some (.tuple #[.agg #[.int .i64 a0, .int .i64 a1, .int .i64 a2, .int .i64 a3, .bool a4, .int .i64 a5, .int .i64 a6], .bool ok])) fun x => x.size = 2 ∧ opnG (x[0]?) fun y => y.size = 7 ∧ opnI .i64 (y[0]?) fun y0 => opnI .i64 (y[1]?) fun y1 => opnI .i64 (y[2]?) fun y2 => opnI .i64 (y[3]?) fun y3 => opnB (y[4]?) fun y4 => opnI .i64 (y[5]?) fun y5 => opnI .i64 (y[6]?) fun y6 => opnB (x[1]?) fun b => K y0 y1 y2 y3 y4 y5 y6 b :=
  ⟨rfl, ⟨rfl, ⟨rfl, ⟨rfl, ⟨rfl, ⟨rfl, ⟨rfl, ⟨rfl, hK⟩⟩⟩⟩⟩⟩⟩⟩
/-! what Of answers -/
noncomputable def ofV (h c : Int) : Tl × Int := if 1 ≤ h ∧ h ≤ 8 ∧ 0 ≤ c ∧ c < 562949953421311 then (tlOf h.toNat c.toNat, 0) else (tz, 1)
/-- what Width answers -/
def widV (h l n size : Int) : Int × Int := if 1 ≤ h ∧ h ≤ 8 ∧ 0 ≤ l ∧ 0 ≤ n ∧ 0 ≤ size ∧ size ≤ 281474976710656 then ((wid h.toNat l.toNat n.toNat size.toNat : Nat), 0) else (0, 1)
/-! ### the document's -/
theorem rpow_word {Q : Value → World → Prop} {n : Nat} {w : World} (hn : n ≤ 62) (hQ : Q (.int .i64 ((2 ^ n : Nat) : Int)) w) : C_r10_power #[.int .i64 (n : Int)] w Q := by
  refine C_r10_power_eq _ _ _ ?_
  rw [wrap_u n (by omega)]
  have hle : 2 ^ n ≤ 2 ^ 62 := Nat.pow_le_pow_right (by decide) hn
  have hs := shl_nat 1 n (by omega) (by rw [Nat.one_mul]; omega)
  rw [Nat.one_mul] at hs
  have hs' : shlI .i64 1 ((n : Nat) : Int) = ((2 ^ n : Nat) : Int) := hs
  rw [hs']
  exact nn_nat hQ
def nodesV (h l size : Nat) : Nat := if 48 < l ∨ 48 < h * l then 0 else size / 2 ^ (h * l)
theorem nodes_word {Q : Value → World → Prop} {h l size : Nat} {w : World} (h8 : h ≤ 8) (hl : l ≤ 9223372036854775807) (hs : size ≤ 281474976710656) (hQ : Q (.int .i64 ((nodesV h l size : Nat) : Int)) w) : C_r10_nodes #[.int .i64 (h : Int), .int .i64 (l : Int), .int .i64 (size : Int)] w Q := by
  refine C_r10_nodes_eq _ _ _ _ _ ?_
  unfold nodesV at hQ
  by_cases g1 : 48 < l
  · rw [if_pos (.inl g1)] at hQ
    exact c_gt (by omega) (N_r10_nodes.j2_eq (h := hQ))
  refine c_ngt (by omega) ?_
  have hm : h * l ≤ 8 * 48 := Nat.mul_le_mul h8 (by omega)
  rw [wrap_mul (by omega)]
  by_cases g2 : 48 < h * l
  · rw [if_pos (.inr g2)] at hQ
    exact c_gt (by omega) (N_r10_nodes.j2_eq (h := hQ))
  rw [if_neg (by omega)] at hQ
  have hp := pow_pos2 (h * l)
  have hd : size / 2 ^ (h * l) ≤ size := Nat.div_le_self _ _
  refine c_ngt (by omega) (rpow_word (by omega) (opnI_s ⟨by omega, ?_⟩))
  rw [tdiv_nat, wrap_n _ (by omega)]
  exact hQ
theorem nodes_cnt {h l size : Nat} (h1 : 1 ≤ h) : nodesV h l size = if 48 / h < l then 0 else cnt h l size := by
  unfold nodesV cnt
  by_cases g : 48 / h < l
  · rw [if_pos g, if_pos]
    have := (Nat.div_lt_iff_lt_mul (show 0 < h by omega)).1 g
    rw [Nat.mul_comm]; exact .inr this
  · rw [if_neg g, if_neg]
    have h2 := mul_small h1 (by omega : l ≤ 48 / h)
    have h3 : 48 / h ≤ 48 := Nat.div_le_self _ _
    omega
theorem rwidth_word {Q : Value → World → Prop} {h l n size : Int} {w0 : World} (hl : l ≤ 9223372036854775807) (hQ : Q (.tuple #[.int .i64 (widV h l n size).1, .int .i64 (widV h l n size).2]) w0) : C_r10_Width #[.int .i64 h, .int .i64 l, .int .i64 n, .int .i64 size] w0 Q := by
  refine C_r10_Width_eq _ _ _ _ _ _ ?_
  have bad : ¬ (1 ≤ h ∧ h ≤ 8 ∧ 0 ≤ l ∧ 0 ≤ n ∧ 0 ≤ size ∧ size ≤ 281474976710656) → N_r10_Width.j2 Q w0 := by
    intro hn
    refine N_r10_Width.j2_eq (h := ?_)
    rw [widV, if_neg hn] at hQ
    exact hQ
  by_cases g1 : h < 1
  · exact c_lt g1 (bad (by omega))
  refine c_nlt (by omega) ?_
  by_cases g2 : h > 8
  · exact c_gt g2 (bad (by omega))
  refine c_ngt (by omega) ?_
  by_cases g3 : l < 0
  · exact c_lt g3 (bad (by omega))
  refine c_nlt (by omega) ?_
  by_cases g4 : n < 0
  · exact c_lt g4 (bad (by omega))
  refine c_nlt (by omega) ?_
  by_cases g5 : size < 0
  · exact c_lt g5 (bad (by omega))
  refine c_nlt (by omega) ?_
  by_cases g6 : size > 281474976710656
  · exact c_gt g6 (bad (by omega))
  refine c_ngt (by omega) ?_
  clear bad
  obtain ⟨h, rfl⟩ := Int.eq_ofNat_of_zero_le (by omega : 0 ≤ h)
  obtain ⟨l, rfl⟩ := Int.eq_ofNat_of_zero_le (by omega : 0 ≤ l)
  obtain ⟨n, rfl⟩ := Int.eq_ofNat_of_zero_le (by omega : 0 ≤ n)
  obtain ⟨size, rfl⟩ := Int.eq_ofNat_of_zero_le (by omega : 0 ≤ size)
  rw [widV, if_pos (by omega)] at hQ
  simp only [Int.toNat_natCast] at hQ
  have h1 : 1 ≤ h := by omega
  refine nodes_word (by omega) (by omega) (by omega) (opnI_s ?_)
  have e := nodes_cnt (l := l) (size := size) h1
  have hp := pow_le h (by omega)
  have hp0 := pow_pos2 h
  have hc := cnt_le h l size
  unfold wid at hQ
  by_cases hl2 : 48 / h < l
  · rw [if_pos hl2] at e hQ
    rw [e]
    by_cases hn0 : n = 0
    · subst hn0
      refine c_ngt (by omega) (rpow_word (by omega) (opnI_s ?_))
      have ez : IntKind.wrap .i64 (((0 : Nat) : Int) - IntKind.wrap .i64 (((0 : Nat) : Int) * ((2 ^ h : Nat) : Int))) = 0 := by simp [wrap_id]
      rw [ez]
      refine c_nlt (by omega) (N_r10_Width.j9_eq (h := rpow_word (by omega) (opnI_s (c_ngt (by omega) (N_r10_Width.j11_eq (h := hQ))))))
    · exact c_gt (by omega) hQ
  rw [if_neg hl2] at e hQ
  rw [e]
  by_cases hn1 : cnt h l size < n
  · have : cnt h l size / 2 ^ h < n := Nat.lt_of_le_of_lt (Nat.div_le_self _ _) hn1
    rw [if_pos this] at hQ
    exact c_gt (by omega) hQ
  refine c_ngt (by omega) (rpow_word (by omega) (opnI_s ?_))
  have hmul : n * 2 ^ h ≤ 281474976710656 * 256 := Nat.mul_le_mul (by omega) hp
  rw [show ((n : Int) * ((2 ^ h : Nat) : Int)) = ((n * 2 ^ h : Nat) : Int) by norm_cast, wrap_n _ (by omega), wrap_id (by omega) (by omega)]
  by_cases hn2 : cnt h l size / 2 ^ h < n
  · rw [if_pos hn2] at hQ
    have h2 := (Nat.div_lt_iff_lt_mul hp0).1 hn2
    refine c_lt (by omega) (N_r10_Width.j9_eq (h := rpow_word (by omega) (opnI_s (c_ngt (by omega) (N_r10_Width.j11_eq (h := hQ))))))
  rw [if_neg hn2] at hQ
  have h2 : n * 2 ^ h ≤ cnt h l size := (Nat.le_div_iff_mul_le hp0).1 (by omega)
  refine c_nlt (by omega) (N_r10_Width.j9_eq (h := rpow_word (by omega) (opnI_s ?_)))
  by_cases h3 : 2 ^ h < cnt h l size - n * 2 ^ h
  · rw [Nat.min_eq_right (by omega)] at hQ
    refine c_gt (by omega) (N_r10_Width.j10_eq (h := rpow_word (by omega) (opnI_s (N_r10_Width.j11_eq (h := hQ)))))
  · rw [Nat.min_eq_left (by omega)] at hQ
    rw [show ((cnt h l size : Nat) : Int) - ((n * 2 ^ h : Nat) : Int) = ((cnt h l size - n * 2 ^ h : Nat) : Int) by omega]
    exact c_ngt (by omega) (N_r10_Width.j11_eq (h := hQ))
end Go.Proofs.YtccjncflbbhldaaGreatDoor.Pl
/-! ## PlWide -/
set_option maxRecDepth 10000
namespace Go.Proofs.YtccjncflbbhldaaGreatDoor.Pl
open Go.Sh

/-- t at its full width -/
def wideV (t : Tl) (size : Nat) : Tl := { t with W := (wid t.H.toNat t.L.toNat t.N.toNat size : Nat) }
theorem wide_word {Q : Value → World → Prop} {t : Tl} {h l n size : Nat} {w0 : World} (hH : t.H = h) (hL : t.L = l) (hN : t.N = n) (h1 : 1 ≤ h) (h8 : h ≤ 8) (hs : size ≤ 281474976710656)
    (hQ : ∀ w', Chg None w0 w' → Q (tg (wideV t size)) w') : C_tile_wide #[tg t, .int .i64 (size : Int)] w0 Q := by
  refine C_tile_wide_eq _ _ _ _ _ _ _ _ ?_
  refine alC_box fun b w1 hb k1 hb1 => ?_
  refine alC_box fun b2 w2 hb2 k2 hlt2 => ?_
  have hb' := hb.chg k2 (fun h => h)
  have ne : b2 ≠ b := fun e => by have := hb.lt; omega
  refine opnI_c (hb'.rd 0 rfl) (opnI_c (hb'.rd 1 rfl) (opnI_c (hb'.rd 2 rfl) ?_))
  rw [hH, hL, hN]
  refine width_word h1 h8 hs fun w3 k3 => opnI_s ?_
  refine box_set (hb'.chg k3 (fun h => h)) (by simp) rfl fun w4 hb4 k4 => ?_
  refine rd_tile (t := wideV t size) (by simpa [tv, wideV, hH, hL, hN] using hb4) ?_
  refine set_tile (t := wideV t size) (old := [.int .i64 0, .int .i64 0, .int .i64 0, .int .i64 0, .bool false]) ((hb2.chg k3 (fun h => h)).chg k4 ne) rfl fun w5 hb5 k5 => rd_tile hb5 ?_
  have k04 : Chg None w0 w4 := Chg.fresh (k1.none_trans (k2.none_trans k3)) k4 fun x hx => by rw [hx]; exact hb1
  exact hQ w5 (Chg.fresh k04 k5 fun x hx => by rw [hx]; have := k1.size; omega)
/-- the place over a full tile -/
theorem topOf_word {Q : Value → World → Prop} {t : Tl} {h l n : Nat} {w0 : World} (hH : t.H = h) (hL : t.L = l) (hN : t.N = n) (hl : h * (l + 1) ≤ 48) (hn : (n + 1) * 2 ^ (h * (l + 1)) ≤ 281474976710656)
    (hQ : ∀ w', Chg None w0 w' → Q (.int .i64 ((placeOf (h * (l + 1)) n : Nat) : Int)) w') : C_tile_topOf #[tg t] w0 Q := by
  refine C_tile_topOf_eq _ _ _ _ _ _ _ ?_
  refine alC_box fun b w1 hb k1 hb1 => ?_
  refine opnI_c (hb.rd 0 rfl) (opnI_c (hb.rd 1 rfl) (opnI_c (hb.rd 2 rfl) ?_))
  rw [hH, hL, hN]
  have hl1 : l + 1 ≤ 48 ∨ h = 0 := by
    rcases Nat.eq_zero_or_pos h with g | g
    · exact .inr g
    · have : l + 1 ≤ h * (l + 1) := Nat.le_mul_of_pos_left _ g
      exact .inl (by omega)
  have e : IntKind.wrap .i64 ((h : Int) * IntKind.wrap .i64 ((l : Int) + 1)) = ((h * (l + 1) : Nat) : Int) := by
    rcases hl1 with g | g
    · rw [wrap_nat (by omega), wrap_mul (by omega)]
    · subst g
      rw [Int.natCast_zero, Int.zero_mul, Nat.zero_mul]; rfl
  rw [e]
  refine index_word (fun _ => ⟨rfl, ⟨rfl, ⟨rfl, hQ w1 k1⟩⟩⟩) fun g => absurd ⟨by omega, by omega, by omega, by rw [Int.toNat_natCast, Int.toNat_natCast]; exact hn⟩ g

/-! ### the document's -/
theorem rof_word {Q : Value → World → Prop} {h c : Int} {w0 : World} (hQ : ∀ w', Chg None w0 w' → Q (.tuple #[tg (ofV h c).1, .int .i64 (ofV h c).2]) w') : C_r10_Of #[.int .i64 h, .int .i64 c] w0 Q := by
  refine C_r10_Of_eq _ _ _ _ ?_
  refine alC_box fun b w1 hb k1 hb1 => ?_
  have bad : ¬ (1 ≤ h ∧ h ≤ 8 ∧ 0 ≤ c ∧ c < 562949953421311) → N_r10_Of.j2 Q ⟨b, 0, none⟩ w1 := by
    intro hn
    refine N_r10_Of.j2_eq (h := set_tile (t := tz) hb rfl fun w2 hb2 k2 => rd_tile hb2 ?_)
    have := hQ w2 (Chg.fresh k1 k2 fun x hx => by rw [hx]; exact hb1)
    rw [ofV, if_neg hn] at this
    exact this
  by_cases g1 : h < 1
  · exact c_lt g1 (bad (by omega))
  refine c_nlt (by omega) ?_
  by_cases g2 : h > 8
  · exact c_gt g2 (bad (by omega))
  refine c_ngt (by omega) ?_
  obtain ⟨h, rfl⟩ := Int.eq_ofNat_of_zero_le (by omega : 0 ≤ h)
  have h1 : 1 ≤ h := by omega
  have h8 : h ≤ 8 := by omega
  refine rsplit_word (fun c' hc hlt w2 k2 => ⟨rfl, ⟨rfl, ⟨rfl, ⟨rfl, c_nne rfl ?_⟩⟩⟩⟩) fun hn => ⟨rfl, ⟨rfl, ⟨rfl, ⟨rfl, c_ne (by decide) ?_⟩⟩⟩⟩
  · subst hc
    refine ⟨by omega, ?_⟩
    have hf := fold_lt (c := c') h1
    have hat := at_le (h := h) hlt
    have hlv := lev_le hlt
    have hdv : levOf c' / h ≤ levOf c' := Nat.div_le_self _ _
    have hmod := Nat.mod_lt (atOf h c') (pow_pos2 h)
    have hp := pow_le h h8
    have hp0 := pow_pos2 h
    have hpf : 2 ^ foldOf h c' ≤ 256 := pow_le _ (by omega)
    have hdn : atOf h c' / 2 ^ h ≤ atOf h c' := Nat.div_le_self _ _
    rw [tmod_nat, show levOf c' % h = foldOf h c' from rfl]
    refine rpow_word (by omega) (opnI_s ?_)
    rw [drw_s]
    have hk2 : Chg None w1 w2.drew := k2.drew
    have e1 : IntKind.wrap .i64 (((nodOf c' : Nat) : Int) * ((2 ^ foldOf h c' : Nat) : Int)) = ((atOf h c' : Nat) : Int) := by
      rw [show ((nodOf c' : Nat) : Int) * ((2 ^ foldOf h c' : Nat) : Int) = ((atOf h c' : Nat) : Int) by rw [atOf]; norm_cast]
      exact wrap_n _ (by omega)
    have e2 : IntKind.wrap .i64 (Int.tdiv ((levOf c' : Nat) : Int) (h : Int)) = ((levOf c' / h : Nat) : Int) := by rw [tdiv_nat, wrap_n _ (by omega)]
    have e3 : IntKind.wrap .i64 (Int.tdiv ((atOf h c' : Nat) : Int) ((2 ^ h : Nat) : Int)) = ((atOf h c' / 2 ^ h : Nat) : Int) := by rw [tdiv_nat, wrap_n _ (by omega)]
    have last : ∀ (b2 : Nat) (w3 : World), Blk w3 b2 32 [.int .i64 (h : Int), .int .i64 ((levOf c' / h : Nat) : Int), .int .i64 ((atOf h c' / 2 ^ h : Nat) : Int), .int .i64 0, .bool false] → Chg None w2.drew w3 → w2.drew.heap.size ≤ b2 → N_r10_Of.j9 Q (h : Int) ⟨b, 0, none⟩ ((2 ^ foldOf h c' : Nat) : Int) ((atOf h c' : Nat) : Int) ⟨b2, 0, none⟩ w3 := by
      intro b2 w3 hb3 k3 hlt3
      refine N_r10_Of.j9_eq (h := rpow_word (by omega) (opnI_s ⟨by omega, ?_⟩))
      rw [tmod_nat, ← Int.natCast_add, wrap_n _ (by omega)]
      refine box_set hb3 (by simp [tv]) rfl fun w4 hb4 k4 => ?_
      have hb0 := (hb.chg (hk2.none_trans k3) (fun h => h)).chg k4 (by have := hb.lt; have := hk2.size; omega)
      refine N_r10_Of.j10_eq (h := rd_tile (t := tlOf h c') hb4 ?_)
      refine set_tile (t := tlOf h c') hb0 rfl fun w5 hb5 k5 => rd_tile hb5 ?_
      have k04 : Chg None w0 w4 := Chg.fresh ((k1.none_trans hk2).none_trans k3) k4 fun x hx => by rw [hx]; have := k1.size; have := hk2.size; omega
      have := hQ w5 (Chg.fresh k04 k5 fun x hx => by rw [hx]; exact hb1)
      rw [ofV, if_pos (by omega)] at this
      exact this
    rw [e1, e2]
    refine ⟨by omega, rpow_word (by omega) (opnI_s ⟨by omega, ?_⟩), ?_⟩
    · rw [e3]
      exact mkbox5 rfl fun b2 w3 hb3 k3 hlt3 => last b2 w3 hb3 k3 hlt3
    · refine alC_box fun b2 w3 hb3 k3 hlt3 => rpow_word (by omega) (opnI_s ⟨by omega, ?_⟩)
      rw [e3]
      exact ⟨rfl, box5 hb3 rfl rfl fun w4 hb4 k4 => last b2 w4 hb4 (Chg.fresh k3 k4 fun x hx => by rw [hx]; exact hlt3) hlt3⟩
  · refine set_tile (t := tz) hb rfl fun w2 hb2 k2 => rd_tile hb2 ?_
    have := hQ w2 (Chg.fresh k1 k2 fun x hx => by rw [hx]; exact hb1)
    rw [ofV, if_neg (by omega)] at this
    exact this
/-- what the document's wide answers -/
noncomputable def rwideV (h size c : Int) : Tl := { (ofV h c).1 with W := (widV h (ofV h c).1.L (ofV h c).1.N size).1 }
theorem ofV_L (h c : Int) : (ofV h c).1.L ≤ 9223372036854775807 := by
  unfold ofV
  split
  · rename_i g
    have := lev_le (c := c.toNat) (by omega)
    have h2 : levOf c.toNat / h.toNat ≤ levOf c.toNat := Nat.div_le_self _ _
    simp only [tlOf]; omega
  · decide
end Go.Proofs.YtccjncflbbhldaaGreatDoor.Pl
/-! ## ShL16 -/
namespace Go.Sh
open Go.ChangeShapes
variable {P : Program}
section
variable {α : Type} {enc : α → List Value} {sz : Nat} {w : World}
/-- a row, read -/
theorem rd_rowP (hs : ∀ x, (enc x).length = sz) {S : Nat → Prop} {p : Addr} {l : List α} (h : Lies w S (some p) (l.flatMap enc)) {i : Nat} {x : α} (hx : l[i]? = some x) {n : Nat} (hn : sz = n) {K : Array Value → Prop} (hK : K (enc x).toArray) : opnRow w (p.add (i * sz)) n K :=
  row_c ((hs x).trans hn) (fun j v hv => by
    have hj : j < sz := by have := (List.getElem?_eq_some_iff.1 hv).1; rwa [hs] at this
    obtain ⟨q, hq, _, hc⟩ := h (i * sz + j) v (by rw [flat_get enc sz hs l _ j x hx hj]; exact hv)
    cases hq
    rw [add_add']; exact hc) hK
theorem rd_row (hs : ∀ x, (enc x).length = sz) {S : Nat → Prop} {a : Option Addr} {l : List α} (h0 : 0 < sz) (h : Lies w S a (l.flatMap enc)) {i : Nat} {x : α} (hx : l[i]? = some x) {n : Nat} (hn : sz = n) {K : Array Value → Prop} (hK : K (enc x).toArray) : opnA a fun ad => opnRow w (ad.add (i * sz)) n K := by
  obtain ⟨p, rfl⟩ := lies_flat_some hs h0 h (i := i) (List.getElem?_eq_some_iff.1 hx).1
  exact rd_rowP hs h hx hn hK
/-- a row, written -/
theorem st_row (hs : ∀ x, (enc x).length = sz) {e n c : Nat} {a : Option Addr} {l : List α} (h : Own w e sz a n c (l.flatMap enc)) {i : Nat} (hi : i < l.length) (x : α) (h0 : 0 < sz) (h1 : (enc x).all Value.oneCell' = true) {m : Nat} (hm : sz = m) {K : World → Prop} (hK : ∀ w', Own w' e sz a n c ((l.set i x).flatMap enc) → Chg (At a) w w' → K w') :
    opnA a fun ad => stRow (ad.add (i * sz)) (enc x).toArray m w K := by
  have hl := h.len
  rw [flat_len enc sz hs] at hl
  have hln : l.length = n := Nat.eq_of_mul_eq_mul_right h0 hl
  rcases h.row with ⟨rfl, h2, h3⟩ | ⟨b, rest, rfl, h2, h3, h4⟩
  · omega
  · have el : l = l.take i ++ l[i] :: l.drop (i + 1) := by rw [List.getElem_cons_drop, List.take_append_drop]
    have e : l.flatMap enc ++ rest = (l.take i).flatMap enc ++ enc l[i] ++ ((l.drop (i + 1)).flatMap enc ++ rest) := by
      have := congrArg (fun q => List.flatMap enc q ++ rest) el
      simp only [List.flatMap_append, List.flatMap_cons] at this
      rw [this]; simp
    have es : (l.set i x).flatMap enc ++ rest = (l.take i).flatMap enc ++ enc x ++ ((l.drop (i + 1)).flatMap enc ++ rest) := by
      rw [List.set_eq_take_append_cons_drop, if_pos hi]; simp
    rw [e] at h2
    show stRow ((⟨b, 0, none⟩ : Addr).add (i * sz)) (enc x).toArray m w K
    rw [add_at, Nat.zero_add]
    refine Blk.stRow h2 ?_ ?_ ?_ ?_ fun w' hb k => hK w' ⟨?_, .inr ⟨b, rest, rfl, ?_, ?_, h4⟩⟩ (k.mono fun j _ hj => ⟨_, rfl, hj.symm⟩)
    · rw [flat_len enc sz hs, List.length_take]; congr 1; omega
    · simp [hs, hm]
    · simp [hs]
    · simpa using h1
    · rw [flat_len enc sz hs, List.length_set]; exact congrArg (· * sz) hln
    · rw [es]; exact hb
    · have : ((l.set i x).flatMap enc ++ rest).length = (l.flatMap enc ++ rest).length := by simp only [List.length_append, flat_len enc sz hs, List.length_set]
      rw [this]; exact h3
end
/-- make of elements whose cells are all one value -/
theorem make_same {t e sz by_ : Nat} {v : Value} (T : SlT P t e sz by_) (hz : ((P.info? e).bind (·.zero)).map (·.cells) = some (List.replicate sz v).toArray) {w : World} {l c : Nat} (hlc : l ≤ c) (hb : by_ * c ≤ 281474976710656) (h63 : c ≤ 9223372036854775807) {K : Value → World → Prop}
    (hK : ∀ b w', Own w' e sz (some ⟨b, 0, .none⟩) l c (List.replicate (l * sz) v) → Chg None w w' → w.heap.size ≤ b → K (.slice (some ⟨b, 0, .none⟩) l c) w') : sem P (Instr.makeSlice t (.int .i64 (l : Int)) (.int .i64 (c : Int))) w K := by
  obtain ⟨i, z, hi, hzz, rfl, rfl, hzs⟩ := T.get
  have hz' : z.cells = (List.replicate i.size v).toArray := by
    rw [hi] at hz
    simpa [hzz] using hz
  have hb' : (i.bytes : Int) * (c : Int) ≤ 281474976710656 := by
    have h : ((i.bytes * c : Nat) : Int) ≤ 281474976710656 := by omega
    rwa [Int.natCast_mul] at h
  unfold sem
  rw [run_make (P := P) w t e i z T.ht hi hzz .i64 .i64 l c (by omega) (by omega) hb' (by omega)]
  simp only [Int.toNat_natCast]
  have hle : l * i.size ≤ c * i.size := Nat.mul_le_mul_right _ hlc
  have e1 : (madeCells z.cells (c * i.size)).toList = List.replicate (l * i.size) v ++ List.replicate (c * i.size - l * i.size) v := by
    rw [List.replicate_append_replicate, show l * i.size + (c * i.size - l * i.size) = c * i.size by omega]
    apply List.ext_getElem?
    intro j
    by_cases hj : j < c * i.size
    · have hp : 0 < i.size := by
        rcases Nat.eq_zero_or_pos i.size with h | h
        · rw [h, Nat.mul_zero] at hj; omega
        · exact h
      have : j % i.size < i.size := Nat.mod_lt _ hp
      simp [madeCells, hj, hz', this]
    · simp [madeCells, hj]
  refine hK _ _ ⟨by simp, .inr ⟨w.heap.size, List.replicate (c * i.size - l * i.size) v, rfl, ?_, ?_, hlc⟩⟩ (chg_alloc w _) (Nat.le_refl _)
  · have := blk_alloc (w := w) (t := e) (cs := madeCells z.cells (c * i.size))
    rw [e1] at this; exact this
  · simp only [List.length_append, List.length_replicate]; omega
end Go.Sh
/-! ## TreeMem -/
set_option maxRecDepth 10000
namespace Go.Proofs.YtccjncflbbhldaaGreatDoor
open Go.Sh Go.RowKit
open Pl (wrap_n tdiv_nat)
theorem T22 : SlT PP 38 54 32 32 := ⟨by kernel_rfl, by kernel_rfl⟩
section
variable {Q : Value → World → Prop} {w : World}
end
end Go.Proofs.YtccjncflbbhldaaGreatDoor
/-! ## TreeAdd -/
set_option maxRecDepth 10000
namespace Go.Proofs.YtccjncflbbhldaaGreatDoor
open Go.Sh Go.RowKit
open Pl (wrap_n tdiv_nat i64_and shr_nat place_word)
section
variable {Q : Value → World → Prop}
theorem nodeh_word {w : World} {k : Int} {b1 b3 : Nat} {l r : Hsh} (st : ShaStd w) (H : Hs w k b1 b3) (hQ : ∀ w', Chg None w w' → Q (.agg (hb (nodeH k l r)).toArray) w') : invk PP (fNode b3) #[.agg (hb l).toArray, .agg (hb r).toArray] w Q := by
  rw [P_inv110]
  exact nodef_word st H l.2 r.2 hQ
theorem laid_lt17 {n : Nat} (h : n ≤ 65536) : laid n ≤ 131072 := by have := laid_le n; omega
end
end Go.Proofs.YtccjncflbbhldaaGreatDoor
/-! ## TreeRoot -/
set_option maxRecDepth 10000
namespace Go.Proofs.YtccjncflbbhldaaGreatDoor
open Go.Sh Go.RowKit
open Pl (wrap_n tdiv_nat i64_and shr_nat place_word count_word filled_word peaks_word ivs iv)
section
variable {Q : Value → World → Prop} {w : World}
def atL (ls : List Hsh) (i : Nat) : Hsh := ls.getD i zeroH
theorem atL_get {ls : List Hsh} {i : Nat} (h : i < ls.length) : ls[i]? = some (atL ls i) := by simp [atL, h]
theorem recOf_laid {n : Nat} (h : n ≤ 281474976710656) : recOf (laid n) = n := recOf_eq (IsRec.mk h (Nat.le_refl _) fun _ => laid_lt (Nat.lt_succ_self _))
/-- the hash over tops -/
def foldH (k : Int) : List Hsh → Hsh
  | [] => emptyH k
  | [x] => x
  | x :: y :: l => nodeH k x (foldH k (y :: l))
theorem foldH_cons {k : Int} {x : Hsh} {l : List Hsh} (h : l ≠ []) : foldH k (x :: l) = nodeH k x (foldH k l) := by
  cases l with
  | nil => exact absurd rfl h
  | cons y l => rfl
theorem P_inv112 {k : Int} {b1 b3 : Nat} {x y : Value} {K : Value → World → Prop} : invk PP (.func (.func 73) #[.agg #[.int .i64 ((keepK k : Nat) : Int), fOf b1, fLeaf b3, fNode b3]] #[]) #[x, y] w K = C_tlog_hasher_join #[.agg #[.int .i64 ((keepK k : Nat) : Int), fOf b1, fLeaf b3, fNode b3], x, y] w K := rfl
theorem bind_word {k : Int} {b1 b3 : Nat} {l r : Hsh} (sd : ShaStd w) (H : Hs w k b1 b3) (hQ : ∀ w', Chg None w w' → Q (.agg (hb (nodeH k l r)).toArray) w') : invk PP (.func (.func 73) #[.agg #[.int .i64 ((keepK k : Nat) : Int), fOf b1, fLeaf b3, fNode b3]] #[]) #[.agg (hb l).toArray, .agg (hb r).toArray] w Q := by
  rw [P_inv112]
  refine C_tlog_hasher_join_eq _ _ _ _ _ _ _ _ ?_
  refine alC_box fun p1 w1 h1 k1 lo1 => ?_
  refine alC_box fun p3 w2 h3 k2 lo2 => ?_
  refine alC_box fun p5 w3 h5 k3 lo3 => ?_
  refine alZ_box zero29 fun p7 w4 h7 k4 lo4 => ?_
  have k14 := k2.none_trans (k3.none_trans k4)
  refine opnV_c (v := fNode b3) ((h1.chg k14 (fun h => h)).rd 3 rfl) ?_
  refine Blk.rowAll (h3.chg (k3.none_trans k4) (fun h => h)) (n := 32) (by simp [hb_len]) ?_
  refine Blk.rowAll (h5.chg k4 (fun h => h)) (n := 32) (by simp [hb_len]) ?_
  have k04 := k1.none_trans k14
  refine nodeh_word (l := l) (r := r) (sd.chg0 k04) (H.chg0 k04) fun w5 k5 => ?_
  rw [opnG_s]
  refine Blk.stAll (h7.chg k5 (fun h => h)) ?_ ?_ ?_ fun w6 h6 k6 => ?_
  · simp [hb_len]
  · simp [hb_len]
  · simpa using hb_one (nodeH k l r)
  refine Blk.rowAll h6 (n := 32) (by simp [hb_len]) ?_
  have := hQ w6 (Chg.fresh (k04.none_trans k5) k6 fun x hx => by have := (k1.none_trans (k2.none_trans k3)).size; omega)
  simpa using this
theorem foldloop {k : Int} {b1 b3 : Nat} {hs : List Hsh} {a : Option Addr} {c b4 b6 : Nat} {S : Nat → Prop} (sd : ShaStd w) (H : Hs w k b1 b3) (hl : Lies w S a (hvs hs)) (n4 : w.heap.size ≤ b4) (n6 : w.heap.size ≤ b6) (n46 : b4 ≠ b6) (h65 : hs.length ≤ 65536)
    (hQ : ∀ w', Chg None w w' → Q (.agg (hb (foldH k hs)).toArray) w') :
    ∀ (i : Nat) (w1 : World), i < hs.length → (∃ o4, Blk w1 b4 54 (hb o4)) → Blk w1 b6 54 (hb (foldH k (hs.drop i))) → Chg None w w1 →
    N_tlog_fold.j4 Q a hs.length c (.func (.func 73) #[.agg #[.int .i64 ((keepK k : Nat) : Int), fOf b1, fLeaf b3, fNode b3]] #[]) ⟨b4, 0, none⟩ ⟨b6, 0, none⟩ ((i : Int) - 1) w1 := by
  intro i
  induction i with
  | zero =>
    intro w1 hi ⟨o4, h4⟩ h6 k1
    refine N_tlog_fold.j4_eq (h := c_f (by simp) ?_)
    refine Blk.rowAll h6 (n := 32) (by simp [hb_len]) ?_
    refine Blk.stAll h4 ?_ ?_ ?_ fun w2 h2 k2 => ?_
    · simp [hb_len]
    · simp [hb_len]
    · simpa using hb_one _
    refine Blk.rowAll h2 (n := 32) (by simp [hb_len]) ?_
    have := hQ w2 (Chg.fresh k1 k2 fun x hx => by omega)
    simpa using this
  | succ i ih =>
    intro w1 hi ⟨o4, h4⟩ h6 k1
    refine N_tlog_fold.j4_eq (h := c_t (by rw [decide_eq_true]; omega) ?_)
    rw [drw_s]
    have h4' := h4.chg (Chg.drew0 (D := None) w1) (fun h => h)
    have h6' := h6.chg (Chg.drew0 (D := None) w1) (fun h => h)
    have k2 := k1.none_trans (Chg.drew0 (D := None) w1)
    generalize w1.drew = w2 at h4' h6' k2
    have e1 : (((i + 1 : Nat) : Int) - 1) = (i : Int) := by omega
    rw [e1]
    refine ⟨by omega, by omega, ?_⟩
    rw [Int.toNat_natCast]
    refine rd_row hb_len (by decide) (hl.chg0 k2) (atL_get (ls := hs) (i := i) (by omega)) (n := 32 * 1) rfl ?_
    refine Blk.rowAll h6' (n := 32) (by simp [hb_len]) ?_
    refine bind_word (l := atL hs i) (r := foldH k (hs.drop (i + 1))) (sd.chg0 k2) (H.chg0 k2) fun w3 k3 => ?_
    rw [opnG_s]
    refine Blk.stAll (h6'.chg k3 (fun h => h)) ?_ ?_ ?_ fun w4 h6b k4 => ?_
    · simp [hb_len]
    · simp [hb_len]
    · simpa using hb_one _
    rw [wrap_id (by omega) (by omega)]
    have ed : hs.drop i = atL hs i :: hs.drop (i + 1) := by
      rw [List.drop_eq_getElem_cons (show i < hs.length by omega)]; simp [atL, show i < hs.length by omega]
    have ef : foldH k (hs.drop i) = nodeH k (atL hs i) (foldH k (hs.drop (i + 1))) := by
      rw [ed, foldH_cons]
      intro h
      have := congrArg List.length h
      simp at this
      omega
    refine ih w4 (by omega) ⟨o4, (h4'.chg k3 (fun h => h)).chg k4 n46⟩ ?_ (Chg.fresh (k2.none_trans k3) k4 fun x hx => by omega)
    rw [ef]; simpa using h6b
theorem zero29h : ((PP.info? 54).bind (·.zero)).map (·.cells) = some (hb zeroH).toArray := by kernel_rfl
theorem root_word {k : Int} {b1 b3 : Nat} {hs : List Hsh} {a : Option Addr} {c : Nat} {S : Nat → Prop} (sd : ShaStd w) (H : Hs w k b1 b3) (hl : Lies w S a (hvs hs)) (h65 : hs.length ≤ 65536)
    (hQ : ∀ w', Chg None w w' → Q (.agg (hb (foldH k hs)).toArray) w') :
    C_tlog_hasher_root #[.agg #[.int .i64 ((keepK k : Nat) : Int), fOf b1, fLeaf b3, fNode b3], .slice a hs.length c] w Q := by
  refine C_tlog_hasher_root_eq _ _ _ _ _ _ _ _ _ ?_
  refine alC_box fun p1 w1 h1 k1 lo1 => ?_
  refine alZ_box zero29h fun p3 w2 h3 k2 lo2 => ?_
  have h1' := h1.chg k2 (fun h => h)
  have k02 := k1.none_trans k2
  have h3' : Blk w2 p3 54 (hb zeroH) := by simpa using h3
  have n13 := k1.size
  by_cases g : hs.length = 0
  · refine c_t (by rw [g]; rfl) ?_
    refine opnV_c (v := fOf b1) (h1'.rd 1 rfl) ?_
    rw [P_inv107]
    have := of_word (Q := fun v6 w7 => opnG (some v6) fun x8 => stRow ⟨p3, 0, none⟩ x8 (32 * 1) w7 fun w9 => opnRow w9 ⟨p3, 0, none⟩ (32 * 1) fun x10 => Q (.agg x10) w9) (k := k) (p := []) (a := none) (c := 0) (S := fun _ => True) (sd.chg0 k02) (H.chg0 k02) Lies.nil (by decide) (by decide) fun w3 k3 => by
      rw [opnG_s]
      refine Blk.stAll (h3'.chg k3 (fun h => h)) ?_ ?_ ?_ fun w4 h4 k4 => ?_
      · exact hb_len (emptyH k)
      · exact (hb_len (emptyH k)).trans (hb_len zeroH).symm
      · exact hb_one (emptyH k)
      refine Blk.rowAll h4 (n := 32) (hb_len (emptyH k)) ?_
      have e : hs = [] := List.eq_nil_of_length_eq_zero g
      have := hQ w4 (Chg.fresh (k02.none_trans k3) k4 fun x hx => by omega)
      rw [e] at this
      exact this
    exact this
  · refine c_f (by simp only [beq_eq_false_iff_ne, ne_eq]; omega) ?_
    refine opnI_c (h1'.rd 0 rfl) (opnV_c (v := fOf b1) (h1'.rd 1 rfl) (opnV_c (v := fLeaf b3) (h1'.rd 2 rfl) (opnV_c (v := fNode b3) (h1'.rd 3 rfl) ?_)))
    refine C_tlog_fold_eq _ _ _ _ _ _ ?_
    refine alZ_box zero29h fun p5 w3 h5 k3 lo3 => ?_
    have el : IntKind.wrap .i64 (((hs.length : Nat) : Int) - 1) = ((hs.length - 1 : Nat) : Int) := by rw [wrap_id (by omega) (by omega)]; omega
    rw [el]
    refine ⟨by omega, by omega, ?_⟩
    rw [Int.toNat_natCast]
    have k03 := k02.none_trans k3
    refine rd_row hb_len (by decide) (hl.chg0 k03) (atL_get (ls := hs) (i := hs.length - 1) (by omega)) (n := 32 * 1) rfl ?_
    refine alZ_box zero29h fun p6 w4 h6 k4 lo4 => ?_
    refine Blk.stAll h6 ?_ ?_ ?_ fun w5 h6b k5 => ?_
    · simp [hb_len]
    · simp [hb_len]
    · simpa using hb_one _
    rw [wrap_id (n := ((hs.length - 1 : Nat) : Int) - 1) (by omega) (by omega)]
    have s3 := k3.size
    have s2 := k2.size
    have l5 := h5.lt
    have n56 : p5 ≠ p6 := by omega
    have k25 := Chg.fresh (k3.none_trans k4) k5 fun x hx => by omega
    have l3 := h3'.lt
    refine foldloop (w := w2) (sd.chg0 k02) (H.chg0 k02) (hl.chg0 k02) (by omega) (by omega) n56 h65 (fun w6 k6 => ?_) (hs.length - 1) w5 (by omega) ⟨zeroH, by simpa using (h5.chg k4 (fun h => h)).chg k5 n56⟩ ?_ k25
    · rw [opnG_s]
      refine Blk.stAll (h3'.chg k6 (fun h => h)) ?_ ?_ ?_ fun w7 h7 k7 => ?_
      · simp [hb_len]
      · simp [hb_len]
      · simpa using hb_one _
      refine Blk.rowAll h7 (n := 32) (by simp [hb_len]) ?_
      have := hQ w7 (Chg.fresh (k02.none_trans k6) k7 fun x hx => by omega)
      simpa using this
    · have ed : hs.drop (hs.length - 1) = [atL hs (hs.length - 1)] := by
        rw [List.drop_eq_getElem_cons (show hs.length - 1 < hs.length by omega), List.drop_eq_nil_of_le (by omega)]; simp [atL, show hs.length - 1 < hs.length by omega]
      rw [ed]; simpa [foldH] using h6b
end
end Go.Proofs.YtccjncflbbhldaaGreatDoor
/-! ## TreeAll -/
set_option maxRecDepth 10000
namespace Go.Proofs.YtccjncflbbhldaaGreatDoor
open Go.Sh Go.RowKit
open Pl (wrap_n tdiv_nat i64_and shr_nat place_word count_word filled_word peaks_word ivs iv)
theorem place_lt_laid {n m j : Nat} (h : (j + 1) * 2 ^ m ≤ n) : placeOf m j < laid n := by
  have h1 := laid_step m (j + 1) (by omega)
  have h2 := laid_mono h
  unfold placeOf
  omega
theorem peak_node {n m : Nat} (hb : n / 2 ^ m % 2 = 1) : (n / 2 ^ (m + 1) * 2 + 1) * 2 ^ m ≤ n := by
  have e : n / 2 ^ (m + 1) * 2 + 1 = n / 2 ^ m := by
    rw [Nat.pow_succ, ← Nat.div_div_eq_div_mul]; omega
  rw [e]
  exact Nat.div_mul_le_self _ _
theorem peaksTo_lt {n : Nat} : ∀ m, ∀ p ∈ peaksTo n m, p < laid n
  | 0, p, h => by simp [peaksTo] at h
  | m + 1, p, h => by
    unfold peaksTo at h
    split at h
    · next hb =>
      rcases List.mem_cons.1 h with rfl | h
      · exact place_lt_laid (peak_node hb)
      · exact peaksTo_lt m p h
    · exact peaksTo_lt m p h
theorem peaksOf_lt {n N p : Nat} (hn : n ≤ N) (h : p ∈ peaksOf n) : p < laid N := by
  have := peaksTo_lt 49 p h
  have := laid_mono hn
  omega
section
variable {Q : Value → World → Prop} {w : World}
theorem hvs_zero (n : Nat) : hvs (List.replicate n zeroH) = List.replicate (n * 32) (.int .u8 0) := by
  have h0 : hb zeroH = List.replicate 32 (Value.int .u8 0) := by rw [hb, zeroH, bvs, List.map_replicate]; rfl
  induction n with
  | zero => rfl
  | succ n ih => rw [List.replicate_succ, hvs, List.flatMap_cons]; show hb zeroH ++ hvs (List.replicate n zeroH) = _; rw [h0, ih, List.replicate_append_replicate]; congr 1; omega
theorem rd_int {S : Nat → Prop} {a : Option Addr} {l : List Nat} (h : Lies w S a (ivs l)) {i x : Nat} (hx : l[i]? = some x) {K : Int → Prop} (hK : K (x : Int)) : opnA a fun ad => opnI .i64 (w.cell? (ad.add (i * 1))) K := by
  obtain ⟨p, rfl, _, hc⟩ := h i (iv x) (by simp [ivs, hx])
  rw [opnA_e, Nat.mul_one]
  exact opnI_c hc hK
/-- the root of the first n records -/
def rootH (k : Int) (st : List Hsh) (n : Nat) : Hsh := foldH k ((peaksOf n).map (atL st))
theorem numw {n : Int} (h : Q (.int .i64 n) w) : C_l10_num #[.int .i64 n] w Q := C_l10_num_eq _ _ _ h
/-- the leaves of the statements' tree -/
def leafOf (k : Int) (salt : UInt8) (i : Nat) : Hsh := leafH k [UInt8.ofNat i, UInt8.ofNat (i / 256), salt]
def leavesOf (k : Int) (salt : UInt8) (n : Nat) : List Hsh := (List.range n).map (leafOf k salt)
theorem leavesOf_succ (k : Int) (salt : UInt8) (n : Nat) : leavesOf k salt (n + 1) = leavesOf k salt n ++ [leafOf k salt n] := by simp [leavesOf, List.range_succ]
theorem leavesOf_len (k : Int) (salt : UInt8) (n : Nat) : (leavesOf k salt n).length = n := by simp [leavesOf]
theorem leavesOf_at (k : Int) (salt : UInt8) (n j : Nat) (h : j < n) : atL (leavesOf k salt n) j = leafOf k salt j := by simp [atL, leavesOf, h]
end
end Go.Proofs.YtccjncflbbhldaaGreatDoor
/-! ## FromTree -/
set_option maxRecDepth 10000
namespace Go.Proofs.YtccjncflbbhldaaGreatDoor
open Go.Sh Go.RowKit
open Pl (wrap_n tdiv_nat i64_and shr_nat shl_nat nn_nat wid cnt width_word index_word wrap_mul idxOk)
open Go.ChangeShapes (block_add)
def bytesOf (l : List Hsh) : List UInt8 := l.flatMap (·.1)
theorem bvs_bytesOf (l : List Hsh) : bvs (bytesOf l) = hvs l := by
  induction l with
  | nil => rfl
  | cons x l ih => rw [bytesOf, List.flatMap_cons, bvs_app]; show _ ++ bvs (bytesOf l) = _; rw [ih]; rfl
theorem bytesOf_len (l : List Hsh) : (bytesOf l).length = 32 * l.length := by
  have := congrArg List.length (bvs_bytesOf l)
  rw [bvs_len, hvs_len] at this; omega
/-- the hashes of a tile -/
def tileHs (st : List Hsh) (h l n wd : Nat) : List Hsh := (List.range wd).map fun i => atL st (placeOf (h * l) (n * 2 ^ h + i))
theorem tileHs_len (st : List Hsh) (h l n wd : Nat) : (tileHs st h l n wd).length = wd := by simp [tileHs]
theorem tileHs_succ (st : List Hsh) (h l n wd : Nat) : tileHs st h l n (wd + 1) = tileHs st h l n wd ++ [atL st (placeOf (h * l) (n * 2 ^ h + wd))] := by simp [tileHs, List.range_succ]
theorem okT_nat {t : Tl} (h : okT t) : ∃ h l n wd : Nat, t = ⟨h, l, n, wd, t.D⟩ ∧ 1 ≤ h ∧ h ≤ 8 ∧ 1 ≤ wd ∧ wd ≤ 2 ^ h ∧ h * l ≤ 48 ∧ (n * 2 ^ h + wd) * 2 ^ (h * l) ≤ 281474976710656 := by
  obtain ⟨h1, h2, h3, h4, h5, h6, h7, h8, h9⟩ := h
  obtain ⟨H, L, N, W, D⟩ := t
  simp only at h1 h2 h3 h4 h5 h6 h7 h8 h9
  obtain ⟨h, rfl⟩ := Int.eq_ofNat_of_zero_le (show 0 ≤ H by omega)
  obtain ⟨l, rfl⟩ := Int.eq_ofNat_of_zero_le h5
  obtain ⟨n, rfl⟩ := Int.eq_ofNat_of_zero_le h6
  obtain ⟨wd, rfl⟩ := Int.eq_ofNat_of_zero_le (show 0 ≤ W by omega)
  have e : ((h : Int) * (l : Int)).toNat = h * l := by rw [← Int.natCast_mul, Int.toNat_natCast]
  rw [e] at h9
  rw [Int.toNat_natCast] at h4 h9
  have e8 : h * l ≤ 48 := by rw [← Int.natCast_mul] at h8; omega
  refine ⟨h, l, n, wd, rfl, by omega, by omega, by omega, ?_, e8, ?_⟩
  · have : ((2 ^ h : Nat) : Int) = (2 : Int) ^ h := by simp
    omega
  · have e2 : (n : Int) * 2 ^ h + (wd : Int) = ((n * 2 ^ h + wd : Nat) : Int) := by simp
    have e3 : (281474976710656 : Int) / 2 ^ (h * l) = ((281474976710656 / 2 ^ (h * l) : Nat) : Int) := by simp
    rw [e2, e3] at h9
    have h10 : n * 2 ^ h + wd ≤ 281474976710656 / 2 ^ (h * l) := by omega
    exact Nat.le_trans (Nat.mul_le_mul_right _ h10) (Nat.div_mul_le_self _ _)
/-- a tile no wider than it is in the tree: its nodes are there -/
theorem wid_fits {h l n wd size : Nat} (h1 : 1 ≤ wd) (hw : wd ≤ wid h l n size) : (n * 2 ^ h + wd) * 2 ^ (h * l) ≤ size := by
  unfold wid at hw
  split at hw
  · omega
  · split at hw
    · omega
    · have : n * 2 ^ h + wd ≤ cnt h l size := by omega
      unfold cnt at this
      exact Nat.le_trans (Nat.mul_le_mul_right _ this) (Nat.div_mul_le_self _ _)
section
variable {Q : Value → World → Prop} {w : World}
theorem lies_row {S : Nat → Prop} {p : Addr} {l : List Hsh} (h : Lies w S (some p) (hvs l)) {i : Nat} {x : Hsh} (hx : l[i]? = some x) : Lies w S (some (p.add (i * 32))) (hb x) := fun j v hv => by
  have hj : j < 32 := by have := (List.getElem?_eq_some_iff.1 hv).1; rwa [hb_len] at this
  obtain ⟨q, hq, hS, hc⟩ := h (i * 32 + j) v (by rw [flat_get hb 32 hb_len l _ j x hx hj]; exact hv)
  cases hq
  exact ⟨_, rfl, by rw [block_add]; exact hS, by rw [add_add']; exact hc⟩
end
end Go.Proofs.YtccjncflbbhldaaGreatDoor
/-! ## Joined -/
set_option maxRecDepth 10000
namespace Go.Proofs.YtccjncflbbhldaaGreatDoor
open Go.Sh Go.RowKit
open Pl (wrap_n tdiv_nat i64_and shr_nat shl_nat nn_nat one_shl)
theorem hvs_drop (hs : List Hsh) (j : Nat) : (hvs hs).drop (j * 32) = hvs (hs.drop j) := by
  rcases Nat.lt_or_ge hs.length j with g | g
  · rw [List.drop_eq_nil_of_le (by rw [hvs_len]; omega), show hs.drop j = [] from List.drop_eq_nil_of_le (by omega)]; rfl
  · have h : hvs hs = hvs (hs.take j) ++ hvs (hs.drop j) := by
      have := congrArg hvs (List.take_append_drop j hs).symm
      rw [this, hvs, List.flatMap_append]
    rw [h, List.drop_append_of_le_length (by rw [hvs_len, List.length_take]; omega), List.drop_eq_nil_of_le (by rw [hvs_len, List.length_take]; omega), List.nil_append]
theorem slA_zero (a : Option Addr) (c sz : Nat) : slA a 0 c sz = a := by
  unfold slA
  split
  · rfl
  · cases a with
    | none => rfl
    | some p => simp [add_zero]
section
variable {Q : Value → World → Prop} {w : World}
theorem Own.less {e sz n c m : Nat} {a : Option Addr} {l : List Value} (h : Own w e sz a n c l) (hm : m ≤ n) : Own w e sz a m c (l.take (m * sz)) := by
  have hl := h.len
  have hle : m * sz ≤ n * sz := Nat.mul_le_mul_right _ hm
  refine ⟨by rw [List.length_take]; omega, ?_⟩
  rcases h.row with ⟨h1, h2, h3⟩ | ⟨b, rest, h1, h2, h3, h4⟩
  · exact .inl ⟨h1, by omega, h3⟩
  · refine .inr ⟨b, l.drop (m * sz) ++ rest, h1, ?_, ?_, by omega⟩
    · rw [← List.append_assoc, List.take_append_drop]; exact h2
    · rw [← List.append_assoc, List.take_append_drop]; exact h3
/-- a row out of bytes -/
theorem rd_cut {S : Nat → Prop} {a : Option Addr} {hs : List Hsh} {c j : Nat} (h : Lies w S a (hvs hs)) (hj : j < hs.length) (hc : 32 * hs.length ≤ c) {K : Array Value → Prop} (hK : K (hb (atL hs j)).toArray) : opnA (slA a (32 * j) c 1) fun ad => opnRow w ad (32 * 1) K := by
  have h2 := h.slA (32 * j) c
  rw [if_neg (by omega)] at h2
  have e : (hvs hs).drop (32 * j) = hb (atL hs j) ++ hvs (hs.drop (j + 1)) := by
    rw [Nat.mul_comm, hvs_drop, List.drop_eq_getElem_cons hj, hvs, List.flatMap_cons]
    simp [atL, hj]
  rw [e] at h2
  obtain ⟨p, hp⟩ := h2.some (j := 0) (by rw [List.length_append, hb_len]; omega)
  rw [hp] at h2 ⊢
  rw [opnA_e]
  refine row_c (hb_len _) (fun i v hv => ?_) hK
  obtain ⟨q, hq, _, hcell⟩ := h2 i v (by rw [List.getElem?_append_left (List.getElem?_eq_some_iff.1 hv).1]; exact hv)
  cases hq
  exact hcell
theorem pairloop {k : Int} {b8 : Nat} {b n c : Nat} {l : List Hsh} {g : Nat → Hsh} {w0 : World} (sd : ShaStd w0) (hn : l.length = 2 * n) (hn8 : n ≤ 128) (hb0 : w0.heap.size ≤ b) (hg : ∀ i, i < n → g i = nodeH k (atL l (2 * i)) (atL l (2 * i + 1)))
    (hQ : ∀ l' w', l'.length = 2 * n → (∀ i, i < n → atL l' i = g i) → Own w' 54 32 (some ⟨b, 0, none⟩) (2 * n) c (hvs l') → Chg None w0 w' → N_tile_joined.j7 Q k ⟨b8, 0, none⟩ (some ⟨b, 0, none⟩) n c w') (hnc : n ≤ c) :
    ∀ (d i : Nat) (l' : List Hsh) (w1 : World), i + d = n → l'.length = 2 * n → (∀ j, j < i → atL l' j = g j) → (∀ j, i ≤ j → atL l' j = atL l j) → Own w1 54 32 (some ⟨b, 0, none⟩) (2 * n) c (hvs l') → Chg None w0 w1 →
    N_tile_joined.j9 Q k ⟨b8, 0, none⟩ (some ⟨b, 0, none⟩) (2 * n) c (n : Int) (i : Int) w1 := by
  intro d
  induction d with
  | zero =>
    intro i l' w1 hi hl hd _ o k1
    have hi' : i = n := by omega
    subst hi'
    have e : IntKind.wrap .i64 (Int.tdiv ((2 * i : Nat) : Int) 2) = (i : Int) := by
      have := tdiv_nat (2 * i) 2
      rw [show ((2 : Nat) : Int) = 2 from rfl] at this
      rw [this, wrap_n _ (by omega)]; omega
    refine N_tile_joined.j9_eq (h := c_nlt (by omega) ⟨by decide, ?_⟩)
    rw [e]
    refine ⟨by omega, by omega, ?_⟩
    rw [slA_zero, Int.toNat_natCast]
    exact hQ l' w1 hl hd o k1
  | succ d ih =>
    intro i l' w1 hi hl hd hr o k1
    refine N_tile_joined.j9_eq (h := c_lt (by omega) ?_)
    rw [drw_s]
    have k2 := k1.none_trans (Chg.drew0 (D := None) w1)
    have o2 := o.chg0 (Chg.drew0 (D := None) w1)
    generalize w1.drew = w2 at k2 o2
    have e1 : IntKind.wrap .i64 (2 * (i : Int)) = ((2 * i : Nat) : Int) := by rw [wrap_id (by omega) (by omega)]; omega
    have e2 : IntKind.wrap .i64 (((2 * i : Nat) : Int) + 1) = ((2 * i + 1 : Nat) : Int) := wrap_nat (by omega)
    rw [e1, e2, opnA_e, opnA_e, Int.toNat_natCast, Int.toNat_natCast]
    refine ⟨by omega, by omega, by omega, by omega, ?_⟩
    refine rd_rowP hb_len o2.lies (atL_get (ls := l') (i := 2 * i) (by omega)) (n := 32 * 1) rfl ?_
    refine rd_rowP hb_len o2.lies (atL_get (ls := l') (i := 2 * i + 1) (by omega)) (n := 32 * 1) rfl ?_
    refine node_word (sd.chg0 k2) (atL l' (2 * i)).2 (atL l' (2 * i + 1)).2 fun w3 k3 => ?_
    rw [opnG_s]
    refine ⟨by omega, by omega, ?_⟩
    rw [Int.toNat_natCast]
    refine st_row hb_len (o2.chg0 k3) (i := i) (by omega) (nodeH k (atL l' (2 * i)) (atL l' (2 * i + 1))) (by decide) (hb_one _) (m := 32 * 1) rfl fun w4 o4 k4 => ?_
    rw [wrap_nat (by omega)]
    refine ih (i + 1) _ w4 (by omega) (by simpa using hl) (fun j hj => ?_) (fun j hj => ?_) o4 (Chg.fresh (k2.none_trans k3) k4 fun x ⟨q, hq, hx⟩ => by cases hq; subst hx; exact hb0)
    · rcases Nat.lt_or_ge j i with g1 | g1
      · rw [atL, List.getD_eq_getElem?_getD, List.getElem?_set_ne (by omega), ← List.getD_eq_getElem?_getD]; exact hd j g1
      · have e : j = i := by omega
        subst e
        rw [atL, List.getD_eq_getElem?_getD, List.getElem?_set_self (by omega), hg j (by omega), hr (2 * j) (by omega), hr (2 * j + 1) (by omega)]; rfl
    · rw [atL, List.getD_eq_getElem?_getD, List.getElem?_set_ne (by omega), ← List.getD_eq_getElem?_getD]; exact hr j (by omega)
theorem atL_take {l : List Hsh} {m i : Nat} (h : i < m) : atL (l.take m) i = atL l i := by
  rw [atL, atL, List.getD_eq_getElem?_getD, List.getD_eq_getElem?_getD, List.getElem?_take, if_pos h]
theorem hvs_take (l : List Hsh) (m : Nat) : (hvs l).take (m * 32) = hvs (l.take m) := by
  rcases Nat.lt_or_ge l.length m with g | g
  · rw [List.take_of_length_le (by rw [hvs_len]; omega), show l.take m = l from List.take_of_length_le (by omega)]
  · have h : hvs l = hvs (l.take m) ++ hvs (l.drop m) := by
      have := congrArg hvs (List.take_append_drop m l).symm
      rw [this, hvs, List.flatMap_append]
    rw [h, List.take_append_of_le_length (by rw [hvs_len, List.length_take]; omega), List.take_of_length_le (by rw [hvs_len, List.length_take]; omega)]
theorem halfloop {k : Int} {f : Nat → Hsh} {b8 b folds : Nat} {w0 : World} (sd : ShaStd w0) (hb0 : w0.heap.size ≤ b) (h80 : Blk w0 b8 54 (hb zeroH)) {wb : World} (kb : Chg None wb w0) (lo8 : wb.heap.size ≤ b8) (hf8 : folds ≤ 8)
    (hQ : ∀ w', Chg None wb w' → Q (.agg (hb (nodeAt k f folds 0)).toArray) w') :
    ∀ (r : Nat) (c : Nat) (l : List Hsh) (w1 : World), r ≤ folds → l.length = 2 ^ r → (∀ i, i < 2 ^ r → atL l i = nodeAt k f (folds - r) i) → Own w1 54 32 (some ⟨b, 0, none⟩) (2 ^ r) c (hvs l) → Chg None w0 w1 →
    N_tile_joined.j7 Q k ⟨b8, 0, none⟩ (some ⟨b, 0, none⟩) (2 ^ r) c w1 := by
  intro r
  induction r with
  | zero =>
    intro c l w1 hr hl hn o k1
    refine N_tile_joined.j7_eq (h := c_ngt (by decide) ⟨by decide, by decide, ?_⟩)
    have h0 := hn 0 (by decide)
    rw [Nat.sub_zero] at h0
    refine rd_row hb_len (by decide) o.lies (i := 0) (atL_get (ls := l) (i := 0) (by rw [hl]; decide)) (n := 32 * 1) rfl ?_
    rw [h0]
    refine Blk.stAll (h80.chg k1 (fun h => h)) ?_ ?_ ?_ fun w2 h2 k2 => ?_
    · simp [hb_len]
    · simp [hb_len]
    · simpa using hb_one _
    refine Blk.rowAll h2 (n := 32) (by simp [hb_len]) ?_
    have := hQ w2 (Chg.fresh (kb.none_trans k1) k2 fun x hx => by omega)
    simpa using this
  | succ r ih =>
    intro c l w1 hr hl hn o k1
    have hp : 1 ≤ 2 ^ r := Nat.pow_pos (by decide)
    have e2 : 2 ^ (r + 1) = 2 * 2 ^ r := by rw [Nat.pow_succ, Nat.mul_comm]
    have h128 : 2 ^ r ≤ 2 ^ 7 := Nat.pow_le_pow_right (by decide) (by omega)
    rw [e2] at hl hn o ⊢
    refine N_tile_joined.j7_eq (h := c_gt (by omega) ⟨by decide, ?_⟩)
    have e : IntKind.wrap .i64 (Int.tdiv ((2 * 2 ^ r : Nat) : Int) 2) = ((2 ^ r : Nat) : Int) := by
      have := tdiv_nat (2 * 2 ^ r) 2
      rw [show ((2 : Nat) : Int) = 2 from rfl] at this
      rw [this, wrap_n _ (by omega)]; omega
    rw [e]
    refine pairloop (g := nodeAt k f (folds - r)) sd hl (by omega) hb0 (fun i hi => ?_) (fun l' w2 hl' hd' o' k2 => ?_) (by have := o.le; omega) (2 ^ r) 0 l w1 (by omega) hl (fun j hj => by omega) (fun j hj => rfl) o k1
    · rw [hn (2 * i) (by omega), hn (2 * i + 1) (by omega), show folds - r = (folds - (r + 1)) + 1 by omega]; rfl
    · refine ih c (l'.take (2 ^ r)) w2 (by omega) (by rw [List.length_take]; omega) (fun i hi => by rw [atL_take hi]; exact hd' i hi) ?_ k2
      rw [← hvs_take]
      exact Own.less o' (by omega)
theorem copyloop {k : Int} {hs : List Hsh} {a1 : Option Addr} {c1 first b8 b m c : Nat} {S : Nat → Prop} {w0 : World} (hl : Lies w0 S a1 (hvs hs)) (hc : 32 * hs.length ≤ c1) (hfit : first + m ≤ hs.length) (h56 : hs.length ≤ 65536) (hb0 : w0.heap.size ≤ b)
    (hQ : ∀ l w', l.length = m → (∀ i, i < m → atL l i = atL hs (first + i)) → Own w' 54 32 (some ⟨b, 0, none⟩) m c (hvs l) → Chg None w0 w' → N_tile_joined.j7 Q k ⟨b8, 0, none⟩ (some ⟨b, 0, none⟩) m c w') :
    ∀ (d i : Nat) (l : List Hsh) (w1 : World), i + d = m → l.length = m → (∀ j, j < i → atL l j = atL hs (first + j)) → Own w1 54 32 (some ⟨b, 0, none⟩) m c (hvs l) → Chg None w0 w1 →
    N_tile_joined.j3 Q k a1 (32 * hs.length) c1 (first : Int) ⟨b8, 0, none⟩ (some ⟨b, 0, none⟩) m c (m : Int) (i : Int) w1 := by
  intro d
  induction d with
  | zero =>
    intro i l w1 hi hll hd o k1
    have hi' : i = m := by omega
    subst hi'
    exact N_tile_joined.j3_eq (h := c_nlt (by omega) (hQ l w1 hll hd o k1))
  | succ d ih =>
    intro i l w1 hi hll hd o k1
    refine N_tile_joined.j3_eq (h := c_lt (by omega) ?_)
    have e1 : IntKind.wrap .i64 ((first : Int) + (i : Int)) = ((first + i : Nat) : Int) := by rw [wrap_id (by omega) (by omega)]; omega
    have e2 : IntKind.wrap .i64 (32 * ((first + i : Nat) : Int)) = ((32 * (first + i) : Nat) : Int) := by rw [wrap_id (by omega) (by omega)]; omega
    rw [e1, e2, Int.toNat_natCast]
    refine ⟨by omega, by omega, by omega, ?_⟩
    refine rd_cut (hl.chg0 k1) (by omega) hc ⟨by omega, by omega, ?_⟩
    rw [Int.toNat_natCast]
    refine st_row hb_len o (i := i) (by omega) (atL hs (first + i)) (by decide) (hb_one _) (m := 32 * 1) rfl fun w2 o2 k2 => ?_
    rw [wrap_nat (by omega)]
    refine ih (i + 1) _ w2 (by omega) (by simpa using hll) (fun j hj => ?_) o2 (Chg.fresh k1 k2 fun x ⟨q, hq, hx⟩ => by cases hq; subst hx; exact hb0)
    rcases Nat.lt_or_ge j i with g1 | g1
    · rw [atL, List.getD_eq_getElem?_getD, List.getElem?_set_ne (by omega), ← List.getD_eq_getElem?_getD]; exact hd j g1
    · have e : j = i := by omega
      subst e
      rw [atL, List.getD_eq_getElem?_getD, List.getElem?_set_self (by omega)]; rfl
/-- the hash over 2^folds hashes of a tile -/
theorem joined_word {k : Int} {hs : List Hsh} {a1 : Option Addr} {c1 first folds : Nat} {S : Nat → Prop} (sd : ShaStd w) (hl : Lies w S a1 (hvs hs)) (hc : 32 * hs.length ≤ c1) (hf8 : folds ≤ 8) (hfit : first + 2 ^ folds ≤ hs.length) (h56 : hs.length ≤ 65536)
    (hQ : ∀ w', Chg None w w' → Q (.agg (hb (nodeAt k (fun i => atL hs (first + i)) folds 0)).toArray) w') :
    C_tile_joined #[.int .i64 k, .slice a1 (32 * hs.length) c1, .int .i64 (first : Int), .int .i64 (folds : Int)] w Q := by
  refine C_tile_joined_eq _ _ _ _ _ _ _ _ ?_
  refine alZ_box zero29h fun b8 w1 h1 k1 lo1 => ?_
  refine nn_nat ?_
  rw [one_shl hf8]
  have hp8 : 2 ^ folds ≤ 2 ^ 8 := Nat.pow_le_pow_right (by decide) hf8
  refine make_same T22 (v := .int .u8 0) zero29 (Nat.le_refl _) (by omega) (by omega) fun b w2 o2 k2 lo2 => ?_
  rw [opnL_s, ← hvs_zero] at *
  refine copyloop (w0 := w1) (m := 2 ^ folds) (hl.chg0 k1) hc hfit h56 lo2 (fun l w3 hll hd o3 k3 => ?_) (2 ^ folds) 0 _ w2 (by omega) (by simp) (fun j hj => by omega) o2 k2
  exact halfloop (f := fun i => atL hs (first + i)) (folds := folds) (sd.chg0 k1) lo2 (by simpa using h1) k1 lo1 hf8 hQ folds _ l w3 (Nat.le_refl _) hll (fun i hi => by rw [Nat.sub_self]; exact hd i hi) o3 k3
end
end Go.Proofs.YtccjncflbbhldaaGreatDoor
/-! ## Inside -/
set_option maxRecDepth 10000
namespace Go.Proofs.YtccjncflbbhldaaGreatDoor
open Go.Sh Go.RowKit
open Pl (seat_word opn_seat tlOf firstOf foldOf fold_lt E24p eqTl eqTl_f eqTl_iff)
theorem run29 (w : World) : (Instr.build 54 #[]).run PP w = .ok (.agg (hb zeroH).toArray) w := run_build w 54 _ _ (by kernel_rfl)
theorem build29 {K : Value → Prop} : semP PP (Instr.build 54 #[]) K = K (.agg (hb zeroH).toArray) := by
  unfold semP
  rw [run29]
/-- the tile of a place is this one, and wide enough -/
def inT (t : Tl) (c : Nat) : Prop := (tlOf t.H.toNat c).W ≤ t.W ∧ { tlOf t.H.toNat c with W := t.W } = t
section
variable {Q : Value → World → Prop} {w : World}
theorem st_zero {b8 : Nat} {w1 : World} {o : Hsh} {x : Hsh} {e : Int} (h1 : Blk w1 b8 54 (hb o)) (hQ : ∀ w2, Chg (fun k => k = b8) w1 w2 → Q (.tuple #[.agg (hb x).toArray, .int .i64 e]) w2) : stRow ⟨b8, 0, none⟩ (hb x).toArray (32 * 1) w1 fun w18 => opnRow w18 ⟨b8, 0, none⟩ (32 * 1) fun x19 => Q (.tuple #[.agg x19, .int .i64 e]) w18 := by
  refine Blk.stAll h1 ?_ ?_ ?_ fun w2 h2 k2 => ?_
  · simp [hb_len]
  · simp [hb_len]
  · simpa using hb_one _
  refine Blk.rowAll h2 (n := 32) (by simp [hb_len]) ?_
  simpa using hQ w2 k2
end
end Go.Proofs.YtccjncflbbhldaaGreatDoor
/-! ## WidthsPure -/
namespace Go.Proofs.YtccjncflbbhldaaGreatDoor
open Go.Sh Go.RowKit
open Pl (tlOf firstOf foldOf atOf fold_lt wid cnt)
theorem okT_mk {h l n wd : Nat} (b1 : 1 ≤ h) (b2 : h ≤ 8) (b3 : 1 ≤ wd) (b4 : wd ≤ 2 ^ h) (b5 : h * l ≤ 48) (b6 : (n * 2 ^ h + wd) * 2 ^ (h * l) ≤ 281474976710656) : okT ⟨h, l, n, wd, false⟩ := by
  have e : ((h : Int) * (l : Int)).toNat = h * l := by rw [← Int.natCast_mul, Int.toNat_natCast]
  have e1 : ((2 ^ h : Nat) : Int) = (2 : Int) ^ h := by simp
  refine ⟨by show (1 : Int) ≤ (h : Int); omega, by show (h : Int) ≤ 8; omega, by show (1 : Int) ≤ (wd : Int); omega, ?_, by show (0 : Int) ≤ (l : Int); omega, by show (0 : Int) ≤ (n : Int); omega, (fun h => by cases h), ?_, ?_⟩
  · show (wd : Int) ≤ 2 ^ ((h : Int).toNat)
    rw [Int.toNat_natCast]; omega
  · show (h : Int) * (l : Int) ≤ 48
    rw [← Int.natCast_mul]; omega
  · show (n : Int) * 2 ^ ((h : Int).toNat) + (wd : Int) ≤ 281474976710656 / 2 ^ ((h : Int) * (l : Int)).toNat
    rw [e, Int.toNat_natCast]
    have e2 : (n : Int) * 2 ^ h + (wd : Int) = ((n * 2 ^ h + wd : Nat) : Int) := by simp
    have e3 : (281474976710656 : Int) / 2 ^ (h * l) = ((281474976710656 / 2 ^ (h * l) : Nat) : Int) := by simp
    rw [e2, e3]
    have := (Nat.le_div_iff_mul_le (Nat.pow_pos (n := h * l) (show 0 < 2 by decide))).2 b6
    omega
theorem nodeAt_congr {k : Int} {f g : Nat → Hsh} : ∀ (r j : Nat), (∀ i, j * 2 ^ r ≤ i → i < (j + 1) * 2 ^ r → f i = g i) → nodeAt k f r j = nodeAt k g r j
  | 0, j, h => h j (by omega) (by omega)
  | r + 1, j, h => by
    have e0 : 2 ^ (r + 1) = 2 * 2 ^ r := by rw [Nat.pow_succ, Nat.mul_comm]
    have e1 : j * 2 ^ (r + 1) = (2 * j) * 2 ^ r := by rw [e0]; ac_rfl
    have e2 : (j + 1) * 2 ^ (r + 1) = (2 * j + 1 + 1) * 2 ^ r := by rw [e0, ← Nat.mul_assoc]; congr 1; omega
    have e3 : (2 * j + 1) * 2 ^ r = (2 * j) * 2 ^ r + 2 ^ r := by rw [Nat.add_mul, Nat.one_mul]
    have e4 : (2 * j + 1 + 1) * 2 ^ r = (2 * j + 1) * 2 ^ r + 2 ^ r := by rw [Nat.add_mul (2 * j + 1), Nat.one_mul]
    rw [nodeAt, nodeAt, nodeAt_congr r (2 * j) fun i h1 h2 => h i (by omega) (by omega), nodeAt_congr r (2 * j + 1) fun i h1 h2 => h i (by omega) (by omega)]
theorem nodeAt_shift {k : Int} {f : Nat → Hsh} {l0 : Nat} : ∀ (r m j : Nat), nodeAt k (fun i => nodeAt k f l0 (m * 2 ^ r + i)) r j = nodeAt k f (l0 + r) (m + j)
  | 0, m, j => by rw [Nat.pow_zero, Nat.mul_one]; rfl
  | r + 1, m, j => by
    have e : m * 2 ^ (r + 1) = (2 * m) * 2 ^ r := by rw [Nat.pow_succ]; ac_rfl
    rw [nodeAt, e, nodeAt_shift r (2 * m) (2 * j), nodeAt_shift r (2 * m) (2 * j + 1), ← Nat.add_assoc l0, nodeAt]
    rw [show 2 * m + 2 * j = 2 * (m + j) by omega, show 2 * m + (2 * j + 1) = 2 * (m + j) + 1 by omega]
/-- a place of a tree: its node's records are there -/
theorem node_in {c n : Nat} (hc : c < laid n) (hn : n ≤ 281474976710656) : c < 562949953421311 ∧ (nodOf c + 1) * 2 ^ levOf c ≤ n := by
  have hc' : c < 562949953421311 := by
    have := laid_mono hn
    rw [laid_max] at this
    omega
  refine ⟨hc', ?_⟩
  have hr := recOf_is c
  have hlt : recOf c < n := by
    rcases Nat.lt_or_ge (recOf c) n with g | g
    · exact g
    · have := laid_mono g
      have := hr.2.1
      omega
  have hp := split_pos hc'
  have e : nodOf c + 1 = (recOf c + 1) / 2 ^ levOf c := by unfold nodOf; omega
  rw [e, hp.2]; omega
structure InTile (h c n : Nat) : Prop where
  lev : h * (levOf c / h) + foldOf h c = levOf c
  at_ : atOf h c / 2 ^ h * 2 ^ h + firstOf h c = nodOf c * 2 ^ foldOf h c
  top : firstOf h c + 2 ^ foldOf h c ≤ 2 ^ h
  wid : firstOf h c + 2 ^ foldOf h c ≤ wid h (levOf c / h) (atOf h c / 2 ^ h) n
theorem in_tile {h c n : Nat} (h1 : 1 ≤ h) (hc : c < laid n) (hn : n ≤ 281474976710656) : InTile h c n := by
  obtain ⟨hc', hnode⟩ := node_in hc hn
  have e1 : h * (levOf c / h) + foldOf h c = levOf c := Nat.div_add_mod _ _
  have e2 : atOf h c / 2 ^ h * 2 ^ h + firstOf h c = nodOf c * 2 ^ foldOf h c := by rw [Nat.mul_comm]; exact Nat.div_add_mod _ _
  have hf := fold_lt (c := c) h1
  have hpf : 0 < 2 ^ foldOf h c := Nat.pow_pos (by decide)
  obtain ⟨d, hd⟩ : ∃ d, h = foldOf h c + d := ⟨h - foldOf h c, by omega⟩
  have e3 : firstOf h c = nodOf c % 2 ^ d * 2 ^ foldOf h c := by
    unfold firstOf atOf
    conv => lhs; rw [show 2 ^ h = 2 ^ d * 2 ^ foldOf h c by rw [← Nat.pow_add, Nat.add_comm, ← hd]]
    rw [Nat.mul_mod_mul_right]
  have hmod : nodOf c % 2 ^ d < 2 ^ d := Nat.mod_lt _ (Nat.pow_pos (by decide))
  have top : firstOf h c + 2 ^ foldOf h c ≤ 2 ^ h := by
    have e4 : 2 ^ h = 2 ^ d * 2 ^ foldOf h c := by rw [← Nat.pow_add, Nat.add_comm, ← hd]
    have e5 : firstOf h c + 2 ^ foldOf h c = (nodOf c % 2 ^ d + 1) * 2 ^ foldOf h c := by rw [e3, Nat.add_mul, Nat.one_mul]
    rw [e5, e4]
    exact Nat.mul_le_mul_right _ hmod
  have hl48 := lev_le hc'
  have hpl : 0 < 2 ^ (h * (levOf c / h)) := Nat.pow_pos (by decide)
  have hcnt : nodOf c * 2 ^ foldOf h c + 2 ^ foldOf h c ≤ cnt h (levOf c / h) n := by
    unfold cnt
    rw [Nat.le_div_iff_mul_le hpl]
    have : (nodOf c * 2 ^ foldOf h c + 2 ^ foldOf h c) * 2 ^ (h * (levOf c / h)) = (nodOf c + 1) * 2 ^ levOf c := by
      conv => rhs; rw [← e1, Nat.pow_add]
      rw [Nat.add_mul (nodOf c) 1, Nat.one_mul, Nat.add_mul]
      rw [Nat.mul_comm (2 ^ (h * (levOf c / h))) (2 ^ foldOf h c), Nat.mul_assoc]
    rw [this]; exact hnode
  refine ⟨e1, e2, top, ?_⟩
  unfold Pl.wid
  have hL : levOf c / h ≤ 48 / h := Nat.div_le_div_right hl48
  rw [if_neg (by omega)]
  have hN : atOf h c / 2 ^ h ≤ cnt h (levOf c / h) n / 2 ^ h := Nat.div_le_div_right (by unfold atOf; omega)
  rw [if_neg (by omega)]
  omega
/-- joined out of its tile's hashes it is what is stored -/
theorem in_tile_hash {k : Int} {f : Nat → Hsh} {st : List Hsh} {h c n wd : Nat} (h1 : 1 ≤ h) (G : Stored k f n st) (hc : c < laid n) (hn : n ≤ 281474976710656) (hw1 : firstOf h c + 2 ^ foldOf h c ≤ wd) (hw2 : wd ≤ wid h (levOf c / h) (atOf h c / 2 ^ h) n) :
    nodeAt k (fun i => atL (tileHs st h (levOf c / h) (atOf h c / 2 ^ h) wd) (firstOf h c + i)) (foldOf h c) 0 = atL st c := by
  have T := in_tile h1 hc hn
  obtain ⟨hc', hnode⟩ := node_in hc hn
  have hst := G.at_ (levOf c) (nodOf c) hnode
  rw [place_split hc'] at hst
  have e0 : atL st c = nodeAt k f (levOf c) (nodOf c) := by rw [atL, List.getD_eq_getElem?_getD, hst]; rfl
  rw [e0]
  have hpos : 1 ≤ wd := by have : 0 < 2 ^ foldOf h c := Nat.pow_pos (by decide); omega
  have hfit := wid_fits hpos hw2
  have := nodeAt_congr (k := k) (f := fun i => atL (tileHs st h (levOf c / h) (atOf h c / 2 ^ h) wd) (firstOf h c + i)) (g := fun i => nodeAt k f (h * (levOf c / h)) (nodOf c * 2 ^ foldOf h c + i)) (foldOf h c) 0 fun i _ hi => by
    have hi' : i < 2 ^ foldOf h c := by simpa using hi
    have hlt : firstOf h c + i < wd := by omega
    have e1 : atL (tileHs st h (levOf c / h) (atOf h c / 2 ^ h) wd) (firstOf h c + i) = atL st (placeOf (h * (levOf c / h)) (atOf h c / 2 ^ h * 2 ^ h + (firstOf h c + i))) := by
      simp [atL, tileHs, hlt]
    have e2 : atOf h c / 2 ^ h * 2 ^ h + (firstOf h c + i) = nodOf c * 2 ^ foldOf h c + i := by rw [← T.at_]; omega
    have e3 := G.at_ (h * (levOf c / h)) (nodOf c * 2 ^ foldOf h c + i) (Nat.le_trans (Nat.mul_le_mul_right _ (by rw [← T.at_]; omega)) hfit)
    show atL (tileHs st h (levOf c / h) (atOf h c / 2 ^ h) wd) (firstOf h c + i) = nodeAt k f (h * (levOf c / h)) (nodOf c * 2 ^ foldOf h c + i)
    rw [e1, e2, atL, List.getD_eq_getElem?_getD, e3]; rfl
  rw [this, nodeAt_shift, T.lev, Nat.add_zero]
end Go.Proofs.YtccjncflbbhldaaGreatDoor
/-! ## RefSha3 -/
set_option maxRecDepth 10000
namespace Go.Proofs.YtccjncflbbhldaaGreatDoor
open Go.Sh Go.RowKit
/-- the cells of a state -/
def stl (h : Oct) (count : Nat) (tl : Value) : List Value := .int .i64 1 :: (h.l.map rw64 ++ [.int .u64 (count : Int), tl])
theorem o8' (v : Oct) : (v.l.map rw64).toArray.size = 8 := rfl
theorem oall (v : Oct) : (v.l.map rw64).toArray.toList.all Value.oneCell' = true := rfl
theorem stl_len (h : Oct) (count : Nat) (tl : Value) : (stl h count tl).length = 11 := rfl
theorem zero220 : ((PP.info? 165).bind (·.zero)).map (·.cells) = some (.int .i64 0 :: (List.replicate 8 (.int .u64 0) ++ [.int .u64 0, .slice none 0 0])).toArray := by kernel_rfl
theorem own_one {w : World} {b e : Nat} {l : List Value} (h : Blk w b e l) : Own w e 1 (some ⟨b, 0, none⟩) l.length l.length l := ⟨by simp, .inr ⟨b, [], rfl, by simpa using h, by simp, Nat.le_refl _⟩⟩
theorem built220 (h : Oct) (count : Nat) : PP.built 165 [(0, .int .i64 1), (1, .agg (h.l.map rw64).toArray), (2, .int .u64 (count : Int))] = some (stl h count (.slice none 0 0)).toArray := by kernel_rfl
section
variable {Q : Value → World → Prop} {w : World}
theorem rgiven_word {h : Oct} {count : Nat} {tl p : List UInt8} {a1 a2 : Option Addr} {c1 c2 : Nat} {S1 S2 : Nat → Prop} (sd : RShaStd w) (h1 : Lies w S1 a1 (bvs tl)) (h2 : Lies w S2 a2 (bvs p)) (hn : tl.length + p.length ≤ 140737488355328) (hcn : count + p.length < 18446744073709551616)
    (hQ : ∀ a c w', Own w' 5 1 a (eatAll h (tl ++ p)).2.length c (bvs (eatAll h (tl ++ p)).2) → Chg None w w' → Q (.agg (stl (eatAll h (tl ++ p)).1 (count + p.length) (.slice a (eatAll h (tl ++ p)).2.length c)).toArray) w') :
    C_r01_Given #[.agg (stl h count (.slice a1 tl.length c1)).toArray, .slice a2 p.length c2] w Q := by
  refine C_r01_Given_eq _ _ _ _ _ _ ?_
  refine alC_box fun q1 w1 b1 k1 lo1 => ?_
  refine alZ_box zero220 fun q3 w2 b3 k2 lo3 => ?_
  have b12 := b1.chg k2 (fun h => h)
  refine opnI_c (b12.rd 0 rfl) (C_r01_Block_eq _ _ _ (opnI_c rfl (opnL_c (b12.rd 10 rfl) ?_)))
  have k02 := k1.none_trans k2
  refine append_none T25 (src_bytes T25.ht (h1.chg0 k02)) (by simp only [maxLen]; omega) (by omega) fun a4 c4 w3 o3 k3 f3 => ?_
  rw [opnL_s]
  have k03 := k02.none_trans k3
  refine app_u8 T25 T25.ht (w0 := w2) o3 f3 k3 (h2.chg0 k03) rfl (by omega) fun a5 c5 w4 o4 f4 k4 => ?_
  have k04 := k02.none_trans k4
  have b14 := b12.chg k4 (fun h => h)
  have b34 := b3.chg k4 (fun h => h)
  refine opnI_c (b14.rd 0 rfl) ?_
  rw [show (⟨q1, 0, none⟩ : Addr).add 1 = ⟨q1, 1, none⟩ from add_at ..]
  refine Blk.row (pre := [.int .i64 1]) (l := h.l.map rw64) (post := [.int .u64 (count : Int), .slice a1 tl.length c1]) (by simpa [stl] using b14) rfl rfl ?_
  refine opnI_c (b14.rd 9 rfl) ?_
  have ec : IntKind.wrap .u64 ((count : Int) + (IntKind.wrap .u64 ((p.length : Nat) : Int))) = ((count + p.length : Nat) : Int) := by rw [IntKind.wrap_u64, IntKind.wrap_u64]; omega
  rw [ec]
  refine built_c (built220 h (count + p.length)) ?_
  rw [opnG_s]
  refine alZ_box zero220 fun q7 w5 b7 k5 lo7 => ?_
  refine Blk.stAll b7 (stl_len ..) (stl_len ..) rfl fun w6 b76 k6 => ?_
  have k06 : Chg None w w6 := Chg.fresh (k04.none_trans k5) k6 fun y hy => by have := k04.size; omega
  have k46 : Chg None w4 w6 := Chg.fresh k5 k6 fun y hy => by omega
  have o6 := o4.chg0 k46
  have b16 := b14.chg k46 (fun h => h)
  have b36 := b34.chg k46 (fun h => h)
  have lt1 := b14.lt
  have lt3 := b34.lt
  have e64 : IntKind.wrap .i64 (64 * 1) = 64 := by decide
  rw [e64]
  obtain ⟨all, hall⟩ : ∃ all, all = tl ++ p := ⟨_, rfl⟩
  have hlen : all.length = tl.length + p.length := by rw [hall, List.length_append]
  rw [← hall, ← hlen] at o6
  rw [← hall] at hQ
  rw [← hlen]
  have hcap := o6.le
  have fin : ∀ (i : Nat) (v : Oct) (w7 : World), all.length < i + 64 → i ≤ all.length → Blk w7 q7 165 (stl v (count + p.length) (.slice none 0 0)) → Chg (fun y => y = q7) w6 w7 → eatAll v (all.drop i) = eatAll h all → N_r01_Given.j7 Q ⟨q1, 0, none⟩ ⟨q3, 0, none⟩ 64 a5 all.length c5 ⟨q7, 0, none⟩ (i : Int) w7 := by
    intro i v w7 hd hi hb k he
    have hsm : (all.drop i).length < 64 := by rw [List.length_drop]; omega
    rw [eatAll_small hsm] at he
    refine N_r01_Given.j7_eq (h := ?_)
    rw [show IntKind.wrap .i64 ((i : Int) + 64) = ((i + 64 : Nat) : Int) by rw [wrap_id (by omega) (by omega)]; omega]
    refine c_nle (by omega) ?_
    rw [drw_s]
    have k8 : Chg (fun y => y = q7) w6 w7.drew := Chg.trans k (Chg.drew0 (D := None) w7) (fun _ _ h => h) (fun _ _ h => h.elim)
    have hb8 := hb.chg (Chg.drew0 (D := None) w7) (fun h => h)
    generalize w7.drew = w8 at k8 hb8
    have kw8 : Chg None w w8 := Chg.fresh k06 k8 fun y hy => by have := k04.size; omega
    refine ⟨by omega, by omega, opnL_c (hb8.rd 10 rfl) ?_⟩
    have hl8 := (o6.chg k8 fun y hy e => by have := o4.lt hy; omega).lies.dropB (lo := i) (m := c5) (by omega)
    have hdl : (all.drop i).length = all.length - i := List.length_drop
    rw [Int.toNat_natCast, ← hdl]
    refine append_none T25 (src_bytes T25.ht hl8) (by simp only [maxLen]; omega) (by omega) fun a9 c9 w9 o9 k9 f9 => ?_
    rw [opnL_s]
    have hb9 := hb8.chg k9 (fun h => h)
    refine box_set hb9 (j := 10) (by rw [stl_len]; decide) rfl fun w10 h10 k10 => ?_
    have e10 : (stl v (count + p.length) (.slice none 0 0)).set 10 (.slice a9 (all.drop i).length c9) = stl v (count + p.length) (.slice a9 (all.drop i).length c9) := rfl
    rw [e10] at h10
    refine Blk.rowAll h10 (n := 11) (stl_len ..) ?_
    have lt8 := hb8.lt
    have b3a : Blk w10 q3 165 (.int .i64 0 :: (List.replicate 8 (.int .u64 0) ++ [.int .u64 0, .slice none 0 0])) := ((b36.chg k8 (fun e => by omega)).chg k9 (fun h => h)).chg k10 (fun e => by omega)
    refine Blk.stAll b3a (stl_len ..) (stl_len ..) rfl fun w11 h11 k11 => ?_
    refine Blk.rowAll h11 (n := 11) (stl_len ..) ?_
    have o11 := (o9.chg k10 fun y hy e => by have := f9 y hy; omega).chg k11 fun y hy e => by have := f9 y hy; omega
    have e2 : (eatAll h all) = (v, all.drop i) := he.symm
    have := hQ a9 c9 w11 (by rw [e2]; exact o11) (Chg.fresh (Chg.fresh (kw8.none_trans k9) k10 fun y hy => by have := k04.size; omega) k11 fun y hy => by have := k1.size; omega)
    rw [e2] at this
    exact this
  have go : ∀ (d i : Nat) (v : Oct) (w7 : World), all.length - i < d → i ≤ all.length → Blk w7 q7 165 (stl v (count + p.length) (.slice none 0 0)) → Chg (fun y => y = q7) w6 w7 → eatAll v (all.drop i) = eatAll h all → N_r01_Given.j7 Q ⟨q1, 0, none⟩ ⟨q3, 0, none⟩ 64 a5 all.length c5 ⟨q7, 0, none⟩ (i : Int) w7 := by
    intro d
    induction d with
    | zero => intro i v w7 hd; exact absurd hd (Nat.not_lt_zero _)
    | succ d ih =>
      intro i v w7 hd hi hb k he
      by_cases g : all.length < i + 64
      · exact fin i v w7 g hi hb k he
      refine N_r01_Given.j7_eq (h := ?_)
      rw [show IntKind.wrap .i64 ((i : Int) + 64) = ((i + 64 : Nat) : Int) by rw [wrap_id (by omega) (by omega)]; omega]
      refine c_le (by omega) ?_
      rw [drw_s]
      have k8 : Chg (fun y => y = q7) w6 w7.drew := Chg.trans k (Chg.drew0 (D := None) w7) (fun _ _ h => h) (fun _ _ h => h.elim)
      have hb8 := hb.chg (Chg.drew0 (D := None) w7) (fun h => h)
      generalize w7.drew = w8 at k8 hb8
      have kw8 : Chg None w w8 := Chg.fresh k06 k8 fun y hy => by have := k04.size; omega
      have b18 := b16.chg k8 (fun e => by omega)
      refine ⟨by omega, by omega, by omega, by omega, opnI_c (b18.rd 0 rfl) ?_⟩
      rw [show (⟨q7, 0, none⟩ : Addr).add 1 = ⟨q7, 1, none⟩ from add_at ..]
      refine Blk.row (pre := [.int .i64 1]) (l := v.l.map rw64) (post := [.int .u64 ((count + p.length : Nat) : Int), .slice none 0 0]) (by simpa [stl] using hb8) rfl rfl ?_
      rw [Int.toNat_natCast, Int.toNat_natCast, show i + 64 - i = 64 by omega]
      have hl8 := ((o6.chg k8 fun y hy e => by have := o4.lt hy; omega).lies.dropB (lo := i) (m := c5) (by omega)).takeB 64
      refine rmixed_word (sd.chg0 kw8) hl8 (by rw [List.length_take, List.length_drop]; omega) (by omega) fun w9 k9 => ?_
      rw [opnG_s]
      have hb9 := hb8.chg k9 (fun h => h)
      refine Blk.stRow (pre := [.int .i64 1]) (old := v.l.map rw64) (post := [.int .u64 ((count + p.length : Nat) : Int), .slice none 0 0]) (by simpa [stl] using hb9) rfl (o8' _) (o8' _) (oall _) fun w10 h10 k10 => ?_
      refine ih (i + 64) (mixO v ((all.drop i).take 64)) w10 (by omega) (by omega) (by simpa [stl] using h10) (Chg.trans (Chg.trans k8 k9 (fun _ _ h => h) (fun _ _ h => h.elim)) k10 (fun _ _ h => h) (fun _ _ h => h)) ?_
      rw [← he, eatAll_big (l := all.drop i) (by rw [List.length_drop]; omega), List.drop_drop]
  have fin0 := go (all.length + 1) 0 h w6 (by omega) (Nat.zero_le _) b76 (Chg.refl _ _) (by rw [List.drop_zero])
  exact fin0
/-- what stands at the end -/
theorem told_word {h : Oct} {count : Nat} {tl : List UInt8} {a1 : Option Addr} {c1 : Nat} {S1 : Nat → Prop} (sd : RShaStd w) (h1 : Lies w S1 a1 (bvs tl)) (hn : tl.length < 64) (hcn : count ≤ 140737488355328)
    (hQ : ∀ a c w', Own w' 5 1 a 32 c (bvs (octB (eatAll h (tl ++ padOf tl.length count)).1)) → (∀ y, At a y → w.heap.size ≤ y) → Chg None w w' → Q (.slice a 32 c) w') :
    C_r01_Told #[.agg (stl h count (.slice a1 tl.length c1)).toArray] w Q := by
  refine C_r01_Told_eq _ _ _ ?_
  refine alC_box fun q1 w1 b1 k1 lo1 => ?_
  refine opnI_c (b1.rd 0 rfl) (C_r01_Block_eq _ _ _ (opnI_c rfl (opnI_c (b1.rd 0 rfl) ?_)))
  refine alC_box fun q8 w2 b8 k2 lo8 => ?_
  rw [show IntKind.wrap .i64 (64 * 1) = 64 by decide, show IntKind.wrap .i64 (8 * 1) = 8 by decide]
  have b12 := b1.chg k2 (fun h => h)
  have k02 := k1.none_trans k2
  -- the output
  have out : ∀ (z : Oct) (cz : Nat) (vt : Value) (q5 : Nat) (w6 : World), Chg None w w6 → Blk w6 q5 165 (stl z cz vt) → Blk w6 q1 165 (stl h count (.slice a1 tl.length c1)) → z = (eatAll h (tl ++ padOf tl.length count)).1 → N_r01_Told.j10 Q ⟨q1, 0, none⟩ ⟨q5, 0, none⟩ w6 := by
    intro z cz vt q5 w6 k6 b5 b16 hz
    refine N_r01_Told.j10_eq (h := N_r01_Told.j11_eq (h := ?_))
    have loop : ∀ (d i : Nat) (a : Option Addr) (c : Nat) (w7 : World), i + d = 8 → Own w7 5 1 a (4 * i) c (bvs ((z.l.take i).flatMap fun x => be 4 x.toNat)) → (∀ y, At a y → w6.heap.size ≤ y) → Chg None w6 w7 → N_r01_Told.j12 Q ⟨q1, 0, none⟩ ⟨q5, 0, none⟩ a (4 * i) c (i : Int) w7 := by
      intro d
      induction d with
      | zero =>
        intro i a c w7 hi o f k
        have hi' : i = 8 := by omega
        subst hi'
        refine N_r01_Told.j12_eq (h := c_nlt (by omega) ?_)
        have e : z.l.take 8 = z.l := rfl
        rw [e, hz] at o
        exact hQ a c w7 o (fun y hy => Nat.le_trans k6.size (f y hy)) (k6.none_trans k)
      | succ d ih =>
        intro i a c w7 hi o f k
        refine N_r01_Told.j12_eq (h := c_lt (by omega) ?_)
        rw [drw_s]
        have k8 := k.none_trans (Chg.drew0 (D := None) w7)
        have o8 := o.chg0 (Chg.drew0 (D := None) w7)
        generalize w7.drew = w8 at k8 o8
        have hil : i < z.l.length := by show i < 8; omega
        have hg : (stl z cz vt)[1 + i]? = some (.int .u64 ((((wat z.l i).toNat : Nat)) : Int)) := by
          rw [Nat.add_comm, stl, List.getElem?_cons_succ, List.getElem?_append_left (by rw [List.length_map]; exact hil), List.getElem?_map, List.getElem?_eq_getElem hil]
          simp [rw64, wat, List.getD, List.getElem?_eq_getElem hil, iw]
        have b58 := b5.chg k8 (fun h => h)
        have b18 := b16.chg k8 (fun h => h)
        have hcell : w8.cell? (((⟨q5, 0, none⟩ : Addr).add 1).add (Int.toNat (i : Int) * 1)) = some (.int .u64 ((((wat z.l i).toNat : Nat)) : Int)) := by
          rw [Int.toNat_natCast, Nat.mul_one]; exact b58.rd2 1 i hg
        refine ⟨by omega, by omega, opnI_c hcell (opnI_c (b18.rd 0 rfl) (C_r01_wide_eq _ _ _ (opnI_c rfl ⟨opnI_c hcell rfl, ?_⟩)))⟩
        rw [show IntKind.wrap .i64 (4 * 1) = ((4 : Nat) : Int) by decide]
        have hx := (wat z.l i).isLt
        refine bytesOf_word (by decide) (by omega) fun b w9 o9 k9 hb9 => ?_
        rw [opnL_s]
        refine app_u8 T25 T25.ht (w0 := w6) (o8.chg0 k9) f (k8.none_trans k9) o9.lies (be_len 4 _) (by omega) fun a3 c3 w10 o10 f10 k10 => ?_
        rw [wrap_nat (by omega), show 4 * i + 4 = 4 * (i + 1) by omega]
        rw [show 4 * i + 4 = 4 * (i + 1) by omega] at o10
        refine ih (i + 1) a3 c3 w10 (by omega) ?_ f10 k10
        have e : z.l.take (i + 1) = z.l.take i ++ [wat z.l i] := by
          rw [List.take_add_one, List.getElem?_eq_getElem hil]
          simp [wat, List.getD, List.getElem?_eq_getElem hil]
        rw [e, List.flatMap_append]
        simpa using o10
    exact loop 8 0 none 0 w6 rfl (show Own w6 5 1 none 0 0 [] from Own.nil) (by rintro y ⟨q, hq, _⟩; cases hq) (Chg.refl _ _)
  -- the padding
  have pad : ∀ (d m : Nat) (a : Option Addr) (c : Nat) (w3 : World), m + d = (119 - tl.length % 64) % 64 → Own w3 5 1 a (1 + m) c (bvs (128 :: List.replicate m 0)) → (∀ y, At a y → w1.heap.size ≤ y) → Chg None w1 w3 → N_r01_Told.j4 Q ⟨q1, 0, none⟩ 64 8 a (1 + m) c w3 := by
    intro d
    induction d with
    | zero =>
      intro m a c w3 hm o f k
      have b13 := b1.chg k (fun h => h)
      refine N_r01_Told.j4_eq (h := opnL_c (b13.rd 10 rfl) ⟨by decide, ?_⟩)
      have et : Int.tmod (IntKind.wrap .i64 ((IntKind.wrap .i64 (((tl.length : Nat) : Int) + (((1 + m) : Nat) : Int))) + 8)) 64 = 0 := by
        rw [wrap_id (n := ((tl.length : Nat) : Int) + (((1 + m) : Nat) : Int)) (by omega) (by omega), wrap_id (by omega) (by omega), Int.tmod_eq_emod_of_nonneg (by omega)]
        omega
      rw [et]
      refine c_nne rfl (opnI_c (b13.rd 0 rfl) (c_neq (by decide) ?_))
      refine N_r01_Told.j8_eq (h := opnI_c (b13.rd 9 rfl) ?_)
      have es : shlI .u64 (count : Int) 3 = ((count * 8 : Nat) : Int) := by
        simp only [shlI, IntKind.bits]
        rw [show (min (Int.toNat 3) 64) = 3 by decide, IntKind.wrap_u64]; omega
      rw [es, show (8 : Int) = ((8 : Nat) : Int) from rfl]
      refine bytesOf_word (by decide) (by omega) fun b w4 o4 k4 hb4 => ?_
      rw [opnL_s]
      refine app_u8 T25 T25.ht (w0 := w1) (o.chg0 k4) f (k.none_trans k4) o4.lies (be_len 8 _) (by omega) fun a5 c5 w5 o5 f5 k5 => ?_
      have epad : 128 :: List.replicate m 0 ++ be 8 (count * 8) = padOf tl.length count := by
        have hm' : m = (119 - tl.length % 64) % 64 := by omega
        simp [padOf, zerosTo, hm']
      rw [epad] at o5
      have b15 := b1.chg k5 (fun h => h)
      refine N_r01_Told.j9_eq (h := Blk.rowAll b15 (n := 11) (stl_len ..) ?_)
      have hpl : 1 + m + 8 = (padOf tl.length count).length := by rw [← epad]; simp [be_len]; omega
      rw [hpl] at o5 ⊢
      have k05 := k1.none_trans k5
      refine rgiven_word (sd.chg0 k05) (h1.chg0 k05) o5.lies (by rw [← hpl]; omega) (by rw [← hpl]; omega) fun a6 c6 w6 o6 k6 => ?_
      rw [opnG_s]
      refine alZ_box zero220 fun q5 w7 b57 k7 lo5 => ?_
      refine Blk.stAll b57 (stl_len ..) (stl_len ..) rfl fun w8 b58 k8 => ?_
      have k68 : Chg None w6 w8 := Chg.fresh k7 k8 fun y hy => by omega
      exact out _ _ _ q5 w8 ((k05.none_trans k6).none_trans k68) b58 ((b15.chg k6 (fun h => h)).chg k68 (fun h => h)) rfl
    | succ d ih =>
      intro m a c w3 hm o f k
      have b13 := b1.chg k (fun h => h)
      refine N_r01_Told.j4_eq (h := opnL_c (b13.rd 10 rfl) ⟨by decide, ?_⟩)
      have et : Int.tmod (IntKind.wrap .i64 ((IntKind.wrap .i64 (((tl.length : Nat) : Int) + (((1 + m) : Nat) : Int))) + 8)) 64 ≠ 0 := by
        rw [wrap_id (n := ((tl.length : Nat) : Int) + (((1 + m) : Nat) : Int)) (by omega) (by omega), wrap_id (by omega) (by omega), Int.tmod_eq_emod_of_nonneg (by omega)]
        omega
      refine c_ne et ?_
      refine push_u8 T25 (w0 := w1) o f k (x := 0) rfl (by omega) fun a4 c4 w4 o4 f4 k4 => ?_
      rw [show 1 + m + 1 = 1 + (m + 1) by omega] at o4 ⊢
      refine ih (m + 1) a4 c4 w4 (by omega) ?_ f4 k4
      rw [List.replicate_succ']
      exact o4
  exact pad ((119 - tl.length % 64) % 64) 0 (some ⟨q8, 0, none⟩) 1 w2 (by omega) (own_one b8) (by rintro y ⟨p, hp, hy⟩; cases hp; exact hy ▸ lo8) k2
theorem begin_word (sd : RShaStd w) (hQ : ∀ w', Chg None w w' → Q (.agg (stl iv0 0 (.slice none 0 0)).toArray) w') : C_r01_Begin #[.int .i64 1] w Q := by
  refine C_r01_Begin_eq _ _ _ ?_
  refine alZ_box zero220 fun q1 w1 b1 k1 lo1 => ?_
  have hb : PP.built 165 [(0, .int .i64 1)] = some (.int .i64 1 :: (List.replicate 8 (.int .u64 0) ++ [.int .u64 0, .slice none 0 0])).toArray := by kernel_rfl
  refine built_c hb ?_
  rw [opnG_s]
  refine alZ_box zero220 fun q6 w2 b6 k2 lo6 => ?_
  refine Blk.stAll b6 ?_ ?_ ?_ fun w3 b63 k3 => ?_
  · rfl
  · rfl
  · rfl
  have k13 : Chg None w1 w3 := Chg.fresh k2 k3 fun y hy => by omega
  have b13 := b1.chg k13 (fun h => h)
  have n16 : q1 ≠ q6 := by have := b1.lt; omega
  have go : ∀ (d i : Nat) (w4 : World), i + d = 8 → Blk w4 q6 165 (.int .i64 1 :: (((iv0.l.take i).map rw64 ++ List.replicate d (.int .u64 0)) ++ [.int .u64 0, .slice none 0 0])) → Chg (fun y => y = q6) w3 w4 → N_r01_Begin.j3 Q 1 ⟨q1, 0, none⟩ ⟨q6, 0, none⟩ (i : Int) w4 := by
    intro d
    induction d with
    | zero =>
      intro i w4 hi hb4 k
      have hi' : i = 8 := by omega
      subst hi'
      refine N_r01_Begin.j3_eq (h := c_nlt (by omega) ?_)
      have e : iv0.l.take 8 = iv0.l := rfl
      rw [e] at hb4
      have hb5 : Blk w4 q6 165 (stl iv0 0 (.slice none 0 0)) := by simpa [stl] using hb4
      refine Blk.rowAll hb5 (n := 11) rfl ?_
      refine Blk.stAll (b13.chg k n16) ?_ ?_ ?_ fun w5 h5 k5 => ?_
      · rfl
      · rfl
      · rfl
      refine Blk.rowAll h5 (n := 11) rfl ?_
      exact hQ w5 (Chg.fresh (Chg.fresh (k1.none_trans k13) k fun y hy => by have := k1.size; omega) k5 fun y hy => by omega)
    | succ d ih =>
      intro i w4 hi hb4 k
      have kw : Chg None w w4 := Chg.fresh (k1.none_trans k13) k fun y hy => by have := k1.size; omega
      obtain ⟨z, hz⟩ : ∃ z, startsZ[i]? = some z := ⟨_, List.getElem?_eq_getElem (by show i < 8; omega)⟩
      have hsh : Value.int .u64 (shrI .u64 z 32) = rw64 (wat iv0.l i) := by
        have key : ∀ j : Fin 8, (startsZ[j.val]?).map (fun z => shrI .u64 z 32) = some (iw (wat iv0.l j.val)) := by decide +kernel
        have := key ⟨i, by omega⟩
        rw [hz] at this
        have e := Option.some.inj this
        exact congrArg (Value.int .u64) e
      have hcell := fun {w : World} (sd : RShaStd w) => sd.sq i z hz
      have e0 : (⟨5, 0, none⟩ : Addr).add (Int.toNat (i : Int) * 1) = ⟨5, i, none⟩ := by rw [Int.toNat_natCast, Nat.mul_one, add_at, Nat.zero_add]
      refine N_r01_Begin.j3_eq (h := c_lt (by omega) ⟨by omega, by omega, ?_⟩)
      rw [e0]
      refine opnI_c (hcell (sd.chg0 kw)) ⟨by omega, by omega, ?_⟩
      rw [show ((⟨q6, 0, none⟩ : Addr).add 1).add (Int.toNat (i : Int) * 1) = ⟨q6, 1 + i, none⟩ by rw [Int.toNat_natCast, Nat.mul_one, add_at, add_at]]
      have hlen : ((iv0.l.take i).map rw64).length = i := by
        have : iv0.l.length = 8 := rfl
        rw [List.length_map, List.length_take]; omega
      have eb : Value.int .i64 1 :: (((iv0.l.take i).map rw64 ++ List.replicate (d + 1) (Value.int .u64 0)) ++ [.int .u64 0, .slice none 0 0]) = (Value.int .i64 1 :: (iv0.l.take i).map rw64) ++ Value.int .u64 0 :: (List.replicate d (Value.int .u64 0) ++ [.int .u64 0, .slice none 0 0]) := by
        rw [List.replicate_succ]; simp
      rw [eb] at hb4
      refine hb4.stAt (by rw [List.length_cons, hlen]; omega) rfl fun w5 hb5 k5 => ?_
      have k35 := Chg.trans k k5 (fun _ _ h => h) (fun _ _ h => h)
      have kw5 : Chg None w w5 := Chg.fresh (k1.none_trans k13) k35 fun y hy => by have := k1.size; omega
      refine c_eq rfl ⟨by omega, by omega, opnI_c (hcell (sd.chg0 kw5)) ⟨by omega, by omega, ?_⟩⟩
      rw [hsh]
      refine hb5.stAt (by rw [List.length_cons, hlen]; omega) rfl fun w6 hb6 k6 => ?_
      refine N_r01_Begin.j4_eq (h := ?_)
      rw [wrap_nat (by omega)]
      refine ih (i + 1) w6 (by omega) ?_ (Chg.trans k35 k6 (fun _ _ h => h) (fun _ _ h => h))
      have et : iv0.l.take (i + 1) = iv0.l.take i ++ [wat iv0.l i] := by
        have hil : i < iv0.l.length := by show i < 8; omega
        rw [List.take_add_one, List.getElem?_eq_getElem hil]
        simp [wat, List.getD, List.getElem?_eq_getElem hil]
      rw [et]
      simpa using hb6
  exact go 8 0 w3 rfl b63 (Chg.refl _ _)
/-- the reference's hash is the program's -/
theorem rsum_word {p : List UInt8} {a : Option Addr} {c : Nat} {S : Nat → Prop} (sd : RShaStd w) (hl : Lies w S a (bvs p)) (hn : p.length ≤ 140737488355200) (hQ : ∀ w', Chg None w w' → Q (.agg (bvs (sha256 p)).toArray) w') : C_r01_Sum256 #[.slice a p.length c] w Q := by
  refine C_r01_Sum256_eq _ _ _ _ _ ?_
  refine alZ_box zero28 fun q1 w1 b1 k1 lo1 => ?_
  refine alZ_box zero28 fun q3 w2 b3 k2 lo3 => ?_
  have k02 := k1.none_trans k2
  refine C_r01_Hash_eq _ _ _ _ _ _ ?_
  refine begin_word (sd.chg0 k02) fun w3 k3 => ?_
  rw [opnG_s]
  have k03 := k02.none_trans k3
  refine rgiven_word (count := 0) (tl := []) (S1 := fun _ => True) (sd.chg0 k03) (show Lies w3 (fun _ => True) none [] from Lies.nil) (hl.chg0 k03) (by simpa using by omega) (by omega) fun a4 c4 w4 o4 k4 => ?_
  rw [opnG_s]
  have k04 := k03.none_trans k4
  rw [List.nil_append] at o4 ⊢
  have hrest := (eatAll_rest p.length iv0 p (Nat.le_refl _)).1
  refine told_word (sd.chg0 k04) o4.lies hrest (by omega) fun a5 c5 w5 o5 f5 k5 => ?_
  rw [opnL_s, opnL_s]
  have k05 := k04.none_trans k5
  have e : octB (eatAll (eatAll iv0 p).1 ((eatAll iv0 p).2 ++ padOf (eatAll iv0 p).2.length (0 + p.length))).1 = sha256 p := by rw [Nat.zero_add]; rfl
  rw [e] at o5
  have hs := sha256_len p
  have b15 := (b1.chg k2 (fun h => h)).chg ((k3.none_trans k4).none_trans k5) (fun h => h)
  have b35 := b3.chg ((k3.none_trans k4).none_trans k5) (fun h => h)
  have n13 : q1 ≠ q3 := by have := b1.lt; omega
  have s1 := k1.size
  have go : ∀ (d i : Nat) (w6 : World), i + d = 32 → Blk w6 q3 22 ((bvs (sha256 p)).take i ++ List.replicate d (.int .u8 0)) → Chg (fun y => y = q3) w5 w6 → N_r01_Sum256.j4 Q ⟨q1, 0, none⟩ ⟨q3, 0, none⟩ a5 32 c5 (i : Int) w6 := by
    intro d
    induction d with
    | zero =>
      intro i w6 hi hb k
      have hi' : i = 32 := by omega
      subst hi'
      refine N_r01_Sum256.j4_eq (h := c_nlt (by omega) ?_)
      rw [List.take_of_length_le (by rw [bvs_len, hs]; exact Nat.le_refl _), List.replicate_zero, List.append_nil] at hb
      refine Blk.rowAll hb (n := 32 * 1) (by rw [bvs_len, hs]) ?_
      refine Blk.stAll (b15.chg k n13) (by simp [hs]) (by simp [hs]) (by rw [List.all_eq_true]; exact bvs_one) fun w7 h7 k7 => ?_
      refine Blk.rowAll h7 (n := 32 * 1) (by simp [hs]) ?_
      have := hQ w7 (Chg.fresh (Chg.fresh k05 k fun y hy => by omega) k7 fun y hy => by omega)
      simpa using this
    | succ d ih =>
      intro i w6 hi hb k
      refine N_r01_Sum256.j4_eq (h := c_lt (by omega) ⟨by omega, by omega, ?_⟩)
      have hil : i < (sha256 p).length := by omega
      have o6 := o5.chg k fun y hy e => by have := f5 y hy; have := b3.lt; have := (k3.none_trans k4).size; omega
      refine rd_byte o6.lies (x := (sha256 p)[i]) (by rw [Int.toNat_natCast]; exact List.getElem?_eq_getElem hil) ⟨by omega, by omega, ?_⟩
      rw [Int.toNat_natCast, Nat.mul_one]
      have hlen : ((bvs (sha256 p)).take i).length = i := by rw [List.length_take, bvs_len]; omega
      refine box_set hb (j := i) (by rw [List.length_append, hlen, List.length_replicate]; omega) rfl fun w7 h7 k7 => ?_
      rw [wrap_nat (by omega)]
      refine ih (i + 1) w7 (by omega) ?_ (Chg.trans k k7 (fun _ _ h => h) (fun _ _ h => h))
      have e2 : ((bvs (sha256 p)).take i ++ List.replicate (d + 1) (Value.int .u8 0)).set i (bv (sha256 p)[i]) = (bvs (sha256 p)).take (i + 1) ++ List.replicate d (Value.int .u8 0) := by
        rw [List.replicate_succ, set_mid' hlen, List.take_add_one, bvs_get hil]; simp
      rw [← e2]; exact h7
  exact go 32 0 w5 rfl (by simpa using b35) (Chg.refl _ _)
end
end Go.Proofs.YtccjncflbbhldaaGreatDoor
/-! ## RefNode -/
set_option maxRecDepth 10000
namespace Go.Proofs.YtccjncflbbhldaaGreatDoor
open Go.Sh Go.RowKit
section
variable {Q : Value → World → Prop} {w : World}
theorem rweak_word {k : Int} {h : List UInt8} (hl : h.length = 32) (hQ : ∀ w', Chg None w w' → Q (.agg (bvs (weakB k h)).toArray) w') : C_r08_weak #[.int .i64 k, .agg (bvs h).toArray] w Q := by
  refine C_r08_weak_eq _ _ _ _ ?_
  refine alC_box fun q1 w1 b1 k1 lo1 => ?_
  refine alZ_box zero28 fun q3 w2 b3 k2 lo3 => ?_
  have k02 := k1.none_trans k2
  have b12 : Blk w2 q1 22 (bvs h) := by simpa using b1.chg k2 (fun h => h)
  have s1 := k1.size
  have n13 : q1 ≠ q3 := by have := b1.lt; omega
  have fin : ∀ w3 (l : List UInt8), l.length = 32 → Blk w3 q1 22 (bvs l) → (∃ o : List UInt8, o.length = 32 ∧ Blk w3 q3 22 (bvs o)) → Chg None w w3 → l = weakB k h → opnRow w3 ⟨q1, 0, none⟩ (32 * 1) fun x1 => stRow ⟨q3, 0, none⟩ x1 (32 * 1) w3 fun w2 => opnRow w2 ⟨q3, 0, none⟩ (32 * 1) fun x3 => Q (.agg x3) w2 := by
    intro w3 l hll hb ⟨o, ho, hb3⟩ kk he
    refine Blk.rowAll hb (n := 32 * 1) (by rw [bvs_len, hll]) ?_
    refine Blk.stAll hb3 (by simp [hll]) (by simp [hll, ho]) (by rw [List.all_eq_true]; exact bvs_one) fun w4 h4 k4 => ?_
    refine Blk.rowAll h4 (n := 32 * 1) (by simp [hll]) ?_
    have := hQ w4 (Chg.fresh kk k4 fun y hy => by omega)
    rw [← he] at this
    simpa using this
  have hb3 : ∃ o : List UInt8, o.length = 32 ∧ Blk w2 q3 22 (bvs o) := ⟨List.replicate 32 0, by simp, by simpa [bvs, bv] using b3⟩
  have whole : ¬ (1 ≤ k ∧ k ≤ 31) → h = weakB k h := fun hk => by
    have : keepK k = 32 := by unfold keepK; rw [if_neg hk]
    unfold weakB
    rw [this, List.take_of_length_le (by omega)]; simp
  by_cases g1 : k < 1
  · exact c_lt g1 (N_r08_weak.j2_eq (h := fin w2 h hl b12 hb3 k02 (whole (by omega))))
  refine c_nlt (by omega) ?_
  by_cases g2 : 31 < k
  · exact c_gt g2 (N_r08_weak.j2_eq (h := fin w2 h hl b12 hb3 k02 (whole (by omega))))
  refine c_ngt (by omega) ?_
  obtain ⟨m, rfl⟩ := Int.eq_ofNat_of_zero_le (show 0 ≤ k by omega)
  have hkeep : keepK (m : Int) = m := by unfold keepK; rw [if_pos (by omega)]; exact Int.toNat_natCast _
  have go : ∀ (d i : Nat) (w3 : World), i + d = 32 → m ≤ i → Blk w3 q1 22 (bvs (h.take m ++ List.replicate (i - m) 0 ++ h.drop i)) → Chg (fun y => y = q1) w2 w3 → N_r08_weak.j4 Q ⟨q1, 0, none⟩ ⟨q3, 0, none⟩ (i : Int) w3 := by
    intro d
    induction d with
    | zero =>
      intro i w3 hi hm hb kk
      have hi' : i = 32 := by omega
      subst hi'
      refine N_r08_weak.j4_eq (h := c_nlt (by omega) ?_)
      obtain ⟨o, ho, hbo⟩ := hb3
      refine fin w3 _ ?_ hb ⟨o, ho, hbo.chg kk (fun e => n13 e.symm)⟩ (Chg.fresh k02 kk fun y hy => by omega) ?_
      · simp; omega
      · unfold weakB
        rw [hkeep, List.drop_eq_nil_of_le (by omega), List.append_nil]
    | succ d ih =>
      intro i w3 hi hm hb kk
      refine N_r08_weak.j4_eq (h := c_lt (by omega) ⟨by omega, by omega, ?_⟩)
      have hil : i < h.length := by omega
      have hpre : (h.take m ++ List.replicate (i - m) (0 : UInt8)).length = i := by simp; omega
      have eb : bvs (h.take m ++ List.replicate (i - m) 0 ++ h.drop i) = bvs (h.take m ++ List.replicate (i - m) 0) ++ bv h[i] :: bvs (h.drop (i + 1)) := by
        rw [bvs_app, List.drop_eq_getElem_cons hil]; rfl
      rw [eb] at hb
      rw [show (⟨q1, 0, none⟩ : Addr).add (Int.toNat (i : Int) * 1) = ⟨q1, i, none⟩ by rw [Int.toNat_natCast, Nat.mul_one, add_at, Nat.zero_add]]
      refine hb.stAt (by rw [bvs_len, hpre]) rfl fun w4 h4 k4 => ?_
      rw [wrap_nat (by omega)]
      refine ih (i + 1) w4 (by omega) (by omega) ?_ (Chg.trans kk k4 (fun _ _ h => h) (fun _ _ h => h))
      have e2 : bvs (h.take m ++ List.replicate (i + 1 - m) 0 ++ h.drop (i + 1)) = bvs (h.take m ++ List.replicate (i - m) 0) ++ Value.int .u8 0 :: bvs (h.drop (i + 1)) := by
        rw [show i + 1 - m = (i - m) + 1 by omega, List.replicate_succ', ← List.append_assoc, List.append_assoc, bvs_app]; rfl
      rw [e2]; exact h4
  exact go (32 - m) m w2 (by omega) (Nat.le_refl _) (by simpa using b12) (Chg.refl _ _)
theorem rnode_word {k : Int} {l r : List UInt8} (sd : RShaStd w) (hl : l.length = 32) (hr : r.length = 32) (hQ : ∀ w', Chg None w w' → Q (.agg (bvs (nodeV k l r)).toArray) w') : C_r08_Node #[.int .i64 k, .agg (bvs l).toArray, .agg (bvs r).toArray] w Q := by
  refine C_r08_Node_eq _ _ _ _ _ ?_
  refine alC_box fun q1 w1 b1 k1 lo1 => ?_
  refine alC_box fun q3 w2 b3 k2 lo3 => ?_
  refine alZ_box zero28 fun q5 w3 b5 k3 lo5 => ?_
  refine alC_box fun q7 w4 b7 k4 lo7 => ?_
  have k04 := ((k1.none_trans k2).none_trans k3).none_trans k4
  have b14 : Blk w4 q1 22 (bvs l) := by simpa using ((b1.chg k2 (fun h => h)).chg k3 (fun h => h)).chg k4 (fun h => h)
  have b34 : Blk w4 q3 22 (bvs r) := by simpa using (b3.chg k3 (fun h => h)).chg k4 (fun h => h)
  have b54 := b5.chg k4 (fun h => h)
  have s3 := ((k1.none_trans k2).none_trans k3).size
  have lo7' : w3.heap.size ≤ q7 := lo7
  have loop2 : ∀ (d i : Nat) (a : Option Addr) (c : Nat) (w5 : World), i + d = 32 → Own w5 5 1 a (33 + i) c (bvs (1 :: (l ++ r.take i))) → (∀ y, At a y → w3.heap.size ≤ y) → Chg None w3 w5 → N_r08_Node.j7 Q k ⟨q3, 0, none⟩ ⟨q5, 0, none⟩ a (33 + i) c (i : Int) w5 := by
    intro d
    induction d with
    | zero =>
      intro i a c w5 hi o f kk
      have hi' : i = 32 := by omega
      subst hi'
      rw [List.take_of_length_le (by omega)] at o
      refine N_r08_Node.j7_eq (h := c_nlt (by omega) ?_)
      have kw := ((k1.none_trans k2).none_trans k3).none_trans kk
      have hlen : (1 :: (l ++ r)).length = 33 + 32 := by simp [hl, hr]
      rw [← hlen]
      refine rsum_word (sd.chg0 kw) o.lies (by rw [hlen]; decide) fun w6 k6 => ?_
      rw [opnG_s]
      have hs := sha256_len (1 :: (l ++ r))
      refine alZ_box zero28 fun q10 w7 b10 k7 lo10 => ?_
      refine Blk.stAll b10 (by simp [hs]) (by simp [hs]) (by rw [List.all_eq_true]; exact bvs_one) fun w8 h8 k8 => ?_
      refine Blk.rowAll h8 (n := 32 * 1) (by simp [hs]) ?_
      have k68 : Chg None w6 w8 := Chg.fresh k7 k8 fun y hy => by omega
      rw [show (bvs (sha256 (1 :: (l ++ r)))).toArray.toList.toArray = (bvs (sha256 (1 :: (l ++ r)))).toArray by simp]
      refine rweak_word hs fun w9 k9 => ?_
      rw [opnG_s]
      have hv : (nodeV k l r).length = 32 := nodeV_len _ _ _
      have b59 : Blk w9 q5 22 (List.replicate 32 (.int .u8 0)) := by simpa using ((b5.chg kk (fun h => h)).chg k6 (fun h => h)).chg (k68.none_trans k9) (fun h => h)
      refine Blk.stAll b59 (by rw [List.size_toArray, bvs_len]; exact hv) (by rw [List.size_toArray, bvs_len, List.length_replicate]; exact hv) (by rw [List.all_eq_true]; exact bvs_one) fun w10 h10 k10 => ?_
      refine Blk.rowAll h10 (n := 32 * 1) (by rw [bvs_len]; exact hv) ?_
      have := hQ w10 (Chg.fresh ((kw.none_trans k6).none_trans (k68.none_trans k9)) k10 fun y hy => by have := (k1.none_trans k2).size; omega)
      simpa [nodeV] using this
    | succ d ih =>
      intro i a c w5 hi o f kk
      have hil : i < r.length := by omega
      refine N_r08_Node.j7_eq (h := c_lt (by omega) ⟨by omega, by omega, ?_⟩)
      have hcell : w5.cell? ((⟨q3, 0, none⟩ : Addr).add (Int.toNat (i : Int) * 1)) = some (bv r[i]) := by
        rw [Int.toNat_natCast, Nat.mul_one]
        have : Blk w5 q3 22 (bvs r) := by simpa using (b3.chg k3 (fun h => h)).chg kk (fun h => h)
        exact this.rd i (bvs_get hil)
      refine opnI_c hcell ?_
      refine push_u8 T25 (w0 := w3) o f kk r[i] rfl (by omega) fun a4 c4 w6 o6 f6 k6 => ?_
      rw [wrap_nat (by omega)]
      refine ih (i + 1) a4 c4 w6 (by omega) ?_ f6 k6
      have e : r.take (i + 1) = r.take i ++ [r[i]] := by rw [List.take_add_one, List.getElem?_eq_getElem hil]; rfl
      rw [e, ← List.append_assoc, ← List.cons_append]
      exact o6
  have loop1 : ∀ (d i : Nat) (a : Option Addr) (c : Nat) (w5 : World), i + d = 32 → Own w5 5 1 a (1 + i) c (bvs (1 :: l.take i)) → (∀ y, At a y → w3.heap.size ≤ y) → Chg None w3 w5 → N_r08_Node.j3 Q k ⟨q1, 0, none⟩ ⟨q3, 0, none⟩ ⟨q5, 0, none⟩ a (1 + i) c (i : Int) w5 := by
    intro d
    induction d with
    | zero =>
      intro i a c w5 hi o f kk
      have hi' : i = 32 := by omega
      subst hi'
      rw [List.take_of_length_le (by omega)] at o
      refine N_r08_Node.j3_eq (h := c_nlt (by omega) ?_)
      exact loop2 32 0 a c w5 rfl (by simpa using o) f kk
    | succ d ih =>
      intro i a c w5 hi o f kk
      have hil : i < l.length := by omega
      refine N_r08_Node.j3_eq (h := c_lt (by omega) ⟨by omega, by omega, ?_⟩)
      have hcell : w5.cell? ((⟨q1, 0, none⟩ : Addr).add (Int.toNat (i : Int) * 1)) = some (bv l[i]) := by
        rw [Int.toNat_natCast, Nat.mul_one]
        have : Blk w5 q1 22 (bvs l) := by simpa using ((b1.chg k2 (fun h => h)).chg k3 (fun h => h)).chg kk (fun h => h)
        exact this.rd i (bvs_get hil)
      refine opnI_c hcell ?_
      refine push_u8 T25 (w0 := w3) o f kk l[i] rfl (by omega) fun a4 c4 w6 o6 f6 k6 => ?_
      rw [wrap_nat (by omega), show 1 + i + 1 = 1 + (i + 1) by omega]
      rw [show 1 + i + 1 = 1 + (i + 1) by omega] at o6
      refine ih (i + 1) a4 c4 w6 (by omega) ?_ f6 k6
      have e : l.take (i + 1) = l.take i ++ [l[i]] := by rw [List.take_add_one, List.getElem?_eq_getElem hil]; rfl
      rw [e, ← List.cons_append]
      exact o6
  exact loop1 32 0 (some ⟨q7, 0, none⟩) 1 w4 rfl (own_one (l := bvs [1]) b7) (by rintro y ⟨p, hp, hy⟩; cases hp; exact hy ▸ lo7) k4
theorem rhashAt_word {hs : List Hsh} {a1 : Option Addr} {c1 i : Nat} {S : Nat → Prop} (hl : Lies w S a1 (hvs hs)) (h56 : hs.length ≤ 65536) (hi : i < hs.length) (hQ : ∀ w', Chg None w w' → Q (.agg (hb (atL hs i)).toArray) w') : C_r10_hashAt #[.slice a1 (32 * hs.length) c1, .int .i64 (i : Int)] w Q := by
  refine C_r10_hashAt_eq _ _ _ _ _ _ ?_
  refine alZ_box zero28 fun p1 w1 b1 k1 lo1 => ?_
  refine alZ_box zero28 fun p3 w2 b3 k2 lo3 => ?_
  have k02 := k1.none_trans k2
  have b12 := b1.chg k2 (fun h => h)
  have s1 := k1.size
  have n13 : p1 ≠ p3 := by have := b1.lt; omega
  have go : ∀ (d j : Nat) (w3 : World), j + d = 32 → Blk w3 p3 22 ((hb (atL hs i)).take j ++ List.replicate (32 - j) (.int .u8 0)) → Chg (fun y => y = p3) w2 w3 → N_r10_hashAt.j3 Q a1 (32 * hs.length) c1 (i : Int) ⟨p1, 0, none⟩ ⟨p3, 0, none⟩ (j : Int) w3 := by
    intro d
    induction d with
    | zero =>
      intro j w3 hj h3 kk
      have hj' : j = 32 := by omega
      subst hj'
      refine N_r10_hashAt.j3_eq (h := c_nlt (by omega) ?_)
      have h3' : Blk w3 p3 22 (hb (atL hs i)) := by
        rw [List.take_of_length_le (by rw [hb_len]; exact Nat.le_refl _)] at h3
        simpa using h3
      refine Blk.rowAll h3' (n := 32 * 1) (hb_len _) ?_
      refine Blk.stAll (b12.chg kk n13) ?_ ?_ ?_ fun w4 h4 k4 => ?_
      · simp [hb_len]
      · simp [hb_len]
      · simpa using hb_one _
      refine Blk.rowAll h4 (n := 32 * 1) (by simp [hb_len]) ?_
      have := hQ w4 (Chg.fresh (Chg.fresh k02 kk fun y hy => by omega) k4 fun y hy => by omega)
      simpa using this
    | succ d ih =>
      intro j w3 hj h3 kk
      refine N_r10_hashAt.j3_eq (h := c_lt (by omega) ?_)
      have e1 : IntKind.wrap .i64 (32 * (i : Int)) = ((32 * i : Nat) : Int) := by rw [wrap_id (by omega) (by omega)]; omega
      have e2 : IntKind.wrap .i64 (((32 * i : Nat) : Int) + (j : Int)) = ((32 * i + j : Nat) : Int) := by rw [wrap_id (by omega) (by omega)]; omega
      rw [e1, e2, Int.toNat_natCast, Int.toNat_natCast]
      refine ⟨by omega, by omega, ?_⟩
      have hjb : j < (atL hs i).1.length := by rw [(atL hs i).2]; omega
      have hget : (hb (atL hs i))[j]? = some (bv ((atL hs i).1[j])) := bvs_get hjb
      have hcell : (hvs hs)[i * 32 + j]? = some (bv ((atL hs i).1[j])) := by
        rw [flat_get hb 32 hb_len hs i j (atL hs i) (atL_get hi) (by omega)]; exact hget
      have kw : Chg None w w3 := Chg.fresh k02 kk fun y hy => by omega
      obtain ⟨p, rfl, _, hc⟩ := (hl.chg0 kw) _ _ hcell
      rw [opnA_e, Nat.mul_one, Nat.mul_one]
      rw [Nat.mul_comm] at hc
      refine opnI_c hc ⟨by omega, by omega, ?_⟩
      have hlen3 : ((hb (atL hs i)).take j ++ List.replicate (32 - j) (Value.int .u8 0)).length = 32 := by simp [hb_len]; omega
      refine box_set h3 (j := j) (by rw [hlen3]; omega) rfl fun w4 h3' k4 => ?_
      rw [wrap_nat (by omega)]
      refine ih (j + 1) w4 (by omega) ?_ (Chg.trans kk k4 (fun _ _ h => h) (fun _ _ h => h))
      have e : ((hb (atL hs i)).take j ++ List.replicate (32 - j) (Value.int .u8 0)).set j (bv ((atL hs i).1[j])) = (hb (atL hs i)).take (j + 1) ++ List.replicate (32 - (j + 1)) (Value.int .u8 0) := by
        have hr : List.replicate (32 - j) (Value.int .u8 0) = Value.int .u8 0 :: List.replicate (32 - (j + 1)) (Value.int .u8 0) := by
          rw [show 32 - j = (32 - (j + 1)) + 1 by omega, List.replicate_succ]
        rw [hr, set_mid' (by rw [List.length_take, hb_len]; omega), List.take_add_one, hget]
        simp
      rw [← e]; exact h3'
  exact go 32 0 w2 rfl (by simpa using b3) (Chg.refl _ _)
/-- the hash over 2^r hashes from hash i on -/
theorem rjoined_word {k : Int} {hs : List Hsh} {a1 : Option Addr} {c1 : Nat} (h56 : hs.length ≤ 65536) : ∀ (r i : Nat) {S : Nat → Prop} {Q : Value → World → Prop} {w : World}, r ≤ 8 → i + 2 ^ r ≤ hs.length → RShaStd w → Lies w S a1 (hvs hs) → (∀ w', Chg None w w' → Q (.agg (hb (nodeAt k (fun j => atL hs (i + j)) r 0)).toArray) w') →
    C_r10_joined #[.int .i64 k, .slice a1 (32 * hs.length) c1, .int .i64 (i : Int), .int .i64 (r : Int)] w Q := by
  intro r
  induction r with
  | zero =>
    intro i S Q w _ hi sd hl hQ
    refine C_r10_joined_eq _ _ _ _ _ _ _ _ ?_
    refine alZ_box zero28 fun p1 w1 h1 k1 lo1 => ?_
    refine c_eq rfl ?_
    refine rhashAt_word (hl.chg0 k1) h56 (by omega) fun w2 k2 => ?_
    rw [opnG_s]
    refine Blk.stAll (h1.chg k2 (fun h => h)) ?_ ?_ ?_ fun w3 h3 k3 => ?_
    · simp [hb_len]
    · simp [hb_len]
    · simpa using hb_one _
    refine Blk.rowAll h3 (n := 32 * 1) (by simp [hb_len]) ?_
    have := hQ w3 (Chg.fresh (k1.none_trans k2) k3 fun y hy => by omega)
    simpa [nodeAt] using this
  | succ r ih =>
    intro i S Q w hr hi sd hl hQ
    have e2 : 2 ^ (r + 1) = 2 ^ r + 2 ^ r := by rw [Nat.pow_succ]; omega
    have hp0 : 0 < 2 ^ r := Nat.pow_pos (by decide)
    have hp8 : 2 ^ r ≤ 2 ^ 8 := Nat.pow_le_pow_right (by decide) (by omega)
    refine C_r10_joined_eq _ _ _ _ _ _ _ _ ?_
    refine alZ_box zero28 fun p1 w1 h1 k1 lo1 => ?_
    refine c_neq (by omega) ?_
    have e1 : IntKind.wrap .i64 (((r + 1 : Nat) : Int) - 1) = (r : Int) := by rw [wrap_id (by omega) (by omega)]; omega
    rw [e1]
    refine Pl.rpow_word (by omega) (opnI_c rfl ?_)
    refine ih i (by omega) (by omega) (sd.chg0 k1) (hl.chg0 k1) fun w2 k2 => ?_
    rw [opnG_s]
    refine alZ_box zero28 fun p8 w3 h8 k3 lo3 => ?_
    refine Blk.stAll h8 ?_ ?_ ?_ fun w4 h84 k4 => ?_
    · simp [hb_len]
    · simp [hb_len]
    · simpa using hb_one _
    have s1 := k1.size
    have s2 := k2.size
    have lt1 := h1.lt
    have k04 := Chg.fresh ((k1.none_trans k2).none_trans k3) k4 fun x hx => by omega
    have h14 := ((h1.chg k2 (fun h => h)).chg k3 (fun h => h)).chg k4 (fun e => by omega)
    have h84' : Blk w4 p8 22 (hb (nodeAt k (fun j => atL hs (i + j)) r 0)) := by simpa using h84
    rw [show IntKind.wrap .i64 ((i : Int) + ((2 ^ r : Nat) : Int)) = ((i + 2 ^ r : Nat) : Int) by rw [wrap_id (by omega) (by omega)]; omega]
    refine ih (i + 2 ^ r) (by omega) (by omega) (sd.chg0 k04) (hl.chg0 k04) fun w5 k5 => ?_
    rw [opnG_s]
    refine alZ_box zero28 fun p14 w6 h6 k6 lo6 => ?_
    refine Blk.stAll h6 ?_ ?_ ?_ fun w7 h147 k7 => ?_
    · simp [hb_len]
    · simp [hb_len]
    · simpa using hb_one _
    have s4 := k04.size
    have s5 := k5.size
    have lt8 := h84'.lt
    have lt14 := h14.lt
    have k07 := Chg.fresh ((k04.none_trans k5).none_trans k6) k7 fun x hx => by omega
    have h17 := ((h14.chg k5 (fun h => h)).chg k6 (fun h => h)).chg k7 (fun e => by omega)
    have h87 := ((h84'.chg k5 (fun h => h)).chg k6 (fun h => h)).chg k7 (fun e => by omega)
    refine Blk.rowAll h87 (n := 32 * 1) (hb_len _) (Blk.rowAll h147 (n := 32 * 1) (by simp [hb_len]) ?_)
    refine rnode_word (sd.chg0 k07) (nodeAt k (fun j => atL hs (i + j)) r 0).2 (nodeAt k (fun j => atL hs (i + 2 ^ r + j)) r 0).2 fun w8 k8 => ?_
    rw [opnG_s]
    have hv8 : (bvs (nodeV k (nodeAt k (fun j => atL hs (i + j)) r 0).1 (nodeAt k (fun j => atL hs (i + 2 ^ r + j)) r 0).1)).length = 32 := by rw [bvs_len, nodeV_len]
    refine Blk.stAll (h17.chg k8 (fun h => h)) ?_ ?_ ?_ fun w9 h9 k9 => ?_
    · exact hv8
    · simpa using hv8
    · rw [List.all_eq_true]; exact bvs_one
    refine Blk.rowAll h9 (n := 32 * 1) hv8 ?_
    have eh : nodeAt k (fun j => atL hs (i + 2 ^ r + j)) r 0 = nodeAt k (fun j => atL hs (i + j)) r 1 := by
      have := nodeAt_shift (k := k) (f := fun j => atL hs (i + j)) (l0 := 0) r 1 0
      rw [Nat.zero_add, Nat.one_mul] at this
      rw [← this]
      congr 1
      funext x
      rw [Nat.add_assoc]; rfl
    have := hQ w9 (Chg.fresh (k07.none_trans k8) k9 fun x hx => by omega)
    rw [nodeAt, Nat.mul_zero, Nat.zero_add, ← eh] at this
    exact this
end
end Go.Proofs.YtccjncflbbhldaaGreatDoor
/-! ## PathWalk -/
set_option maxRecDepth 10000
namespace Go.Proofs.YtccjncflbbhldaaGreatDoor
open Go.Sh Go.RowKit

theorem ba_app (a b : List UInt8) : (⟨a.toArray⟩ : ByteArray) ++ ⟨b.toArray⟩ = ⟨(a ++ b).toArray⟩ := by
  apply ByteArray.ext
  rw [ByteArray.data_append]; simp
theorem ba_size (l : List UInt8) : (⟨l.toArray⟩ : ByteArray).size = l.length := by simp [ByteArray.size]
theorem ba_ext (l : List UInt8) (i j : Nat) : (⟨l.toArray⟩ : ByteArray).extract i j = ⟨((l.drop i).take (j - i)).toArray⟩ := by
  apply ByteArray.ext
  simp [ByteArray.data_extract]
theorem tmod3 (n : Nat) : Int.tmod (n : Int) 3 = ((n % 3 : Nat) : Int) := rfl
theorem blk_eq {w w' : World} {b T : Nat} {l : List Value} (h : Blk w b T l) (e : w'.heap[b]? = w.heap[b]?) : Blk w' b T l := by
  obtain ⟨fr, h1, h2⟩ := h
  exact ⟨fr, by rw [e]; exact h1, h2⟩
section
variable {Q : Value → World → Prop} {w w0 : World} {b0 bb : Nat} {t : Tl} {l : List UInt8}
end
end Go.Proofs.YtccjncflbbhldaaGreatDoor
/-! ## GuessWalk -/
set_option maxRecDepth 10000
namespace Go.Proofs.YtccjncflbbhldaaGreatDoor
open Go.Sh Go.RowKit

theorem and15 (x : Int) : bits .and .i64 x 15 = x % 16 := by
  show IntKind.i64.wrap ((BitVec.ofInt 64 x &&& BitVec.ofInt 64 15).toNat : Int) = _
  rw [BitVec.toNat_and, BitVec.toNat_ofInt, show (BitVec.ofInt 64 15).toNat = 2 ^ 4 - 1 from rfl, Nat.and_two_pow_sub_one_eq_mod, IntKind.wrap_i64]
  omega
theorem slA_three {b c : Nat} (h : 3 < c) : slA (some ⟨b, 0, none⟩) (Int.toNat 3) c 1 = some ⟨b, 3, none⟩ := by
  unfold slA
  split
  · rename_i g; exact absurd g (by simp; omega)
  · rfl
theorem ba_list (l : List UInt8) : (⟨l.toArray⟩ : ByteArray).data.toList = l := by simp
section
variable {Q : Value → World → Prop} {w w0 : World}
end
end Go.Proofs.YtccjncflbbhldaaGreatDoor
/-! ## ParseWalk -/
set_option maxRecDepth 10000
namespace Go.Proofs.YtccjncflbbhldaaGreatDoor
open Go.Sh Go.RowKit

theorem atoi_fits (l : List UInt8) : -9223372036854775808 ≤ atoiV l ∧ atoiV l ≤ 9223372036854775807 := by
  unfold atoiV
  cases h : Lib.atoiAll l with
  | ok v =>
    show _ ≤ v ∧ v ≤ _
    unfold Lib.atoiAll at h
    split at h
    · cases h
    · simp only at h
      split at h
      · cases h
      · cases h
      · split at h
        · cases h
        · split at h
          · cases h
          · injection h with h
            subst h
            split <;> omega
  | «syntax» => exact (show (-9223372036854775808 : Int) ≤ 0 ∧ (0 : Int) ≤ 9223372036854775807 by omega)
  | range =>
    show _ ≤ Lib.atoiSat l ∧ Lib.atoiSat l ≤ _
    unfold Lib.atoiSat
    split <;> omega
theorem parse_fits (l : List UInt8) : -9223372036854775808 ≤ parseV l ∧ parseV l ≤ 9223372036854775807 := by
  unfold parseV
  cases h : Lib.parseIntB 64 l with
  | ok v =>
    show _ ≤ v ∧ v ≤ _
    unfold Lib.parseIntB at h
    split at h
    · cases h
    · simp only at h
      split at h
      · cases h
      · cases h
      · split at h
        · cases h
        · split at h
          · cases h
          · injection h with h
            subst h
            split <;> omega
  | «syntax» => exact (show (-9223372036854775808 : Int) ≤ 0 ∧ (0 : Int) ≤ 9223372036854775807 by omega)
  | range =>
    show _ ≤ Lib.intSat 64 l ∧ Lib.intSat 64 l ≤ _
    unfold Lib.intSat
    split <;> simp <;> omega
theorem guess_fits (ps : List (List UInt8)) : fitsT (guessV ps) := by
  unfold guessV
  split
  · unfold fitsT tz; simp
  · refine ⟨atoi_fits _, atoi_fits _, parse_fits _, ?_⟩
    simp only
    split
    · exact atoi_fits _
    · have h1 : (2 : Nat) ^ ((atoiV (ps[1]?.getD [])) % 16).toNat ≤ 2 ^ 16 := Nat.pow_le_pow_right (by decide) (by omega)
      have h3 : 0 < (2 : Nat) ^ ((atoiV (ps[1]?.getD [])) % 16).toNat := Nat.pow_pos (by decide)
      have h2 : ((2 ^ ((atoiV (ps[1]?.getD [])) % 16).toNat : Nat) : Int) = (2 : Int) ^ ((atoiV (ps[1]?.getD [])) % 16).toNat := by norm_cast
      omega
/-- what ParsePath answers -/
def goodP (s : List UInt8) : Prop := s.length ≤ 200 ∧ okT (guessV (cutAt 47 s)) ∧ pathB (guessV (cutAt 47 s)) = s
theorem goodP_path {t : Tl} (h : okT t) : goodP (pathB t) ∧ guessV (cutAt 47 (pathB t)) = t := by
  have e : guessV (cutAt 47 (pathB t)) = t := by rw [cut_path h, guess_path h]
  exact ⟨⟨path_len h, by rw [e]; exact h, by rw [e]⟩, e⟩
end Go.Proofs.YtccjncflbbhldaaGreatDoor
/-! ## RefPath -/
set_option maxRecDepth 10000
namespace Go.Proofs.YtccjncflbbhldaaGreatDoor
open Go.Sh Go.RowKit

/-! ### numbers read loosely -/
def isDigB (c : UInt8) : Bool := decide (48 ≤ c.toNat) && decide (c.toNat ≤ 57)
def loCap : Nat := 1125899906842624
theorem loCap_eq : loCap = 1125899906842624 := rfl
def looseG : Nat → List UInt8 → Nat
  | n, [] => n
  | n, c :: r => looseG (if isDigB c = true ∧ n < loCap then n * 10 + (c.toNat - 48) else n) r
theorem loose_app : ∀ (n : Nat) (a b : List UInt8), looseG n (a ++ b) = looseG (looseG n a) b
  | _, [], _ => rfl
  | n, c :: a, b => by simp only [List.cons_append, looseG]; exact loose_app _ a b
theorem loose_filter : ∀ (n : Nat) (l : List UInt8), looseG n (l.filter isDigB) = looseG n l
  | _, [] => rfl
  | n, c :: r => by
    cases hc : isDigB c with
    | true => rw [List.filter_cons_of_pos (by simpa using hc), looseG, looseG]; exact loose_filter _ r
    | false =>
      rw [List.filter_cons_of_neg (by simp [hc]), looseG, if_neg (by simp [hc])]
      exact loose_filter n r
theorem isDigB_of {c : UInt8} (h : isDig c) : isDigB c = true := by unfold isDig at h; simp [isDigB, h.1, h.2]
theorem loose_dec : ∀ (u : Nat), u < loCap → looseG 0 (Lib.decDigits u) = u := by
  intro u
  induction u using Nat.strongRecOn with
  | ind u ih =>
    intro hu
    rw [Lib.decDigits]
    split
    · rename_i h
      have hd := dig_of u h
      have hb : isDigB (UInt8.ofNat (48 + u)) = true := isDigB_of (by unfold isDig; rw [hd]; omega)
      rw [looseG, looseG, if_pos ⟨hb, by decide⟩, hd]
      omega
    · rename_i h
      have hd := dig_of (u % 10) (by omega)
      have hb : isDigB (UInt8.ofNat (48 + u % 10)) = true := isDigB_of (by unfold isDig; rw [hd]; omega)
      rw [loose_app, ih (u / 10) (by omega) (by omega), looseG, looseG, if_pos ⟨hb, by omega⟩, hd]
      omega
theorem loose_zeros (l : List UInt8) : ∀ k, looseG 0 (List.replicate k 48 ++ l) = looseG 0 l
  | 0 => rfl
  | k + 1 => by rw [List.replicate_succ, List.cons_append, looseG, show (if isDigB 48 = true ∧ 0 < loCap then 0 * 10 + ((48 : UInt8).toNat - 48) else 0) = 0 by decide, loose_zeros l k]
theorem loose_lt : ∀ (l : List UInt8) (n : Nat), n < 11258999068426250 → looseG n l < 11258999068426250
  | [], n, h => h
  | c :: r, n, h => by
    rw [looseG]
    refine loose_lt r _ ?_
    split
    · rename_i hc
      have h1 : c.toNat ≤ 57 := by
        have := hc.1
        unfold isDigB at this
        simp at this
        exact this.2
      have h2 := hc.2
      have := loCap_eq
      omega
    · exact h
section
variable {Q : Value → World → Prop} {w w0 : World}
theorem wrap_natv {n : Nat} (h : n < 9223372036854775808) : IntKind.wrap .i64 ((n : Nat) : Int) = ((n : Nat) : Int) := wrap_id (by omega) (by omega)
theorem rpower_word {n : Int} (h0 : 0 ≤ n) (h1 : n ≤ 62) (hQ : Q (.int .i64 (2 ^ n.toNat)) w) : C_r10_power #[.int .i64 n] w Q := by
  obtain ⟨m, rfl⟩ := Int.eq_ofNat_of_zero_le h0
  refine C_r10_power_eq _ _ _ ?_
  have e : IntKind.wrap .u64 ((m : Nat) : Int) = ((m : Nat) : Int) := by rw [IntKind.wrap_u64]; omega
  rw [e]
  refine nn_nat ?_
  have := shl_nat 1 m (by omega) (by rw [Nat.one_mul]; exact Nat.lt_of_le_of_lt (Nat.pow_le_pow_right (by decide) (by omega : m ≤ 62)) (by decide))
  rw [show (1 : Int) = ((1 : Nat) : Int) from rfl, this, Nat.one_mul]
  rw [Int.toNat_natCast] at hQ
  norm_cast at hQ ⊢
theorem rdoc_word {t : Tl} (hQ : ∀ w', Chg None w w' → Q (tg t) w') : C_l10_doc #[tg t] w Q := by
  refine C_l10_doc_eq _ _ _ _ _ _ _ ?_
  refine alC_box fun b w1 hb k1 hlo => ?_
  refine alC_box fun b2 w2 hb2 k2 hlo2 => ?_
  have hb' := hb.chg k2 (fun h => h)
  refine ld5 hb' ?_
  refine st5 hb2 fun w3 hb3 k3 => ?_
  refine ld5 hb3 ?_
  exact hQ w3 (Chg.fresh (k1.none_trans k2) k3 fun x hx => by rw [hx]; exact Nat.le_trans k1.size hlo2)
end
end Go.Proofs.YtccjncflbbhldaaGreatDoor
/-! ## RefTree -/
set_option maxRecDepth 10000
namespace Go.Proofs.YtccjncflbbhldaaGreatDoor
open Go.Sh Go.RowKit
open Pl (wid cnt wrap_mul idxOk tlOf firstOf foldOf atOf fold_lt rindex_word rsplit_word rrecord_word rlaid_word rwidth_word widV rof_word ofV rpow_word)
open Classical in
/-- what FromTree answers: its error, its bytes -/
noncomputable def ftE (st : List Hsh) (t : Tl) : Int :=
  if ¬ okT t ∨ t.D = true then 101 else if 131071 < st.length then 2 else if laid (recOf st.length) ≠ st.length then 80 else if wid t.H.toNat t.L.toNat t.N.toNat (recOf st.length) < t.W.toNat then 105 else 0
noncomputable def ftB (st : List Hsh) (t : Tl) : List UInt8 := if ftE st t = 0 then bytesOf (tileHs st t.H.toNat t.L.toNat t.N.toNat t.W.toNat) else []
section
variable {Q : Value → World → Prop} {w : World}
theorem ft_all {st : List Hsh} {t : Tl} {S : Nat → Prop} (hQ : ∀ a c w', Own w' 5 1 a (ftB st t).length c (bvs (ftB st t)) → (∀ x, At a x → w.heap.size ≤ x) → Chg None w w' → Q (.tuple #[.slice a (ftB st t).length c, .int .i64 (ftE st t)]) w') :
    (¬ okT t ∨ t.D = true → ∀ w', Chg None w w' → Q (.tuple #[.slice none 0 0, .int .i64 101]) w') ∧
    (okT t → t.D = false → 131071 < st.length → ∀ w', Chg None w w' → Q (.tuple #[.slice none 0 0, .int .i64 2]) w') ∧
    (okT t → t.D = false → st.length ≤ 131071 → laid (recOf st.length) ≠ st.length → ∀ w', Chg None w w' → Q (.tuple #[.slice none 0 0, .int .i64 80]) w') ∧
    (okT t → t.D = false → st.length ≤ 131071 → laid (recOf st.length) = st.length → wid t.H.toNat t.L.toNat t.N.toNat (recOf st.length) < t.W.toNat → ∀ w', Chg None w w' → Q (.tuple #[.slice none 0 0, .int .i64 105]) w') ∧
    (okT t → t.D = false → st.length ≤ 131071 → laid (recOf st.length) = st.length → t.W.toNat ≤ wid t.H.toNat t.L.toNat t.N.toNat (recOf st.length) → ∀ a c w', Own w' 5 1 a (32 * t.W.toNat) c (bvs (bytesOf (tileHs st t.H.toNat t.L.toNat t.N.toNat t.W.toNat))) → (∀ x, At a x → w.heap.size ≤ x) → Chg None w w' → Q (.tuple #[.slice a (32 * t.W.toNat) c, .int .i64 0]) w') := by
  have no : ∀ E : Int, E ≠ 0 → ftE st t = E → ∀ w', Chg None w w' → Q (.tuple #[.slice none 0 0, .int .i64 E]) w' := fun E h0 he w' k => by
    have hb : ftB st t = [] := by unfold ftB; rw [he, if_neg h0]
    have := hQ none 0 w' (by rw [hb]; exact Own.nil) (by rintro x ⟨p, hp, _⟩; cases hp) k
    rw [hb, he] at this
    exact this
  refine ⟨fun h => no 101 (by decide) (by unfold ftE; rw [if_pos h]), fun h1 h2 h3 => no 2 (by decide) ?_, fun h1 h2 h3 h4 => no 80 (by decide) ?_, fun h1 h2 h3 h4 h5 => no 105 (by decide) ?_, fun h1 h2 h3 h4 h5 a c w' o f k => ?_⟩
  · unfold ftE; rw [if_neg (by simp [h1, h2]), if_pos h3]
  · unfold ftE; rw [if_neg (by simp [h1, h2]), if_neg (by omega), if_pos h4]
  · unfold ftE; rw [if_neg (by simp [h1, h2]), if_neg (by omega), if_neg (by simp [h4]), if_pos h5]
  · have he : ftE st t = 0 := by unfold ftE; rw [if_neg (by simp [h1, h2]), if_neg (by omega), if_neg (by simp [h4]), if_neg (by omega)]
    have hb : ftB st t = bytesOf (tileHs st t.H.toNat t.L.toNat t.N.toNat t.W.toNat) := by unfold ftB; rw [if_pos he]
    have hl : (ftB st t).length = 32 * t.W.toNat := by rw [hb, bytesOf_len, tileHs_len]
    have := hQ a c w' (by rw [hl, hb]; exact o) f k
    rw [hl, he] at this
    exact this
end
end Go.Proofs.YtccjncflbbhldaaGreatDoor
/-! ## ShL17 -/
namespace Go.Sh
open Go.ChangeShapes
variable {P : Program}
theorem eqItems_bytes (w : World) {e d : Nat} (he : P.underlying e = some (.int .u8)) (hc : P.cellsOf e = 1) {xs ys : List UInt8} : ∀ (is : List Nat), (∀ i ∈ is, i < xs.length ∧ i < ys.length) → (Op.eqItems (d + 1) e (P.cellsOf e) (bvs xs).toArray (bvs ys).toArray is).run P w = .ok (is.all fun i => xs.getD i 0 == ys.getD i 0) w
  | [], _ => by simp [Op.eqItems]
  | i :: is, h => by
    have ih := eqItems_bytes w (d := d) he hc is fun j hj => h j (List.mem_cons_of_mem _ hj)
    obtain ⟨h1, h2⟩ := h i (by simp)
    have pk : P.plainKey e = true := by unfold Program.plainKey; rw [he]
    have hx : (bvs xs).toArray[i * P.cellsOf e]? = some (.int .u8 (xs[i].toNat : Int)) := by rw [hc, Nat.mul_one]; simp [bvs, bv, h1]
    have hy : (bvs ys).toArray[i * P.cellsOf e]? = some (.int .u8 (ys[i].toNat : Int)) := by rw [hc, Nat.mul_one]; simp [bvs, bv, h2]
    simp only [Op.eqItems, Sem.run_bind, run_part_plain w pk hx, run_part_plain w pk hy, run_equalIn_int w d _ _ _ _ _ he, Result.andThen_ok]
    have e1 : ((xs[i].toNat : Int) == (ys[i].toNat : Int)) = (xs.getD i 0 == ys.getD i 0) := by
      have a1 : xs.getD i 0 = xs[i] := by simp [h1]
      have a2 : ys.getD i 0 = ys[i] := by simp [h2]
      rw [a1, a2, Bool.eq_iff_iff, beq_iff_eq, beq_iff_eq]
      constructor
      · intro h; exact UInt8.toNat_inj.1 (by omega)
      · intro h; rw [h]
    rw [e1, List.all_cons]
    generalize (xs.getD i 0 == ys.getD i 0) = q
    generalize (is.all fun i => xs.getD i 0 == ys.getD i 0) = r at ih
    cases q
    · simp
    · simpa using ih
theorem all_range_eq {xs ys : List UInt8} (h : xs.length = ys.length) : ((List.range xs.length).all fun i => xs.getD i 0 == ys.getD i 0) = decide (xs = ys) := by
  rw [Bool.eq_iff_iff, List.all_eq_true, decide_eq_true_iff]
  constructor
  · intro H
    apply List.ext_getElem h
    intro i h1 h2
    have := H i (List.mem_range.2 h1)
    simpa [h1, h2] using this
  · rintro rfl i hi
    simp
/-- arrays of bytes, compared -/
structure ArrT (P : Program) (t e n : Nat) : Prop where
  guard : P.eqGuardType P.depth t = false
  under : P.underlying t = some (.array n e)
  elem : P.underlying e = some (.int .u8)
  info : (P.info? e).isSome = true
  cells : P.cellsOf e = 1
theorem arr_run {t e n : Nat} (T : ArrT P t e n) (w : World) {xs ys : List UInt8} (hx : xs.length = n) (hy : ys.length = n) : (Op.equalIn 10000 t (.agg (bvs xs).toArray) (.agg (bvs ys).toArray)).run P w = .ok (decide (xs = ys)) w := by
  obtain ⟨i, hi⟩ := Option.isSome_iff_exists.1 T.info
  rw [show (10000 : Nat) = 9999 + 1 from rfl, run_equalIn_array w 9999 _ _ T.under hi, show (9999 : Nat) = 9998 + 1 from rfl, eqItems_bytes w T.elem T.cells _ fun i hi => by have := List.mem_range.1 hi; omega]
  subst hx
  rw [all_range_eq hy.symm]
theorem arr_neq {t e n : Nat} (T : ArrT P t e n) {x y : Operand} {xs ys : List UInt8} (hx : xs.length = n) (hy : ys.length = n) {w : World} {K : Value → Prop} (hK : K (.bool (!decide (xs = ys)))) : semR P (do eqGuard .neq t x y (.agg (bvs xs).toArray) (.agg (bvs ys).toArray); binOp .neq t (.agg (bvs xs).toArray) (.agg (bvs ys).toArray)) w K := by
  unfold semR
  simp only [Sem.run_bind, run_eqGuard_agg w .neq t x y _ _ T.guard, Result.andThen_ok, run_neq_struct, arr_run T w hx hy]
  exact ⟨trivial, hK⟩
theorem arr_eql {t e n : Nat} (T : ArrT P t e n) {x y : Operand} {xs ys : List UInt8} (hx : xs.length = n) (hy : ys.length = n) {w : World} {K : Value → Prop} (hK : K (.bool (decide (xs = ys)))) : semR P (do eqGuard .eql t x y (.agg (bvs xs).toArray) (.agg (bvs ys).toArray); binOp .eql t (.agg (bvs xs).toArray) (.agg (bvs ys).toArray)) w K := by
  unfold semR
  simp only [Sem.run_bind, run_eqGuard_agg w .eql t x y _ _ T.guard, Result.andThen_ok, run_eql_struct, arr_run T w hx hy]
  exact ⟨trivial, hK⟩
end Go.Sh
/-! ## WidthsLaw -/
set_option maxRecDepth 10000
namespace Go.Proofs.YtccjncflbbhldaaGreatDoor
open Go.Sh Go.RowKit
open Pl (tlOf firstOf foldOf atOf fold_lt wid cnt widV ofV)
theorem A29 : ArrT PP 54 5 32 := ⟨by kernel_rfl, by kernel_rfl, by kernel_rfl, by kernel_rfl, by kernel_rfl⟩
theorem fits_nat {h l n wd : Nat} {D : Bool} (h1 : h ≤ 9223372036854775807) (h2 : l ≤ 9223372036854775807) (h3 : n ≤ 9223372036854775807) (h4 : wd ≤ 9223372036854775807) : fitsT ⟨h, l, n, wd, D⟩ := by
  refine ⟨⟨?_, ?_⟩, ⟨?_, ?_⟩, ⟨?_, ?_⟩, ⟨?_, ?_⟩⟩ <;> simp only <;> omega
/-- a tile of the tree: its place, its width in a tree of n records -/
structure Fine (h l nn n : Nat) : Prop where
  h1 : 1 ≤ h
  h8 : h ≤ 8
  l48 : h * l ≤ 48
  n64 : n ≤ 65536
theorem wid_le {h l nn n : Nat} : wid h l nn n ≤ 2 ^ h := by
  unfold Pl.wid
  split
  · exact Nat.zero_le _
  · split
    · exact Nat.zero_le _
    · exact Nat.min_le_right _ _
section
variable {Q : Value → World → Prop} {w : World}
theorem Fine.small {h l nn n wd : Nat} (F : Fine h l nn n) (h1 : 1 ≤ wd) (hw : wd ≤ wid h l nn n) : nn ≤ 65536 := by
  have hf := wid_fits h1 hw
  have hp1 : 1 ≤ 2 ^ (h * l) := Nat.pow_pos (by decide)
  have hp2 : 1 ≤ 2 ^ h := Nat.pow_pos (by decide)
  have e1 : (nn * 2 ^ h + wd) * 1 ≤ (nn * 2 ^ h + wd) * 2 ^ (h * l) := Nat.mul_le_mul_left _ hp1
  have e2 : nn * 1 ≤ nn * 2 ^ h := Nat.mul_le_mul_left _ hp2
  have := F.n64
  omega
theorem ofV_tl {h p : Nat} (h1 : 1 ≤ h) (h8 : h ≤ 8) (hp : p < 562949953421311) : ofV (h : Int) (p : Int) = (⟨h, (levOf p / h : Nat), (atOf h p / 2 ^ h : Nat), (firstOf h p + 2 ^ foldOf h p : Nat), false⟩, 0) := by
  unfold Pl.ofV
  rw [if_pos ⟨by omega, by omega, by omega, by omega⟩, Int.toNat_natCast, Int.toNat_natCast]; rfl
theorem widV_n {h l nn n : Nat} (h1 : 1 ≤ h) (h8 : h ≤ 8) (hn : n ≤ 65536) : widV (h : Int) (l : Int) (nn : Int) (n : Int) = (((wid h l nn n : Nat) : Int), 0) := by
  unfold Pl.widV
  rw [if_pos ⟨by omega, by omega, by omega, by omega, by omega, by omega⟩, Int.toNat_natCast, Int.toNat_natCast, Int.toNat_natCast, Int.toNat_natCast]
end
end Go.Proofs.YtccjncflbbhldaaGreatDoor
/-! ## RefInside -/
set_option maxRecDepth 10000
namespace Go.Proofs.YtccjncflbbhldaaGreatDoor
open Go.Sh Go.RowKit
open Pl (tlOf firstOf foldOf fold_lt)
theorem run28 (w : World) : (Instr.build 22 #[]).run PP w = .ok (.agg (hb zeroH).toArray) w := run_build w 22 _ _ (by kernel_rfl)
theorem build28 {K : Value → Prop} : semP PP (Instr.build 22 #[]) K = K (.agg (hb zeroH).toArray) := by
  unfold semP
  rw [run28]
theorem T35 : SlT PP 35 22 32 32 := ⟨by kernel_rfl, by kernel_rfl⟩
/-- bytes as hashes -/
theorem rows_ex : ∀ (m : Nat) (l : List UInt8), l.length = 32 * m → ∃ hs : List Hsh, hs.length = m ∧ hvs hs = bvs l
  | 0, l, h => ⟨[], rfl, by rw [List.eq_nil_of_length_eq_zero (l := l) (by omega)]; rfl⟩
  | m + 1, l, h => by
    obtain ⟨hs, h1, h2⟩ := rows_ex m (l.drop 32) (by rw [List.length_drop]; omega)
    refine ⟨⟨l.take 32, by rw [List.length_take]; omega⟩ :: hs, by simp [h1], ?_⟩
    show bvs (l.take 32) ++ hvs hs = bvs l
    rw [h2, ← bvs_app, List.take_append_drop]
open Classical in
/-- what Inside answers: its error, the hash -/
noncomputable def inE (t : Tl) (n : Nat) (c : Int) : Int :=
  if ¬ okT t ∨ t.D = true then 101 else if (n : Int) ≠ 32 * t.W then 102 else if ∃ c' : Nat, c = c' ∧ c' < 562949953421311 ∧ inT t c' then 0 else 105
noncomputable def inH (k : Int) (t : Tl) (n : Nat) (hs : List Hsh) (c : Int) : Hsh := if inE t n c = 0 then nodeAt k (fun i => atL hs (firstOf t.H.toNat c.toNat + i)) (foldOf t.H.toNat c.toNat) 0 else zeroH
section
variable {Q : Value → World → Prop} {w : World}
theorem in_all {k : Int} {t : Tl} {n : Nat} {hs : List Hsh} {c : Int} (hQ : ∀ w', Chg None w w' → Q (.tuple #[.agg (hb (inH k t n hs c)).toArray, .int .i64 (inE t n c)]) w') :
    (¬ okT t ∨ t.D = true → ∀ w', Chg None w w' → Q (.tuple #[.agg (hb zeroH).toArray, .int .i64 101]) w') ∧
    (okT t → t.D = false → (n : Int) ≠ 32 * t.W → ∀ w', Chg None w w' → Q (.tuple #[.agg (hb zeroH).toArray, .int .i64 102]) w') ∧
    (okT t → t.D = false → (n : Int) = 32 * t.W → ¬ (∃ c' : Nat, c = c' ∧ c' < 562949953421311 ∧ inT t c') → ∀ w', Chg None w w' → Q (.tuple #[.agg (hb zeroH).toArray, .int .i64 105]) w') ∧
    (∀ c' : Nat, okT t → t.D = false → (n : Int) = 32 * t.W → c = c' → c' < 562949953421311 → inT t c' → ∀ w', Chg None w w' → Q (.tuple #[.agg (hb (nodeAt k (fun i => atL hs (firstOf t.H.toNat c' + i)) (foldOf t.H.toNat c') 0)).toArray, .int .i64 0]) w') := by
  have no : ∀ E : Int, E ≠ 0 → inE t n c = E → ∀ w', Chg None w w' → Q (.tuple #[.agg (hb zeroH).toArray, .int .i64 E]) w' := fun E h0 he w' kk => by
    have hb' : inH k t n hs c = zeroH := by unfold inH; rw [he, if_neg h0]
    have := hQ w' kk
    rw [hb', he] at this
    exact this
  refine ⟨fun h => no 101 (by decide) (by unfold inE; rw [if_pos h]), fun h1 h2 h3 => no 102 (by decide) ?_, fun h1 h2 h3 h4 => no 105 (by decide) ?_, fun c' h1 h2 h3 h4 h5 h6 w' kk => ?_⟩
  · unfold inE; rw [if_neg (by simp [h1, h2]), if_pos h3]
  · unfold inE; rw [if_neg (by simp [h1, h2]), if_neg (by simp [h3]), if_neg h4]
  · have he : inE t n c = 0 := by unfold inE; rw [if_neg (by simp [h1, h2]), if_neg (by simp [h3]), if_pos ⟨c', h4, h5, h6⟩]
    have := hQ w' kk
    unfold inH at this
    rw [if_pos he, he, h4, Int.toNat_natCast] at this
    exact this
theorem st_zero28 {b8 : Nat} {w1 : World} {o : Hsh} {x : Hsh} {e : Int} (h1 : Blk w1 b8 22 (hb o)) (hQ : ∀ w2, Chg (fun k => k = b8) w1 w2 → Q (.tuple #[.agg (hb x).toArray, .int .i64 e]) w2) : stRow ⟨b8, 0, none⟩ (hb x).toArray (32 * 1) w1 fun w18 => opnRow w18 ⟨b8, 0, none⟩ (32 * 1) fun x19 => Q (.tuple #[.agg x19, .int .i64 e]) w18 := by
  refine Blk.stAll h1 ?_ ?_ ?_ fun w2 h2 k2 => ?_
  · simp [hb_len]
  · simp [hb_len]
  · simpa using hb_one _
  refine Blk.rowAll h2 (n := 32 * 1) (by simp [hb_len]) ?_
  simpa using hQ w2 k2
/-- two lists of hashes that read alike -/
theorem hashesx_word {st : List Hsh} {a a' : Option Addr} {n c n' c' : Nat} {S S' : Nat → Prop} (hn : n = st.length) (hn' : n' = st.length) (h : Lies w S a (hvs st)) (h' : Lies w S' a' (hvs st)) (hb' : st.length < 9223372036854775807) (hQ : ∀ w', Chg None w w' → Q (.bool true) w') : C_l10_hashes #[.slice a n c, .slice a' n' c'] w Q := by
  subst hn hn'
  refine C_l10_hashes_eq _ _ _ _ _ _ _ _ (c_nne rfl ?_)
  have go : ∀ (d i : Nat) (w1 : World), i + d = st.length → Chg None w w1 → N_l10_hashes.j4 Q a st.length c a' st.length c' (i : Int) w1 := by
    intro d
    induction d with
    | zero =>
      intro i w1 hi k
      exact N_l10_hashes.j4_eq (h := c_nlt (by omega) (hQ w1 k))
    | succ d ih =>
      intro i w1 hi k
      have hil : i < st.length := by omega
      have hg := List.getElem?_eq_getElem hil
      refine N_l10_hashes.j4_eq (h := c_lt (by omega) ?_)
      rw [drw_s]
      have k2 := k.none_trans (Chg.drew0 (D := None) w1)
      generalize w1.drew = w2 at k2
      refine ⟨by omega, by omega, ?_⟩
      obtain ⟨p, rfl⟩ := lies_flat_some hb_len (by decide) (h.chg0 k2) hil
      rw [opnA_e]
      refine ⟨by omega, by omega, ?_⟩
      obtain ⟨p', rfl⟩ := lies_flat_some hb_len (by decide) (h'.chg0 k2) hil
      rw [opnA_e, Int.toNat_natCast]
      refine rd_rowP hb_len (h.chg0 k2) hg (n := 32 * 1) rfl (rd_rowP hb_len (h'.chg0 k2) hg (n := 32 * 1) rfl ?_)
      refine arr_neq A29 (xs := st[i].1) (ys := st[i].1) st[i].2 st[i].2 ?_
      rw [opnB_s, decide_eq_true rfl]
      refine c_f rfl ?_
      rw [wrap_nat (by omega)]
      exact ih (i + 1) w2 (by omega) k2
  exact go st.length 0 w (by omega) (Chg.refl _ _)
end
end Go.Proofs.YtccjncflbbhldaaGreatDoor
/-! ## ShGk0 -/
set_option maxRecDepth 100000
namespace Go.Proofs.YtccjncflbbhldaaGreatDoor
open Go.Sh
/-! ### cmp.isNaN[int] -/
noncomputable def B_cmp_isNaN_int : Code := match Tryz.f64.body with | some c => c | _ => .skip
noncomputable def X_cmp_isNaN_int : Cx := { P := PP, fn := 64, N := 6, tab := tab, results := [.tmp 2], iter := fun _ => (.none, .none), dyn := fun _ => false, live := fun _ => none }
theorem K_cmp_isNaN_int : OkF X_cmp_isNaN_int B_cmp_isNaN_int Tryz.f64 := ⟨⟨tab_ok, mix_ok⟩, Tryz.func64, by kernel_rfl, by kernel_rfl, by kernel_rfl, by kernel_rfl⟩
theorem C_cmp_isNaN_int_eq (Q : Value → World → Prop) (a0 : Int) (w : World) (h :
  Q (.bool (a0 != a0)) w) :
C_cmp_isNaN_int #[.int .i64 a0] w Q := C_fold K_cmp_isNaN_int (by kernel_rfl) h
/-! ### cmp.isNaN[int64] -/
noncomputable def B_cmp_isNaN_int64 : Code := match Tryz.f65.body with | some c => c | _ => .skip
noncomputable def X_cmp_isNaN_int64 : Cx := { P := PP, fn := 65, N := 6, tab := tab, results := [.tmp 2], iter := fun _ => (.none, .none), dyn := fun _ => false, live := fun _ => none }
theorem K_cmp_isNaN_int64 : OkF X_cmp_isNaN_int64 B_cmp_isNaN_int64 Tryz.f65 := ⟨⟨tab_ok, mix_ok⟩, Tryz.func65, by kernel_rfl, by kernel_rfl, by kernel_rfl, by kernel_rfl⟩
theorem C_cmp_isNaN_int64_eq (Q : Value → World → Prop) (a0 : Int) (w : World) (h :
  Q (.bool (a0 != a0)) w) :
C_cmp_isNaN_int64 #[.int .i64 a0] w Q := C_fold K_cmp_isNaN_int64 (by kernel_rfl) h
end Go.Proofs.YtccjncflbbhldaaGreatDoor
/-! ## PlPlanPure -/
set_option maxRecDepth 10000
namespace Go.Proofs.YtccjncflbbhldaaGreatDoor.Pl
open Go.Sh
def tl (h l size n : Nat) : Tl := ⟨h, l, n, wid h l n size, false⟩

theorem tl_inj {h size l n l' n' : Nat} (e : tl h l size n = tl h l' size n') : l = l' ∧ n = n' := by
  simp only [tl, Tl.mk.injEq] at e
  omega
/-- a full tile lies under a node of the tree -/
theorem full_fits {h size l n : Nat} (hs : size ≤ 281474976710656) (hf : wid h l n size = 2 ^ h) : (n + 1) * 2 ^ (h * (l + 1)) ≤ 281474976710656 ∧ h * (l + 1) ≤ 48 := by
  have hp := pow_pos2 h
  unfold wid at hf
  split at hf
  · omega
  · rename_i hl
    split at hf
    · omega
    · rename_i hn
      have h2 : (n + 1) * 2 ^ h ≤ cnt h l size := by rw [Nat.add_mul, Nat.one_mul]; omega
      have h3 := (Nat.le_div_iff_mul_le (pow_pos2 (h * l))).1 h2
      rw [Nat.mul_assoc, ← Nat.pow_add, show h + h * l = h * (l + 1) by rw [Nat.mul_add, Nat.mul_one, Nat.add_comm]] at h3
      refine ⟨by omega, ?_⟩
      rcases Nat.lt_or_ge 48 (h * (l + 1)) with g | g
      · have h4 : 2 ^ 49 ≤ 2 ^ (h * (l + 1)) := Nat.pow_le_pow_right (by decide) g
        have h5 : 2 ^ (h * (l + 1)) ≤ (n + 1) * 2 ^ (h * (l + 1)) := Nat.le_mul_of_pos_left _ (by omega)
        omega
      · exact g
theorem full_level {h size l n : Nat} (h1 : 1 ≤ h) (hs : size ≤ 281474976710656) (hf : wid h l n size = 2 ^ h) : l + 1 ≤ 48 := by
  have h2 := (full_fits hs hf).2
  have : l + 1 ≤ h * (l + 1) := Nat.le_mul_of_pos_left _ h1
  omega
/-- from a place on up -/
def climb (h size : Nat) : Nat → Nat → Nat → List Tl → List Tl
  | 0, _, _, S => S
  | f + 1, l, n, S => if tl h l size n ∈ S then S else if wid h l n size = 2 ^ h then climb h size f (l + 1) (n / 2 ^ h) (S ++ [tl h l size n]) else S ++ [tl h l size n]
inductive Up (h size l0 n0 : Nat) : Nat → Nat → Prop
  | refl : Up h size l0 n0 l0 n0
  | step {l n : Nat} : Up h size l0 n0 l n → wid h l n size = 2 ^ h → Up h size l0 n0 (l + 1) (n / 2 ^ h)
theorem Up.head {h size l n l' n' : Nat} (hf : wid h l n size = 2 ^ h) (u : Up h size (l + 1) (n / 2 ^ h) l' n') : Up h size l n l' n' := by
  induction u with
  | refl => exact .step .refl hf
  | step _ hf ih => exact .step ih hf
def Closed (h size : Nat) (S : List Tl) : Prop := ∀ l n, tl h l size n ∈ S → wid h l n size = 2 ^ h → tl h (l + 1) size (n / 2 ^ h) ∈ S
theorem climb_spec {h size : Nat} (h1 : 1 ≤ h) (hs : size ≤ 281474976710656) : ∀ (f l n : Nat) (S : List Tl), l + f = 49 → l ≤ 48 → S.Nodup → (∀ l' n', tl h l' size n' ∈ S → wid h l' n' size = 2 ^ h → tl h (l' + 1) size (n' / 2 ^ h) ∈ S ∨ (l' + 1 = l ∧ n' / 2 ^ h = n)) →
    (climb h size f l n S).Nodup ∧ Closed h size (climb h size f l n S) ∧ (∀ t ∈ S, t ∈ climb h size f l n S) ∧ tl h l size n ∈ climb h size f l n S ∧ (∀ t ∈ climb h size f l n S, t ∈ S ∨ ∃ l' n', Up h size l n l' n' ∧ t = tl h l' size n')
  | 0, l, n, S, hl, hl2, _, _ => by omega
  | f + 1, l, n, S, hl, hl2, hnd, hc => by
    unfold climb
    by_cases hin : tl h l size n ∈ S
    · rw [if_pos hin]
      refine ⟨hnd, fun l' n' ht hf => ?_, fun t ht => ht, hin, fun t ht => .inl ht⟩
      rcases hc l' n' ht hf with g | ⟨rfl, rfl⟩
      · exact g
      · exact hin
    rw [if_neg hin]
    have hnd' : (S ++ [tl h l size n]).Nodup := by
      rw [List.nodup_append]
      exact ⟨hnd, by simp, fun x hx y hy => by simp at hy; subst hy; exact fun e => hin (e ▸ hx)⟩
    by_cases hf : wid h l n size = 2 ^ h
    · rw [if_pos hf]
      have hl3 := full_level h1 hs hf
      obtain ⟨g1, g2, g3, g4, g5⟩ := climb_spec h1 hs f (l + 1) (n / 2 ^ h) (S ++ [tl h l size n]) (by omega) (by omega) hnd' (fun l' n' ht hf' => by
        rcases List.mem_append.1 ht with ht | ht
        · rcases hc l' n' ht hf' with g | ⟨rfl, rfl⟩
          · exact .inl (List.mem_append_left _ g)
          · exact .inl (by simp)
        · simp only [List.mem_singleton] at ht
          obtain ⟨rfl, rfl⟩ := tl_inj ht
          exact .inr ⟨rfl, rfl⟩)
      refine ⟨g1, g2, fun t ht => g3 t (List.mem_append_left _ ht), g3 _ (by simp), fun t ht => ?_⟩
      rcases g5 t ht with ht | ⟨l', n', u, rfl⟩
      · rcases List.mem_append.1 ht with ht | ht
        · exact .inl ht
        · simp only [List.mem_singleton] at ht
          exact .inr ⟨l, n, .refl, ht⟩
      · exact .inr ⟨l', n', u.head hf, rfl⟩
    · rw [if_neg hf]
      refine ⟨hnd', fun l' n' ht hf' => ?_, fun t ht => List.mem_append_left _ ht, by simp, fun t ht => ?_⟩
      · rcases List.mem_append.1 ht with ht | ht
        · rcases hc l' n' ht hf' with g | ⟨rfl, rfl⟩
          · exact List.mem_append_left _ g
          · simp
        · simp only [List.mem_singleton] at ht
          obtain ⟨rfl, rfl⟩ := tl_inj ht
          exact absurd hf' hf
      · rcases List.mem_append.1 ht with ht | ht
        · exact .inl ht
        · simp only [List.mem_singleton] at ht
          exact .inr ⟨l, n, .refl, ht⟩
/-- the tile's level and number of a place -/
noncomputable def lo (h c : Nat) : Nat := levOf c / h
noncomputable def no (h c : Nat) : Nat := atOf h c / 2 ^ h
theorem lo_le {h c : Nat} (hc : c < 562949953421311) : lo h c ≤ 48 := Nat.le_trans (Nat.div_le_self _ _) (lev_le hc)
/-- all the tiles that are needed for these places -/
noncomputable def needAll (h size : Nat) : List Nat → List Tl → List Tl
  | [], S => S
  | c :: r, S => needAll h size r (climb h size (49 - lo h c) (lo h c) (no h c) S)
inductive Reach (h size : Nat) (st : List Nat) : Nat → Nat → Prop
  | start {c : Nat} : c ∈ st → Reach h size st (lo h c) (no h c)
  | up {l n : Nat} : Reach h size st l n → wid h l n size = 2 ^ h → Reach h size st (l + 1) (n / 2 ^ h)
theorem Reach.more {h size : Nat} {st st' : List Nat} (hs : ∀ c ∈ st, c ∈ st') {l n : Nat} (r : Reach h size st l n) : Reach h size st' l n := by
  induction r with
  | start hc => exact .start (hs _ hc)
  | up _ hf ih => exact .up ih hf
theorem Reach.ups {h size : Nat} {st : List Nat} {l n l' n' : Nat} (r : Reach h size st l n) (u : Up h size l n l' n') : Reach h size st l' n' := by
  induction u with
  | refl => exact r
  | step _ hf ih => exact .up ih hf
theorem needAll_spec {h size : Nat} (h1 : 1 ≤ h) (hs : size ≤ 281474976710656) : ∀ (st done : List Nat) (S : List Tl), (∀ c ∈ st, c < 562949953421311) → S.Nodup → Closed h size S → (∀ t, t ∈ S ↔ ∃ l n, Reach h size done l n ∧ t = tl h l size n) →
    (needAll h size st S).Nodup ∧ ∀ t, t ∈ needAll h size st S ↔ ∃ l n, Reach h size (done ++ st) l n ∧ t = tl h l size n
  | [], done, S, _, hnd, _, hm => by rw [List.append_nil]; exact ⟨hnd, hm⟩
  | c :: r, done, S, hc, hnd, hcl, hm => by
    have hlo := lo_le (h := h) (hc c (by simp))
    obtain ⟨g1, g2, g3, g4, g5⟩ := climb_spec h1 hs (49 - lo h c) (lo h c) (no h c) S (by omega) hlo hnd fun l' n' ht hf => .inl (hcl l' n' ht hf)
    have := needAll_spec h1 hs r (done ++ [c]) _ (fun d hd => hc d (by simp [hd])) g1 g2 (fun t => by
      constructor
      · intro ht
        rcases g5 t ht with ht | ⟨l', n', u, rfl⟩
        · obtain ⟨l, n, hr, rfl⟩ := (hm t).1 ht
          exact ⟨l, n, hr.more (by intro d hd; simp [hd]), rfl⟩
        · exact ⟨l', n', (Reach.start (by simp)).ups u, rfl⟩
      · rintro ⟨l, n, hr, rfl⟩
        induction hr with
        | start hd =>
          rcases List.mem_append.1 hd with hd | hd
          · exact g3 _ ((hm _).2 ⟨_, _, .start hd, rfl⟩)
          · simp only [List.mem_singleton] at hd
            subst hd; exact g4
        | up _ hf ih => exact g2 _ _ ih hf)
    rw [List.append_assoc] at this
    exact this
/-- from the highest level down, in a level by number -/
def below (t u : Tl) : Prop := u.L < t.L ∨ t.L = u.L ∧ t.N < u.N
theorem sorted_uniq : ∀ {a b : List Tl}, a.Pairwise below → b.Pairwise below → (∀ t, t ∈ a ↔ t ∈ b) → a = b
  | [], [], _, _, _ => rfl
  | [], y :: b, _, _, h => by have := (h y).2 (by simp); cases this
  | x :: a, [], _, _, h => by have := (h x).1 (by simp); cases this
  | x :: a, y :: b, ha, hb, h => by
    rw [List.pairwise_cons] at ha hb
    have irr : ∀ t : Tl, ¬ below t t := fun t g => by unfold below at g; omega
    have asy : ∀ t u : Tl, below t u → ¬ below u t := fun t u g g' => by unfold below at g g'; omega
    have hxy : x = y := by
      rcases List.mem_cons.1 ((h x).1 (by simp)) with e | hx
      · exact e
      · rcases List.mem_cons.1 ((h y).2 (by simp)) with e | hy
        · exact e.symm
        · exact absurd (ha.1 y hy) (asy _ _ (hb.1 x hx))
    subst hxy
    have : a = b := sorted_uniq ha.2 hb.2 fun t => by
      constructor
      · intro ht
        rcases List.mem_cons.1 ((h t).1 (List.mem_cons_of_mem _ ht)) with e | g
        · subst e; exact absurd (ha.1 t ht) (irr t)
        · exact g
      · intro ht
        rcases List.mem_cons.1 ((h t).2 (List.mem_cons_of_mem _ ht)) with e | g
        · subst e; exact absurd (hb.1 t ht) (irr t)
        · exact g
    rw [this]
/-- the plan for these places -/
structure IsPlan (h size : Nat) (st : List Nat) (l : List Tl) : Prop where
  sorted : l.Pairwise below
  mem : ∀ t, t ∈ l ↔ ∃ a b, Reach h size st a b ∧ t = tl h a size b
theorem IsPlan.uniq {h size : Nat} {st : List Nat} {l l' : List Tl} (p : IsPlan h size st l) (q : IsPlan h size st l') : l = l' := sorted_uniq p.sorted q.sorted fun t => (p.mem t).trans (q.mem t).symm
end Go.Proofs.YtccjncflbbhldaaGreatDoor.Pl
/-! ## ShM1 -/
namespace Go.Sh
open Go.ChangeShapes Go.Instr
variable {P : Program} {κ : Type}
section
variable [DecidableEq κ]

abbrev Ent (κ : Type) := κ × Value × Nat
def ent (enc : κ → Value) (x : Ent κ) : MapEntry := { key := enc x.1, val := x.2.1, born := x.2.2 }
def kv (x : Ent κ) : κ × Value := (x.1, x.2.1)
def fnd (a : κ) : List (Ent κ) → Nat → Option (Nat × Value)
  | [], _ => none
  | x :: l, i => if x.1 = a then some (i, x.2.1) else fnd a l (i + 1)
/-- Keys of a type, as Lean's values. -/
structure KeyT (P : Program) (kt : Nat) (enc : κ → Value) : Prop where
  check : ∀ (w : World) (a : κ) (e : Bool), (checkKey e 10000 kt (enc a)).run P w = .ok () w
  find : ∀ (w : World) (a : κ) (l : List (Ent κ)), (findKey kt (enc a) (l.map (ent enc))).run P w = .ok (fnd a l 0) w
  same : ∀ a, sameBits 10000 (enc a) (enc a) = true

def look {β : Type} (a : κ) : List (κ × β) → Option β
  | [] => none
  | x :: m => if x.1 = a then some x.2 else look a m
def put {β : Type} (a : κ) (v : β) : List (κ × β) → List (κ × β)
  | [] => [(a, v)]
  | x :: m => if x.1 = a then (a, v) :: m else x :: put a v m
def del {β : Type} (a : κ) : List (κ × β) → List (κ × β)
  | [] => []
  | x :: m => if x.1 = a then m else x :: del a m

structure Mp (w : World) (enc : κ → Value) (r : Nat) (l : List (Ent κ)) (clock : Nat) : Prop where
  heap : w.heap[r]? = some (.map (l.map (ent enc)).toArray clock)
  borns : (l.map (·.2.2)).Nodup
  young : ∀ x ∈ l, x.2.2 < clock
end
/-- The map in block r: its entries, in the order in which they came. -/
structure HMap (w : World) (enc : κ → Value) (r : Nat) (m : List (κ × Value)) : Prop where
  ex : ∃ l clock, Mp w enc r l clock ∧ l.map kv = m
  keys : (m.map (·.1)).Nodup
section
variable {w w' : World} {enc : κ → Value} {r : Nat} {m : List (κ × Value)}
theorem HMap.lt (h : HMap w enc r m) : r < w.heap.size := by
  obtain ⟨l, c, h, _⟩ := h.ex
  exact (Array.getElem?_eq_some_iff.1 h.heap).1
theorem HMap.chg {D : Nat → Prop} (h : HMap w enc r m) (k : Chg D w w') (hd : ¬ D r) : HMap w' enc r m := by
  have hlt := h.lt
  obtain ⟨l, c, ⟨h1, h2, h3⟩, h4⟩ := h.ex
  exact ⟨⟨l, c, ⟨by rw [k.block r hlt hd]; exact h1, h2, h3⟩, h4⟩, h.keys⟩
theorem HMap.chg0 (h : HMap w enc r m) (k : Chg None w w') : HMap w' enc r m := h.chg k fun h => h
theorem map_made (enc : κ → Value) : HMap (w.alloc (.map #[] 0)) enc w.heap.size ([] : List (κ × Value)) := ⟨⟨[], 0, ⟨by show (w.heap.push _)[w.heap.size]? = _; simp, .nil, by simp⟩, rfl⟩, .nil⟩
theorem run_getObj {w : World} {r : Nat} {es : Array MapEntry} {c : Nat} (h : w.heap[r]? = some (.map es c)) : (getObj r).run P w = .ok (.map es c) w := by
  simp only [getObj, Sem.run_bind, Sem.run, h]
theorem map_len {t ty kt et : Nat} (ht : P.underlying t = some (.map kt et)) (h : HMap w enc r m) {K : Value → Prop} (hK : K (.int .i64 (m.length : Int))) : semR P (Builtin.len_ #[t] ty #[.map (some r)]) w K := by
  obtain ⟨l, c, ⟨h1, _, _⟩, rfl⟩ := h.ex
  unfold semR
  simp [Builtin.len_, run_underlying ht, run_getObj h1, goInt] at hK ⊢
  exact hK
variable [DecidableEq κ]

theorem fnd_look (a : κ) : ∀ (l : List (Ent κ)) (i : Nat), (fnd a l i).map (·.2) = look a (l.map kv)
  | [], _ => rfl
  | x :: l, i => by
    simp only [fnd, List.map_cons, look, kv]
    split
    · rfl
    · exact fnd_look a l (i + 1)
theorem fnd_some (a : κ) : ∀ (l : List (Ent κ)) (i j : Nat) (v : Value), fnd a l i = some (j, v) → ∃ l1 x l2, l = l1 ++ x :: l2 ∧ j = i + l1.length ∧ x.1 = a ∧ x.2.1 = v ∧ ∀ y ∈ l1, y.1 ≠ a
  | [], _, _, _, h => by cases h
  | x :: l, i, j, v, h => by
    simp only [fnd] at h
    split at h
    · rename_i hx
      cases h
      exact ⟨[], x, l, rfl, by simp, hx, rfl, by simp⟩
    · rename_i hx
      obtain ⟨l1, y, l2, rfl, rfl, h3, h4, h5⟩ := fnd_some a l (i + 1) j v h
      refine ⟨x :: l1, y, l2, rfl, by simp; omega, h3, h4, fun z hz => ?_⟩
      rcases List.mem_cons.1 hz with rfl | hz
      · exact hx
      · exact h5 z hz
theorem fnd_none (a : κ) : ∀ (l : List (Ent κ)) (i : Nat), fnd a l i = none → ∀ y ∈ l, y.1 ≠ a
  | [], _, _ => by simp
  | x :: l, i, h => by
    simp only [fnd] at h
    split at h
    · cases h
    · rename_i hx
      intro y hy
      rcases List.mem_cons.1 hy with rfl | hy
      · exact hx
      · exact fnd_none a l (i + 1) h y hy
theorem put_app {β : Type} {a : κ} {v : β} : ∀ {l1 : List (κ × β)} {x : κ × β} {l2 : List (κ × β)}, x.1 = a → (∀ y ∈ l1, y.1 ≠ a) → put a v (l1 ++ x :: l2) = l1 ++ (a, v) :: l2
  | [], x, l2, hx, _ => by simp [put, hx]
  | y :: l1, x, l2, hx, h => by
    simp only [List.cons_append, put]
    rw [if_neg (h y (by simp)), put_app hx fun z hz => h z (by simp [hz])]
theorem put_new {β : Type} {a : κ} {v : β} : ∀ {m : List (κ × β)}, (∀ y ∈ m, y.1 ≠ a) → put a v m = m ++ [(a, v)]
  | [], _ => rfl
  | y :: m, h => by
    simp only [put, List.cons_append]
    rw [if_neg (h y (by simp)), put_new fun z hz => h z (by simp [hz])]
theorem del_app {β : Type} {a : κ} : ∀ {l1 : List (κ × β)} {x : κ × β} {l2 : List (κ × β)}, x.1 = a → (∀ y ∈ l1, y.1 ≠ a) → del a (l1 ++ x :: l2) = l1 ++ l2
  | [], x, l2, hx, _ => by simp [del, hx]
  | y :: l1, x, l2, hx, h => by
    simp only [List.cons_append, del]
    rw [if_neg (h y (by simp)), del_app hx fun z hz => h z (by simp [hz])]
theorem del_none {β : Type} {a : κ} : ∀ {m : List (κ × β)}, (∀ y ∈ m, y.1 ≠ a) → del a m = m
  | [], _ => rfl
  | y :: m, h => by
    simp only [del]
    rw [if_neg (h y (by simp)), del_none fun z hz => h z (by simp [hz])]
theorem mem_put {β : Type} {a : κ} {v : β} : ∀ {m : List (κ × β)} {k : κ}, k ∈ (put a v m).map (·.1) ↔ k = a ∨ k ∈ m.map (·.1)
  | [], k => by simp [put]
  | x :: m, k => by
    simp only [put]
    split
    · rename_i hx
      simp only [List.map_cons, List.mem_cons, hx]
      constructor
      · rintro (h | h)
        · exact .inl h
        · exact .inr (.inr h)
      · rintro (h | h | h)
        · exact .inl h
        · exact .inl h
        · exact .inr h
    · have := mem_put (a := a) (v := v) (m := m) (k := k)
      simp only [List.map_cons, List.mem_cons, this]
      constructor
      · rintro (h | h | h)
        · exact .inr (.inl h)
        · exact .inl h
        · exact .inr (.inr h)
      · rintro (h | h | h)
        · exact .inr (.inl h)
        · exact .inl h
        · exact .inr (.inr h)
theorem put_nodup {β : Type} {a : κ} {v : β} : ∀ {m : List (κ × β)}, (m.map (·.1)).Nodup → ((put a v m).map (·.1)).Nodup
  | [], _ => by simp [put]
  | x :: m, h => by
    simp only [put]
    split
    · rename_i hx
      simpa [hx] using h
    · rename_i hx
      simp only [List.map_cons, List.nodup_cons] at h ⊢
      refine ⟨fun hm => ?_, put_nodup h.2⟩
      rcases mem_put.1 hm with e | e
      · exact hx e
      · exact h.1 e
theorem del_sub {β : Type} {a : κ} : ∀ {m : List (κ × β)}, (del a m).Sublist m
  | [] => List.Sublist.refl _
  | x :: m => by
    simp only [del]
    split
    · exact List.sublist_cons_self _ _
    · exact del_sub.cons_cons x
theorem del_nodup {β : Type} {a : κ} {m : List (κ × β)} (h : (m.map (·.1)).Nodup) : ((del a m).map (·.1)).Nodup := h.sublist (del_sub.map _)
theorem look_put {β : Type} {a b : κ} {v : β} : ∀ {m : List (κ × β)}, look b (put a v m) = if b = a then some v else look b m
  | [] => by
    simp only [put, look]
    by_cases h : b = a
    · subst h; simp
    · rw [if_neg (fun e => h e.symm), if_neg h]
  | x :: m => by
    simp only [put]
    split
    · rename_i hx
      simp only [look]
      by_cases h : b = a
      · subst h; simp
      · rw [if_neg (fun e => h e.symm), if_neg h, if_neg (fun e => h (e.symm.trans hx))]
    · rename_i hx
      simp only [look]
      rw [look_put]
      by_cases h : b = a
      · subst h; rw [if_neg hx, if_pos rfl, if_pos rfl]
      · rw [if_neg h, if_neg h]
theorem look_none {β : Type} {a : κ} : ∀ {m : List (κ × β)}, look a m = none ↔ a ∉ m.map (·.1)
  | [] => by simp [look]
  | x :: m => by
    simp only [look, List.map_cons, List.mem_cons, not_or]
    split
    · rename_i h; simp [h]
    · rename_i h
      rw [look_none]
      constructor
      · intro g; exact ⟨fun e => h e.symm, g⟩
      · intro g; exact g.2
theorem look_mem {β : Type} {a : κ} {v : β} : ∀ {m : List (κ × β)}, look a m = some v → (a, v) ∈ m
  | [], h => by cases h
  | x :: m, h => by
    simp only [look] at h
    split at h
    · rename_i hx; cases h; subst hx; simp
    · exact List.mem_cons_of_mem _ (look_mem h)
theorem mem_look {β : Type} {a : κ} {v : β} : ∀ {m : List (κ × β)}, (m.map (·.1)).Nodup → (a, v) ∈ m → look a m = some v
  | x :: m, hn, h => by
    simp only [List.map_cons, List.nodup_cons] at hn
    simp only [look]
    rcases List.mem_cons.1 h with rfl | h
    · rw [if_pos rfl]
    · rw [if_neg (fun e => hn.1 (by rw [e]; exact List.mem_map_of_mem (f := (·.1)) h))]
      exact mem_look hn.2 h
theorem look_del {β : Type} {a b : κ} : ∀ {m : List (κ × β)}, (m.map (·.1)).Nodup → look b (del a m) = if b = a then none else look b m
  | [], _ => by simp [del, look]
  | x :: m, hn => by
    simp only [List.map_cons, List.nodup_cons] at hn
    simp only [del]
    split
    · rename_i hx
      by_cases h : b = a
      · subst h; rw [if_pos rfl, look_none, ← hx]; exact hn.1
      · rw [if_neg h]; simp only [look]; rw [if_neg (fun e => h (e.symm.trans hx))]
    · rename_i hx
      simp only [look]
      rw [look_del hn.2]
      by_cases h : b = a
      · subst h; rw [if_neg hx, if_pos rfl, if_pos rfl]
      · rw [if_neg h, if_neg h]

/-! ### what the program's acts on a map do -/
theorem run_setObj {w : World} {r : Nat} {es : Array MapEntry} {c : Nat} {o : Obj} (h : w.heap[r]? = some (.map es c)) : (setObj r o).run P w = .ok () { w with heap := w.heap.setIfInBounds r o } := by
  simp only [setObj, Sem.run_bind, Sem.run, h]
theorem chg_set {w : World} {r : Nat} {o : Obj} : Chg (fun k => k = r) w { w with heap := w.heap.setIfInBounds r o } :=
  ⟨rfl, rfl, rfl, by simp, fun k _ hn => by show (w.heap.setIfInBounds r o)[k]? = _; rw [Array.getElem?_setIfInBounds, if_neg fun e : r = k => hn e.symm]⟩
theorem modify_mid {α : Type} (f : α → α) : ∀ (a : List α) (x : α) (b : List α), (a ++ x :: b).modify a.length f = a ++ f x :: b
  | [], x, b => rfl
  | y :: a, x, b => by simp only [List.cons_append, List.length_cons, List.modify_succ_cons, modify_mid f a x b]
theorem get_set {w : World} {r : Nat} {o : Obj} (h : r < w.heap.size) : ({ w with heap := w.heap.setIfInBounds r o } : World).heap[r]? = some o := by
  show (w.heap.setIfInBounds r o)[r]? = _
  rw [Array.getElem?_setIfInBounds]; simp [h]

theorem map_lookup {t kt et : Nat} {z : Value} (ht : P.underlying t = some (.map kt et)) (K1 : KeyT P kt enc) (hz : (P.info? et).bind (·.zero) = some z) (h : HMap w enc r m) (a : κ) {K : Value → Prop} (hK : K ((look a m).getD z)) : semR P (Instr.lookup t (.map (some r)) (enc a) false) w K := by
  obtain ⟨l, c, ⟨h1, _, _⟩, rfl⟩ := h.ex
  obtain ⟨i, hi, hz⟩ := Option.bind_eq_some_iff.1 hz
  have hzero : (zeroValue et).run P w = .ok z w := by simp [zeroValue, typeInfo, hi, hz, go_sem]
  unfold semR
  have hf := fnd_look a l 0
  cases hfd : fnd a l 0 with
  | none =>
    rw [hfd] at hf
    simp only [Option.map_none] at hf
    rw [← hf] at hK
    simp only [Instr.lookup, Sem.run_bind, run_underlying ht, Result.andThen_ok, run_getObj h1, K1.check, K1.find, hfd, hzero, Sem.run_pure]
    simpa using hK
  | some x =>
    rw [hfd] at hf
    simp only [Option.map_some] at hf
    rw [← hf] at hK
    simp only [Instr.lookup, Sem.run_bind, run_underlying ht, Result.andThen_ok, run_getObj h1, K1.check, K1.find, hfd, Sem.run_pure]
    simpa using hK
theorem map_lookup_ok {t kt et : Nat} {z : Value} (ht : P.underlying t = some (.map kt et)) (K1 : KeyT P kt enc) (hz : (P.info? et).bind (·.zero) = some z) (h : HMap w enc r m) (a : κ) {K : Value → Prop} (hK : K (.tuple #[(look a m).getD z, .bool (look a m).isSome])) : semR P (Instr.lookup t (.map (some r)) (enc a) true) w K := by
  obtain ⟨l, c, ⟨h1, _, _⟩, rfl⟩ := h.ex
  obtain ⟨i, hi, hz⟩ := Option.bind_eq_some_iff.1 hz
  have hzero : (zeroValue et).run P w = .ok z w := by simp [zeroValue, typeInfo, hi, hz, go_sem]
  unfold semR
  have hf := fnd_look a l 0
  cases hfd : fnd a l 0 with
  | none =>
    rw [hfd] at hf
    simp only [Option.map_none] at hf
    rw [← hf] at hK
    simp only [Instr.lookup, Sem.run_bind, run_underlying ht, Result.andThen_ok, run_getObj h1, K1.check, K1.find, hfd, hzero, Sem.run_pure]
    simpa using hK
  | some x =>
    rw [hfd] at hf
    simp only [Option.map_some] at hf
    rw [← hf] at hK
    simp only [Instr.lookup, Sem.run_bind, run_underlying ht, Result.andThen_ok, run_getObj h1, K1.check, K1.find, hfd, Sem.run_pure]
    simpa using hK
theorem map_update {t kt et : Nat} (ht : P.underlying t = some (.map kt et)) (K1 : KeyT P kt enc) (h : HMap w enc r m) (a : κ) (v : Value) {K : World → Prop} (hK : ∀ w', HMap w' enc r (put a v m) → Chg (fun k => k = r) w w' → K w') : semU P (Instr.mapUpdate t (.map (some r)) (enc a) v) w K := by
  have hlt := h.lt
  have hkeys := h.keys
  obtain ⟨l, c, ⟨h1, h2, h3⟩, rfl⟩ := h.ex
  unfold semU
  cases hfd : fnd a l 0 with
  | none =>
    have hno := fnd_none a l 0 hfd
    simp only [Instr.mapUpdate, Sem.run_bind, run_underlying ht, Result.andThen_ok, run_getObj h1, K1.check, K1.find, hfd, run_setObj h1]
    refine hK _ ⟨⟨l ++ [(a, v, c)], c + 1, ⟨?_, ?_, ?_⟩, ?_⟩, put_nodup hkeys⟩ chg_set
    · rw [get_set hlt]
      congr 2
      simp [ent]
    · rw [List.map_append, List.nodup_append]
      refine ⟨h2, by simp, fun x hx y hy => ?_⟩
      obtain ⟨z, hz, rfl⟩ := List.mem_map.1 hx
      simp only [List.map_cons, List.map_nil, List.mem_singleton] at hy
      have := h3 z hz
      omega
    · intro x hx
      rcases List.mem_append.1 hx with hx | hx
      · have := h3 x hx; omega
      · simp at hx; subst hx; simp
    · rw [put_new (by intro y hy; obtain ⟨z, hz, rfl⟩ := List.mem_map.1 hy; exact hno z hz)]
      simp [kv]
  | some x =>
    obtain ⟨j, v0⟩ := x
    obtain ⟨l1, x, l2, rfl, rfl, hx, rfl, hl1⟩ := fnd_some a l 0 j v0 hfd
    have hold : ((((l1 ++ x :: l2).map (ent enc)).toArray[0 + l1.length]?).map (·.key)).getD (enc a) = enc a := by
      simp [ent, hx]
    simp only [Instr.mapUpdate, Sem.run_bind, run_underlying ht, Result.andThen_ok, run_getObj h1, K1.check, K1.find, hfd, hold, keyThatStays, K1.same, if_true, Sem.run_pure, run_setObj h1]
    have hmod : (((l1 ++ x :: l2).map (ent enc)).toArray.modify (0 + l1.length) fun e => { e with key := enc a, val := v }) = ((l1 ++ (a, v, x.2.2) :: l2).map (ent enc)).toArray := by
      apply Array.ext'
      rw [Array.toList_modify]
      simp only [Nat.zero_add, List.map_append, List.map_cons]
      rw [show l1.length = (l1.map (ent enc)).length by simp, modify_mid]
      simp [ent]
    rw [hmod]
    refine hK _ ⟨⟨l1 ++ (a, v, x.2.2) :: l2, c, ⟨by rw [get_set hlt], ?_, ?_⟩, ?_⟩, put_nodup hkeys⟩ chg_set
    · simpa using h2
    · intro y hy
      simp only [List.mem_append, List.mem_cons] at hy
      rcases hy with hy | rfl | hy
      · exact h3 y (by simp [hy])
      · exact h3 x (by simp)
      · exact h3 y (by simp [hy])
    · rw [List.map_append, List.map_cons, List.map_append, List.map_cons, put_app (x := kv x) hx (by intro y hy; obtain ⟨z, hz, rfl⟩ := List.mem_map.1 hy; exact hl1 z hz)]
      rfl
theorem map_delete {t kt et ty : Nat} {k' : Nat} (ht : P.underlying t = some (.map kt et)) (K1 : KeyT P kt enc) (h : HMap w enc r m) (a : κ) {K : Value → World → Prop} (hK : ∀ w', HMap w' enc r (del a m) → Chg (fun k => k = r) w w' → K (.tuple #[]) w') : sem P (Builtin.delete_ #[t, k'] ty #[.map (some r), enc a]) w K := by
  have hlt := h.lt
  have hkeys := h.keys
  obtain ⟨l, c, ⟨h1, h2, h3⟩, rfl⟩ := h.ex
  unfold sem
  cases hfd : fnd a l 0 with
  | none =>
    have hno := fnd_none a l 0 hfd
    have e1 : (Builtin.delete_ #[t, k'] ty #[.map (some r), enc a]).run P w = .ok (.tuple #[]) { w with heap := w.heap.setIfInBounds r (.map (l.map (ent enc)).toArray c) } := by
      simp [Builtin.delete_, Sem.run_bind, run_underlying ht, run_getObj h1, K1.check, K1.find, hfd, run_setObj h1]
    rw [e1]
    refine hK _ ⟨⟨l, c, ⟨get_set hlt, h2, h3⟩, ?_⟩, del_nodup hkeys⟩ chg_set
    rw [del_none (by intro y hy; obtain ⟨z, hz, rfl⟩ := List.mem_map.1 hy; exact hno z hz)]
  | some x =>
    obtain ⟨j, v0⟩ := x
    obtain ⟨l1, x, l2, rfl, rfl, hx, rfl, hl1⟩ := fnd_some a l 0 j v0 hfd
    have hmod : (((l1 ++ x :: l2).map (ent enc)).toArray.eraseIdxIfInBounds (0 + l1.length)) = ((l1 ++ l2).map (ent enc)).toArray := by
      apply Array.ext'
      unfold Array.eraseIdxIfInBounds
      rw [dif_pos (by simp)]
      simp only [Array.toList_eraseIdx, Nat.zero_add, List.map_append, List.map_cons]
      rw [show l1.length = (l1.map (ent enc)).length by simp, List.eraseIdx_append_of_length_le (Nat.le_refl _)]
      simp
    have e1 : (Builtin.delete_ #[t, k'] ty #[.map (some r), enc a]).run P w = .ok (.tuple #[]) { w with heap := w.heap.setIfInBounds r (.map ((l1 ++ l2).map (ent enc)).toArray c) } := by
      have hfind := K1.find w a (l1 ++ x :: l2)
      rw [hfd] at hfind
      rw [← hmod]
      generalize (l1 ++ x :: l2).map (ent enc) = L at hfind h1
      simp [Builtin.delete_, Sem.run_bind, run_underlying ht, run_getObj h1, K1.check, hfind, run_setObj h1]
    rw [e1]
    refine hK _ ⟨⟨l1 ++ l2, c, ⟨get_set hlt, ?_, ?_⟩, ?_⟩, del_nodup hkeys⟩ chg_set
    · refine h2.sublist ?_
      simp
    · intro y hy
      exact h3 y (by simp only [List.mem_append, List.mem_cons] at hy ⊢; rcases hy with h | h; exact .inl h; exact .inr (.inr h))
    · rw [List.map_append, List.map_append, List.map_cons, del_app (x := kv x) hx (by intro y hy; obtain ⟨z, hz, rfl⟩ := List.mem_map.1 hy; exact hl1 z hz)]
end
end Go.Sh
/-! ## ShM2 -/
namespace Go.Sh
open Go.ChangeShapes Go.Instr
variable {P : Program} {κ : Type}

structure Itr (w : World) (enc : κ → Value) (it r : Nat) (m rest : List (κ × Value)) (cur : Option (κ × Value)) : Prop where
  ex : ∃ l clock seen, Mp w enc r l clock ∧ l.map kv = m ∧ w.heap[it]? = some (.mapIter (some r) clock seen clock) ∧ (l.filter fun x => !seen.contains x.2.2).map kv = rest ∧ ∀ c, cur = some c → ∃ x ∈ l, kv x = c ∧ seen.back? = some x.2.2
section
variable {w w' : World} {enc : κ → Value} {it r : Nat} {m rest : List (κ × Value)} {cur : Option (κ × Value)}
theorem Itr.chg {D : Nat → Prop} (h : Itr w enc it r m rest cur) (k : Chg D w w') (h1 : ¬ D r) (h2 : ¬ D it) : Itr w' enc it r m rest cur := by
  obtain ⟨l, c, s, ⟨g1, g2, g3⟩, g4, g5, g6, g7⟩ := h.ex
  exact ⟨l, c, s, ⟨by rw [k.block r (Array.getElem?_eq_some_iff.1 g1).1 h1]; exact g1, g2, g3⟩, g4, by rw [k.block it (Array.getElem?_eq_some_iff.1 g5).1 h2]; exact g5, g6, g7⟩
theorem Itr.ne (h : Itr w enc it r m rest cur) : it ≠ r := by
  obtain ⟨l, c, s, ⟨g1, _, _⟩, _, g5, _⟩ := h.ex
  rintro rfl
  rw [g1] at g5; cases g5
theorem Itr.lt (h : Itr w enc it r m rest cur) : it < w.heap.size ∧ r < w.heap.size := by
  obtain ⟨l, c, s, ⟨g1, _, _⟩, _, g5, _⟩ := h.ex
  exact ⟨(Array.getElem?_eq_some_iff.1 g5).1, (Array.getElem?_eq_some_iff.1 g1).1⟩
theorem map_range {t kt et : Nat} (ht : P.underlying t = some (.map kt et)) (h : HMap w enc r m) {K : Value → World → Prop} (hK : ∀ it w', Itr w' enc it r m m none → Chg None w w' → w.heap.size ≤ it → K (.pointer (some ⟨it, 0, none⟩)) w') : sem P (Instr.range t (.map (some r))) w K := by
  have hlt := h.lt
  obtain ⟨l, c, ⟨h1, h2, h3⟩, rfl⟩ := h.ex
  unfold sem
  rw [run_range_map w t kt et r _ c ht h1]
  refine hK _ _ ⟨l, c, #[], ⟨by rw [heap_alloc_old w _ hlt]; exact h1, h2, h3⟩, rfl, heap_alloc_new w _, by rw [List.filter_eq_self.2 (by simp)], by intro c hc; cases hc⟩ (chg_alloc w _) (Nat.le_refl _)
theorem run_choose (n : Nat) (w : World) (h : 0 < n) : ∃ j w1, j < n ∧ (w1 = w ∨ w1 = w.drew) ∧ (choose (Question.mapNext n)).run P w = .ok j w1 := by
  by_cases hf : n ≤ 1
  · exact ⟨0, w, h, .inl rfl, by simp [choose, Sem.run, Question.forced, hf]⟩
  · exact ⟨_, w.drew, Nat.mod_lt _ h, .inr rfl, by
      simp only [choose, Sem.run, Question.forced, decide_eq_true_eq, hf, if_false, Question.cut]
      rfl⟩
theorem run_getObj_it {w : World} {r : Nat} {a : Option Nat} {b d : Nat} {s : Array Nat} (h : w.heap[r]? = some (.mapIter a b s d)) : (getObj r).run P w = .ok (.mapIter a b s d) w := by
  simp only [getObj, Sem.run_bind, Sem.run, h]
theorem run_setObj_it {w : World} {r : Nat} {a : Option Nat} {b d : Nat} {s : Array Nat} {o : Obj} (h : w.heap[r]? = some (.mapIter a b s d)) : (setObj r o).run P w = .ok () { w with heap := w.heap.setIfInBounds r o } := by
  simp only [setObj, Sem.run_bind, Sem.run, h]
theorem toArray_filter_ent (enc : κ → Value) (l : List (Ent κ)) (seen : Array Nat) : (l.map (ent enc)).toArray.filter (fun e => !seen.contains e.born) = ((l.filter fun x => !seen.contains x.2.2).map (ent enc)).toArray := by
  apply Array.ext'
  simp only [List.filter_toArray, List.filter_map]
  rfl
theorem contains_push' (seen : Array Nat) (b y : Nat) : (seen.push b).contains y = (seen.contains y || y == b) := Array.contains_push ..
theorem map_next {ty : Nat} (h : Itr w enc it r m rest cur) {K : Value → World → Prop} (hend : rest = [] → ∀ w', Chg None w w' → K (.tuple #[.bool false]) w')
    (hmore : ∀ x rest', rest.Perm (x :: rest') → ∀ w', Itr w' enc it r m rest' (some x) → Chg (fun k => k = it) w w' → K (.tuple #[.bool true, enc x.1, x.2]) w') : sem P (Instr.next (.pointer (some ⟨it, 0, none⟩)) false ty) w K := by
  have hne := h.ne
  have hlt := h.lt.1
  obtain ⟨l, c, seen, ⟨h1, h2, h3⟩, h4, h5, h6, h7⟩ := h.ex
  have htest : (!seen.isEmpty && !((l.map (ent enc)).toArray).isEmpty && ((l.map (ent enc)).toArray).all (fun x => decide (x.born ≥ c))) = false :=
    next_test_false seen _ c c (fun x hx => by simp only [] at hx; obtain ⟨y, hy, rfl⟩ := List.mem_map.1 hx; exact h3 y hy) (Nat.le_refl _)
  unfold sem
  simp only [Instr.next, Sem.run_bind, run_getObj_it h5, Result.andThen_ok, run_getObj h1, htest, Bool.false_eq_true, if_false, toArray_filter_ent]
  generalize hL : l.filter (fun x => !seen.contains x.2.2) = L at h6 ⊢
  have hLl : ∀ x ∈ L, x ∈ l ∧ seen.contains x.2.2 = false := fun x hx => by rw [← hL, List.mem_filter] at hx; simpa using hx
  have e1 : ((L.map (ent enc)).toArray).filter (fun x => decide (x.born < c)) = (L.map (ent enc)).toArray := Array.filter_eq_self.2 (fun x hx => by simp only [List.mem_toArray] at hx; obtain ⟨y, hy, rfl⟩ := List.mem_map.1 hx; exact decide_eq_true (h3 y (hLl y hy).1))
  have e2 : ((L.map (ent enc)).toArray).filter (fun x => decide (x.born ≥ c)) = #[] := by
    rw [Array.filter_eq_empty_iff]
    intro x hx
    simp only [List.mem_toArray] at hx
    obtain ⟨y, hy, rfl⟩ := List.mem_map.1 hx
    have := h3 y (hLl y hy).1
    simp [ent]; omega
  rw [e1, e2, Array.append_empty]
  cases L with
  | nil =>
    subst h6
    obtain ⟨j, w1, hj, hw1, hrun⟩ := run_choose (P := P) 1 w (by decide)
    obtain rfl : j = 0 := by omega
    have hk : Chg None w w1 := by rcases hw1 with rfl | rfl; exact Chg.refl _ _; exact Chg.drew0 w
    have e : ((if ((List.map (ent enc) ([] : List (Ent κ))).toArray).isEmpty = true then #[none] else #[]) ++ ((List.map (ent enc) ([] : List (Ent κ))).toArray).map some : Array (Option MapEntry)) = #[none] := by simp
    rw [e]
    simp only [List.size_toArray, List.length_cons, List.length_nil, Nat.zero_add, hrun, Result.andThen_ok]
    exact hend rfl w1 hk
  | cons x L =>
    have e : ((if ((List.map (ent enc) (x :: L)).toArray).isEmpty = true then #[none] else #[]) ++ ((List.map (ent enc) (x :: L)).toArray).map some : Array (Option MapEntry)) = ((x :: L).map fun x => some (ent enc x)).toArray := by simp
    rw [e]
    obtain ⟨j, w1, hj, hw1, hrun⟩ := run_choose (P := P) (((x :: L).map fun x => some (ent enc x)).toArray.size) w (by simp)
    have hk : Chg None w w1 := by rcases hw1 with rfl | rfl; exact Chg.refl _ _; exact Chg.drew0 w
    have h5' : w1.heap[it]? = some (.mapIter (some r) c seen c) := by rw [hk.block it hlt (fun h => h)]; exact h5
    have hjl : j < (x :: L).length := by simpa using hj
    have hget : ((x :: L).map fun x => some (ent enc x)).toArray[j]? = some (some (ent enc ((x :: L)[j]))) := by
      rw [List.getElem?_toArray, List.getElem?_map, List.getElem?_eq_getElem hjl]; rfl
    simp only [hrun, Result.andThen_ok, hget, Sem.run_bind, run_setObj_it h5', Sem.run_pure]
    generalize hy : (x :: L)[j] = y
    have hyL : y ∈ x :: L := hy ▸ List.getElem_mem hjl
    obtain ⟨hyl, hys⟩ := hLl y hyL
    obtain ⟨l1, l2, hsplit⟩ : ∃ l1 l2, l = l1 ++ y :: l2 := List.append_of_mem hyl
    have hr : r < w1.heap.size := Nat.lt_of_lt_of_le h.lt.2 hk.size
    refine hmore (kv y) ((l.filter fun x => !(seen.push y.2.2).contains x.2.2).map kv) ?_ _ ⟨l, c, seen.push y.2.2, ⟨?_, h2, h3⟩, h4, get_set (Nat.lt_of_lt_of_le hlt hk.size), rfl, ?_⟩ (Chg.trans hk chg_set (fun _ _ h => h.elim) (fun _ _ h => h))
    · -- what is left without y
      rw [← h6, ← List.map_cons, ← hL]
      refine List.Perm.map kv ?_
      have hnd := h2
      rw [hsplit] at hnd ⊢
      simp only [List.map_append, List.map_cons, List.nodup_append, List.nodup_cons, List.mem_map, List.mem_cons] at hnd
      have f1 : l1.filter (fun x => !(seen.push y.2.2).contains x.2.2) = l1.filter fun x => !seen.contains x.2.2 := List.filter_congr fun z hz => by
        rw [contains_push']
        have : (z.2.2 == y.2.2) = false := by
          rw [beq_eq_false_iff_ne]; intro e
          exact hnd.2.2 z.2.2 ⟨z, hz, rfl⟩ y.2.2 (.inl rfl) e
        simp [this]
      have f2 : l2.filter (fun x => !(seen.push y.2.2).contains x.2.2) = l2.filter fun x => !seen.contains x.2.2 := List.filter_congr fun z hz => by
        rw [contains_push']
        have : (z.2.2 == y.2.2) = false := by
          rw [beq_eq_false_iff_ne]; intro e
          exact hnd.2.1.1 ⟨z, hz, e⟩
        simp [this]
      rw [List.filter_append, List.filter_append, List.filter_cons, List.filter_cons, f1, f2, if_pos (by simpa using hys), if_neg (by rw [contains_push']; simp)]
      exact List.perm_middle
    · show (w1.heap.setIfInBounds it _)[r]? = _
      rw [Array.getElem?_setIfInBounds, if_neg hne, hk.block r h.lt.2 (fun h => h)]
      exact h1
    · intro c' hc'
      cases hc'
      exact ⟨y, hyl, rfl, by simp⟩
theorem map_entry {x : κ × Value} (h : Itr w enc it r m rest (some x)) {K : Value → World → Prop} (hK : K (.tuple #[enc x.1, x.2]) w) : sem P (Instr.entry (.pointer (some ⟨it, 0, none⟩))) w K := by
  obtain ⟨l, c, seen, ⟨h1, h2, h3⟩, h4, h5, h6, h7⟩ := h.ex
  obtain ⟨y, hy, rfl, hb⟩ := h7 x rfl
  have hf : ((l.map (ent enc)).toArray).find? (fun e => e.born == y.2.2) = some (ent enc y) := by
    rw [← Array.find?_toList]
    exact find_born (ent enc y) (l.map (ent enc)) (by simpa [ent, Function.comp_def] using h2) (List.mem_map_of_mem hy)
  unfold sem
  simp only [Instr.entry, Sem.run_bind, run_getObj_it h5, Result.andThen_ok, run_getObj h1, hb, bne_self_eq_false, Bool.false_eq_true, if_false, hf, Sem.run_pure]
  exact hK
end
variable [DecidableEq κ]

/-! ### keys -/
theorem find_asking {kt : Nat} {enc : κ → Value} (heq : ∀ (w : World) (a b : κ), (Op.equal kt (enc a) (enc b)).run P w = .ok (decide (a = b)) w) (w : World) (a : κ) : ∀ (l : List (Ent κ)) (i : Nat), (findAsking kt (enc a) (l.map (ent enc)) i).run P w = .ok (fnd a l i) w
  | [], i => by simp [findAsking, fnd]
  | x :: l, i => by
    have := find_asking heq w a l (i + 1)
    simp only [List.map_cons, findAsking, Sem.run_bind, fnd, ent, heq, Result.andThen_ok]
    by_cases h : x.1 = a
    · rw [if_pos h, decide_eq_true h.symm]; simp
    · rw [if_neg h, decide_eq_false fun e => h e.symm]; simpa using this
theorem check_fields (em : Bool) (n : Nat) (w : World) {xs ys : Array Value} : ∀ {fs : List Field} {tb : List (Nat × Nat)} {q : Bool}, fs.map (fun f => (f.name != "_", f.type, f.offset)) = tb.map (fun x => (true, x.1, x.2)) → EqF P xs ys tb q →
    (forIn fs PUnit.unit (fun f (_ : PUnit) => (do
      if f.name ≠ "_" then do
        let v ← part f.type xs f.offset
        checkKey em (n + 1) f.type v
        pure (ForInStep.yield PUnit.unit)
      else pure (ForInStep.yield PUnit.unit) : Sem (ForInStep PUnit)))).run P w = .ok PUnit.unit w
  | [], _, _, _, _ => by simp
  | f :: fs, (t, o) :: tb, _, h, e => by
    simp only [List.map_cons, List.cons.injEq, Prod.mk.injEq, bne_iff_ne] at h
    obtain ⟨⟨hn, rfl, rfl⟩, h⟩ := h
    have step : ∀ {v : Value} {d : TypeDesc}, P.underlying f.type = some d → P.plainKey f.type = true → xs[f.offset]? = some v → (∀ d', d ≠ .interface d') → (∀ a b, d ≠ .array a b) → (∀ a, d ≠ .struct a) → ∀ {q'}, EqF P xs ys tb q' →
        (forIn (f :: fs) PUnit.unit (fun f (_ : PUnit) => (do
          if f.name ≠ "_" then do
            let v ← part f.type xs f.offset
            checkKey em (n + 1) f.type v
            pure (ForInStep.yield PUnit.unit)
          else pure (ForInStep.yield PUnit.unit) : Sem (ForInStep PUnit)))).run P w = .ok PUnit.unit w := by
      intro v d hu hp hx d1 d2 d3 q' e'
      have ih := check_fields em n w h e'
      have hc : (checkKey em (n + 1) f.type v).run P w = .ok () w := by
        simp only [checkKey, Sem.run_bind, run_underlying hu, Result.andThen_ok]
        cases d <;> simp_all
      rw [List.forIn_cons]
      simp only [Sem.run_bind, hn, ne_eq, not_false_eq_true, if_true, run_part_plain w hp hx, Result.andThen_ok, hc, Sem.run_pure]
      exact ih
    cases e with
    | int hu hx hy e => exact step hu (by unfold Program.plainKey; rw [hu]) hx (by simp) (by simp) (by simp) e
    | bool hu hx hy e => exact step hu (by unfold Program.plainKey; rw [hu]) hx (by simp) (by simp) (by simp) e
    | str hu hx hy e => exact step hu (by unfold Program.plainKey; rw [hu]) hx (by simp) (by simp) (by simp) e
  | _ :: _, [], _, h, _ => by simp at h
theorem check_struct' {kt : Nat} {tb : List (Nat × Nat)} (T : EqT P kt tb) {xs ys : Array Value} {q : Bool} (he : EqF P xs ys tb q) (w : World) (e : Bool) (m : Nat) (hm : 0 < m) : (checkKey e (m + 1) kt (.agg xs)).run P w = .ok () w := by
  simp only [checkKey, Sem.run_bind, run_underlying T.under, Result.andThen_ok]
  rw [← Array.forIn_toList]
  obtain ⟨n, rfl⟩ : ∃ n, m = n + 1 := ⟨m - 1, by omega⟩
  have := check_fields e n w T.tab he
  generalize checkKey e (n + 1) = ck at *
  simp at this ⊢
  rw [this]; rfl
theorem check_struct {kt : Nat} {tb : List (Nat × Nat)} (T : EqT P kt tb) {xs ys : Array Value} {q : Bool} (he : EqF P xs ys tb q) (w : World) (e : Bool) (n : Nat) : (checkKey e (n + 2) kt (.agg xs)).run P w = .ok () w := check_struct' T he w e (n + 1) (by omega)
/-- A struct of plain cells as a map's key. -/
theorem key_struct {kt : Nat} {tb : List (Nat × Nat)} (T : EqT P kt tb) {cs : κ → Array Value} (heq : ∀ a b, EqF P (cs a) (cs b) tb (decide (a = b))) (hs : ∀ a, sameBits 10000 (.agg (cs a)) (.agg (cs a)) = true) : KeyT P kt (fun a => .agg (cs a)) where
  check w a e := check_struct T (heq a a) w e 9998
  find w a l := by
    have hq : ∀ (w : World) (a b : κ), (Op.equal kt (.agg (cs a)) (.agg (cs b))).run P w = .ok (decide (a = b)) w := by
      intro w a b
      unfold Op.equal Op.maxDepth
      rw [run_equalIn_struct w 9999 kt _ _ T.under T.held]
      exact eqF_run w 9998 T.tab (heq a b)
    have := find_asking (enc := fun a => Value.agg (cs a)) hq w a l 0
    cases l with
    | nil => simp [findKey, run_underlying T.under, findNow, fnd]
    | cons x l =>
      simp only [findKey, Sem.run_bind, run_underlying T.under, Result.andThen_ok, List.map_cons, findNow, sameNow]
      simpa using this
  same := hs
end Go.Sh
/-! ## PlNeed -/
set_option maxRecDepth 10000
namespace Go.Proofs.YtccjncflbbhldaaGreatDoor.Pl
open Go.Sh

theorem wid_le (h l n size : Nat) : wid h l n size ≤ 2 ^ h := by
  unfold wid
  split
  · exact Nat.zero_le _
  · split
    · exact Nat.zero_le _
    · exact Nat.min_le_right _ _
def tcs (t : Tl) : Array Value := #[.int .i64 t.H, .int .i64 t.L, .int .i64 t.N, .int .i64 t.W, .bool t.D]
theorem K49 : KeyT PP 34 tg := key_struct (cs := tcs) E24p (fun a b => by
    have := eqTl_f a b
    have e : eqTl a b = decide (a = b) := Bool.eq_iff_iff.2 (by rw [eqTl_iff, decide_eq_true_iff])
    rw [e] at this; exact this) (fun a => by simp [Instr.sameBits, tcs])
theorem M89 : PP.underlying 57 = some (.map 34 3) := by kernel_rfl
theorem Z3 : (PP.info? 3).bind (·.zero) = some (.int .i64 0) := by kernel_rfl
abbrev keys1 (S : List Tl) : List (Tl × Value) := S.map fun t => (t, .int .i64 1)
theorem look_keys1 (t : Tl) : ∀ S : List Tl, (Sh.look t (keys1 S)).getD (.int .i64 0) = .int .i64 (if t ∈ S then 1 else 0)
  | [] => by simp [Sh.look]
  | x :: S => by
    have ih := look_keys1 t S
    simp only [List.map_cons, Sh.look]
    by_cases h : x = t
    · subst h; simp
    · rw [if_neg h, ih]
      have : t ∈ x :: S ↔ t ∈ S := by rw [List.mem_cons]; exact ⟨fun g => g.resolve_left fun e => h e.symm, .inr⟩
      simp [this]
theorem put_keys1 {t : Tl} {S : List Tl} (h : t ∉ S) : put t (.int .i64 1) (keys1 S) = keys1 (S ++ [t]) := by
  rw [put_new (by intro y hy; obtain ⟨z, hz, rfl⟩ := List.mem_map.1 hy; rintro rfl; exact h hz)]
  simp
theorem wide_tlOf {h size c : Nat} (_h1 : 1 ≤ h) : wideV (tlOf h c) size = tl h (lo h c) size (no h c) := by
  simp only [wideV, tlOf, tl, lo, no, Int.toNat_natCast]

theorem lo_place {h l n : Nat} (h1 : 1 ≤ h) (g : (n + 1) * 2 ^ (h * (l + 1)) ≤ 281474976710656) : lo h (placeOf (h * (l + 1)) n) = l + 1 := by unfold lo; rw [lev_place g, Nat.mul_div_cancel_left _ (by omega)]
theorem no_place {h l n : Nat} (_h1 : 1 ≤ h) (g : (n + 1) * 2 ^ (h * (l + 1)) ≤ 281474976710656) : no h (placeOf (h * (l + 1)) n) = n / 2 ^ h := by
  unfold no atOf foldOf
  rw [lev_place g, nod_place g, Nat.mul_mod_right, Nat.pow_zero, Nat.mul_one]
theorem need_word {Q : Value → World → Prop} {h size c r : Nat} {S : List Tl} {w0 : World} (h1 : 1 ≤ h) (h8 : h ≤ 8) (hs : size ≤ 281474976710656) (hc : c < 562949953421311) (hm : HMap w0 tg r (keys1 S))
    (hQ : ∀ w', HMap w' tg r (keys1 (climb h size (49 - lo h c) (lo h c) (no h c) S)) → Chg (fun k => k = r) w0 w' → Q (.tuple #[]) w') :
    C_tile_need #[.map (some r), .int .i64 (h : Int), .int .i64 (size : Int), .int .i64 (c : Int)] w0 Q := by
  refine C_tile_need_eq _ _ _ _ _ _ ?_
  have go : ∀ (f c : Nat) (S : List Tl) (w : World), lo h c + f = 49 → c < 562949953421311 → HMap w tg r (keys1 S) → Chg (fun k => k = r) w0 w →
      (∀ w', HMap w' tg r (keys1 (climb h size f (lo h c) (no h c) S)) → Chg (fun k => k = r) w0 w' → Q (.tuple #[]) w') → N_tile_need.j0 Q (some r) (h : Int) (size : Int) (c : Int) w := by
    intro f
    induction f with
    | zero => intro c S w hf hc; have := lo_le (h := h) hc; omega
    | succ f ih =>
      intro c S w hf hc hm k0 hQ
      have hlo := lo_le (h := h) hc
      refine N_tile_need.j0_eq (h := seat_word h1 h8 (fun c' hcc hlt w2 k2 => ?_) fun hn => absurd (by omega) hn)
      obtain rfl : c = c' := by omega
      refine opn_seat (mkbox7 rfl fun b2 w3 hb3 k3 hlt3 => ?_)
      refine rd_tile2 (t := tlOf h c) hb3 rfl ?_
      refine wide_word (t := tlOf h c) rfl rfl rfl h1 h8 hs fun w4 k4 => opn_tile ?_
      rw [wide_tlOf h1]
      refine mk_tile fun b5 w5 hb5 k5 hlt5 => rd_tile hb5 ?_
      have k25 : Chg None w w5 := k2.none_trans (k3.none_trans (k4.none_trans k5))
      have hm5 := hm.chg0 k25
      have k05 : Chg (fun k => k = r) w0 w5 := Chg.trans k0 k25 (fun _ _ h => h) (fun _ _ h => h.elim)
      refine map_lookup M89 K49 Z3 hm5 (tl h (lo h c) size (no h c)) ?_
      rw [look_keys1]
      refine opnI_s ?_
      generalize hT : tl h (lo h c) size (no h c) = T at *
      by_cases hin : T ∈ S
      · rw [if_pos hin]
        refine N_tile_need.j3_eq (h := c_lt (by decide) ?_)
        refine hQ w5 ?_ k05
        unfold climb
        rw [hT, if_pos hin]
        exact hm5
      rw [if_neg hin]
      refine N_tile_need.j3_eq (h := c_nlt (by decide) (rd_tile hb5 ?_))
      have hne : b5 ≠ r := by
        have h3 : w.heap.size ≤ w4.heap.size := (k2.none_trans (k3.none_trans k4)).size
        have := hm.lt; omega
      refine map_update M89 K49 hm5 T (.int .i64 1) fun w6 hm6 k6 => ?_
      rw [put_keys1 hin] at hm6
      have hb6 := hb5.chg k6 hne
      have k06 : Chg (fun k => k = r) w0 w6 := Chg.trans k05 k6 (fun _ _ h => h) (fun _ _ h => h)
      have eW : T.W = ((wid h (lo h c) (no h c) size : Nat) : Int) := by rw [← hT]; rfl
      have eL : T.L = ((lo h c : Nat) : Int) := by rw [← hT]; rfl
      have eN : T.N = ((no h c : Nat) : Int) := by rw [← hT]; rfl
      have eH : T.H = (h : Int) := by rw [← hT]; rfl
      rw [drw_s]
      have hb7 := hb6.chg (Chg.drew0 (D := None) w6) (fun h => h)
      refine opnI_c (hb7.rd 3 rfl) (full_word h8 (opnI_s ⟨opnI_c (hb7.rd 3 rfl) rfl, ?_⟩))
      have hle := wid_le h (lo h c) (no h c) size
      rw [eW]
      by_cases hf2 : wid h (lo h c) (no h c) size = 2 ^ h
      case neg =>
        refine c_lt (by omega) (hQ _ ?_ k06.drew)
        unfold climb
        rw [hT, if_neg hin, if_neg hf2]
        exact hm6.chg0 (Chg.drew0 w6)
      obtain ⟨g1, g2⟩ := full_fits hs hf2
      refine c_nlt (by omega) (opnI_c (hb7.rd 1 rfl) ?_)
      rw [eL, wrap_nat (by omega), wrap_mul (by omega)]
      refine c_ngt (by omega) (rd_tile hb7 ?_)
      refine topOf_word (t := T) eH eL eN g2 g1 fun w8 k8 => opnI_s ?_
      have hpl := place_lt g1
      have hlo2 := lo_place h1 g1
      have hno2 := no_place h1 g1
      have k08 : Chg (fun k => k = r) w0 w8 := Chg.trans k06.drew k8 (fun _ _ h => h) (fun _ _ h => h.elim)
      refine ih _ (S ++ [T]) w8 (by rw [hlo2]; omega) hpl (hm6.chg0 ((Chg.drew0 w6).none_trans k8)) k08 fun w' hm' k' => hQ w' ?_ k'
      rw [hlo2, hno2] at hm'
      unfold climb
      rw [hT, if_neg hin, if_pos hf2]
      exact hm'
  have hlo := lo_le (h := h) hc
  exact go (49 - lo h c) c S w0 (by omega) hc hm (Chg.refl _ _) hQ
end Go.Proofs.YtccjncflbbhldaaGreatDoor.Pl
/-! ## PlSort -/
namespace Go.Proofs
open Go.Shelf
def YtccjncflbbhldaaGreatDoor.sortTl0_ren : Go.Shelf.Ren := ⟨fun | 6 => 41 | 15 => 63 | 14 => 62 | 28 => 87 | 29 => 88 | 20 => 79 | 21 => 80 | 22 => 81 | 23 => 82 | 24 => 83 | 25 => 84 | 26 => 85 | 27 => 86 | 46 => 94 | 47 => 95 | 48 => 96 | 49 => 97 | 50 => 98 | 57 => 106 | n => n, fun | 22 => 23 | 24 => 34 | 25 => 95 | 3 => 3 | 39 => 113 | 0 => 0 | 53 => 142 | 55 => 124 | 4 => 4 | 46 => 135 | 45 => 134 | 50 => 139 | 5 => 5 | 9 => 9 | 66 => 149 | 70 => 153 | 76 => 168 | 77 => 70 | n => n, fun | n => n⟩
theorem YtccjncflbbhldaaGreatDoor.sortTl0 : Go.Proofs.SlLaysF0.n6 Tryz.prog YtccjncflbbhldaaGreatDoor.sortTl0_ren := {
  mixed := by kernel_rfl
  f6 := ⟨Tryz.f41.name, by decide, Tryz.func41.trans (congrArg some (by kernel_rfl))⟩
  f14 := ⟨Tryz.f62.name, by decide, Tryz.func62.trans (congrArg some (by kernel_rfl))⟩
  f15 := Tryz.func63.trans (congrArg some (by kernel_rfl))
  f20 := ⟨Tryz.f79.name, by decide, Tryz.func79.trans (congrArg some (by kernel_rfl))⟩
  f21 := ⟨Tryz.f80.name, by decide, Tryz.func80.trans (congrArg some (by kernel_rfl))⟩
  f22 := ⟨Tryz.f81.name, by decide, Tryz.func81.trans (congrArg some (by kernel_rfl))⟩
  f23 := ⟨Tryz.f82.name, by decide, Tryz.func82.trans (congrArg some (by kernel_rfl))⟩
  f24 := ⟨Tryz.f83.name, by decide, Tryz.func83.trans (congrArg some (by kernel_rfl))⟩
  f25 := ⟨Tryz.f84.name, by decide, Tryz.func84.trans (congrArg some (by kernel_rfl))⟩
  f26 := ⟨Tryz.f85.name, by decide, Tryz.func85.trans (congrArg some (by kernel_rfl))⟩
  f27 := ⟨Tryz.f86.name, by decide, Tryz.func86.trans (congrArg some (by kernel_rfl))⟩
  f28 := Tryz.func87.trans (congrArg some (by kernel_rfl))
  f29 := Tryz.func88.trans (congrArg some (by kernel_rfl))
  f46 := ⟨Tryz.f94.name, by decide, Tryz.func94.trans (congrArg some (by kernel_rfl))⟩
  f47 := Tryz.func95.trans (congrArg some (by kernel_rfl))
  f48 := Tryz.func96.trans (congrArg some (by kernel_rfl))
  f49 := ⟨Tryz.f97.name, by decide, Tryz.func97.trans (congrArg some (by kernel_rfl))⟩
  f50 := ⟨Tryz.f98.name, by decide, Tryz.func98.trans (congrArg some (by kernel_rfl))⟩
  f57 := ⟨Tryz.f106.name, by decide, Tryz.func106.trans (congrArg some (by kernel_rfl))⟩
  t0 := Tryz.underlying0
  a0 := Tryz.isAgg0
  z0 := Tryz.sizeOf0
  v0 := Tryz.zeroValue0
  t3 := Tryz.underlying3
  a3 := Tryz.isAgg3
  z3 := Tryz.sizeOf3
  v3 := Tryz.zeroValue3
  t4 := Tryz.underlying4
  a4 := Tryz.isAgg4
  z4 := Tryz.sizeOf4
  v4 := Tryz.zeroValue4
  t5 := Tryz.underlying5
  a5 := Tryz.isAgg5
  z5 := Tryz.sizeOf5
  v5 := Tryz.zeroValue5
  t9 := Tryz.underlying9
  a9 := Tryz.isAgg9
  z9 := Tryz.sizeOf9
  v9 := Tryz.zeroValue9
  t22 := Tryz.underlying23
  a22 := Tryz.isAgg23
  z22 := Tryz.sizeOf23
  v22 := Tryz.zeroValue23
  t25 := Tryz.underlying95
  a25 := Tryz.isAgg95
  z25 := Tryz.sizeOf95
  v25 := Tryz.zeroValue95
  t39 := Tryz.underlying113
  a39 := Tryz.isAgg113
  z39 := Tryz.sizeOf113
  v39 := Tryz.zeroValue113
  t45 := Tryz.underlying134
  a45 := Tryz.isAgg134
  z45 := Tryz.sizeOf134
  v45 := Tryz.zeroValue134
  t46 := Tryz.underlying135
  a46 := Tryz.isAgg135
  z46 := Tryz.sizeOf135
  v46 := Tryz.zeroValue135
  t50 := Tryz.underlying139
  a50 := Tryz.isAgg139
  z50 := Tryz.sizeOf139
  v50 := Tryz.zeroValue139
  t53 := Tryz.underlying142
  a53 := Tryz.isAgg142
  z53 := Tryz.sizeOf142
  v53 := Tryz.zeroValue142
  t55 := Tryz.underlying124
  a55 := Tryz.isAgg124
  z55 := Tryz.sizeOf124
  v55 := Tryz.zeroValue124
  t66 := Tryz.underlying149
  a66 := Tryz.isAgg149
  z66 := Tryz.sizeOf149
  v66 := Tryz.zeroValue149
  t70 := Tryz.underlying153
  a70 := Tryz.isAgg153
  z70 := Tryz.sizeOf153
  v70 := Tryz.zeroValue153
  t76 := Tryz.underlying168
  a76 := Tryz.isAgg168
  z76 := Tryz.sizeOf168
  v76 := Tryz.zeroValue168
  t77 := Tryz.underlying70
  a77 := Tryz.isAgg70
  z77 := Tryz.sizeOf70
  v77 := Tryz.zeroValue70 }
end Go.Proofs
set_option maxRecDepth 10000
namespace Go.Proofs.YtccjncflbbhldaaGreatDoor.Pl
open Go.Sh
open Go.Sort (SWO ahead grow PermIn SortedIn HoldsK putRowK flatK)

instance : Inhabited Tl := ⟨tz⟩
theorem cmpI_word {Q : Value → World → Prop} {a b : Int} {w : World} (h : Q (.int .i64 (Lib.compareInt a b)) w) : C_cmp_Compare_int #[.int .i64 a, .int .i64 b] w Q := by
  refine C_cmp_Compare_int_eq _ _ _ _ (C_cmp_isNaN_int_eq _ _ _ ?_)
  rw [bne_self_eq_false]
  rw [opnB_s]; refine C_cmp_isNaN_int_eq _ _ _ ?_
  rw [bne_self_eq_false]
  rw [opnB_s]
  unfold Lib.compareInt at h
  rw [cond_false, cond_false]
  split at h
  · rename_i g; rw [decide_eq_true g, cond_true]; exact h
  · rename_i g; rw [decide_eq_false g, cond_false]
    split at h
    · rename_i g2; rw [decide_eq_true g2, cond_true]; exact h
    · rename_i g2; rw [decide_eq_false g2, cond_false]; exact h
theorem cmpI64_word {Q : Value → World → Prop} {a b : Int} {w : World} (h : Q (.int .i64 (Lib.compareInt a b)) w) : C_cmp_Compare_int64 #[.int .i64 a, .int .i64 b] w Q := by
  refine C_cmp_Compare_int64_eq _ _ _ _ (C_cmp_isNaN_int64_eq _ _ _ ?_)
  rw [bne_self_eq_false]
  rw [opnB_s]; refine C_cmp_isNaN_int64_eq _ _ _ ?_
  rw [bne_self_eq_false]
  rw [opnB_s]
  unfold Lib.compareInt at h
  rw [cond_false, cond_false]
  split at h
  · rename_i g; rw [decide_eq_true g, cond_true]; exact h
  · rename_i g; rw [decide_eq_false g, cond_false]
    split at h
    · rename_i g2; rw [decide_eq_true g2, cond_true]; exact h
    · rename_i g2; rw [decide_eq_false g2, cond_false]; exact h
theorem or_word {Q : Value → World → Prop} {b : Nat} {x y : Int} {w : World} (hb : Blk w b 3 [.int .i64 x, .int .i64 y]) (h : Q (.int .i64 (if x ≠ 0 then x else y)) w) : C_cmp_Or_int #[.slice (some ⟨b, 0, none⟩) 2 2] w Q := by
  have c0 : w.cell? ((⟨b, 0, none⟩ : Addr).add (Int.toNat 0 * 1)) = some (.int .i64 x) := by
    show w.cell? ⟨b, 0 + 0, none⟩ = _
    rw [hb.cell]; rfl
  have c1 : w.cell? ((⟨b, 0, none⟩ : Addr).add (Int.toNat 1 * 1)) = some (.int .i64 y) := by
    show w.cell? ⟨b, 0 + 1, none⟩ = _
    rw [hb.cell]; rfl
  refine C_cmp_Or_int_eq _ _ _ _ _ (N_cmp_Or_int.j3_eq (h := ?_))
  refine c_lt (by decide) ⟨by decide, by decide, ?_⟩
  show opnI _ _ _
  rw [c0]
  refine opnI_s ?_
  by_cases hx : x = 0
  · subst hx
    rw [bne_self_eq_false, cond_false]
    refine N_cmp_Or_int.j3_eq (h := ?_)
    refine c_lt (by decide) ⟨by decide, by decide, ?_⟩
    show opnI _ (w.cell? ((⟨b, 0, none⟩ : Addr).add (Int.toNat 1 * 1))) _
    rw [c1]
    refine opnI_s ?_
    by_cases hy : y = 0
    · subst hy
      rw [bne_self_eq_false, cond_false]
      exact N_cmp_Or_int.j3_eq (h := c_nlt (by decide) (by simpa using h))
    · rw [show (y != 0) = true by simpa using hy, cond_true]; simpa using h
  · rw [show (x != 0) = true by simpa using hx, cond_true]; simpa [hx] using h
def cfT (x y : Tl) : Int := if Lib.compareInt y.L x.L ≠ 0 then Lib.compareInt y.L x.L else Lib.compareInt x.N y.N
theorem s1_word {Q : Value → World → Prop} {x y : Tl} {w : World} (h : ∀ o1 o2 o3, Q (.int .i64 (cfT x y)) (((w.alloc o1).alloc o2).drew.alloc o3)) : C_tile_Plan_S1 #[.agg (tv x).toArray, .agg (tv y).toArray] w Q := by
  refine C_tile_Plan_S1_eq _ _ _ _ _ _ _ _ _ _ _ _ ?_
  unfold alC drw
  generalize hw2 : w.alloc (.cells #[.int .i64 x.H, .int .i64 x.L, .int .i64 x.N, .int .i64 x.W, .bool x.D] 34) = w2
  have b2 : Blk w2 w.heap.size 34 (tv x) := hw2 ▸ blk_alloc
  generalize hw3 : w2.alloc (.cells #[.int .i64 y.H, .int .i64 y.L, .int .i64 y.N, .int .i64 y.W, .bool y.D] 34) = w3
  have b3 : Blk w3 w2.heap.size 34 (tv y) := hw3 ▸ blk_alloc
  have b2' : Blk w3 w.heap.size 34 (tv x) := b2.chg (hw3 ▸ chg_alloc (D := None) w2 _) id
  have x1 : ∀ j, w3.drew.cell? ((⟨w.heap.size, 0, none⟩ : Addr).add j) = (tv x)[j]? := fun j => by
    rw [Addr.add_lit, Nat.zero_add]; exact b2'.cell j
  have y1 : ∀ j, w3.drew.cell? ((⟨w2.heap.size, 0, none⟩ : Addr).add j) = (tv y)[j]? := fun j => by
    rw [Addr.add_lit, Nat.zero_add]; exact b3.cell j
  refine opnI_c (y1 1) (opnI_c (x1 1) (opnI_c (x1 2) (opnI_c (y1 2) ?_)))
  refine cmpI_word ?_
  refine opnI_s ?_
  refine ⟨opnI_c (y1 2) rfl, opnI_c (x1 2) rfl, ?_⟩
  refine cmpI64_word ?_
  refine opnI_s ?_
  refine or_word (hb := blk_alloc) ?_
  refine opnI_s ?_
  subst hw3 hw2
  exact h _ _ _
theorem cfT_lt (x y : Tl) : Go.Proofs.ltOf cfT x y = true ↔ below x y := by
  unfold Go.Proofs.ltOf cfT Lib.compareInt below
  rw [decide_eq_true_iff]
  repeat' split
  all_goals simp at *
  all_goals omega
theorem cfT_swo : SWO (Go.Proofs.ltOf cfT) where
  irrefl x := by
    rw [← Bool.not_eq_true, cfT_lt]; unfold below; omega
  trans x y z h1 h2 := by
    rw [cfT_lt] at *; unfold below at *; omega
  ntrans x y z h1 h2 := by
    rw [← Bool.not_eq_true, cfT_lt] at *; unfold below at *; omega
theorem s1_lays (b size : Nat) (w : World) : CmpLays PP 42 #[] tv 5 cfT b 0 size w := by
  intro m os dk _ x y
  generalize sortWorldK tv 5 w b 0 m dk os = W
  have h := calls_C (P := PP) (f := 42) Tryz.func42 (by rfl) (by decide) (s1_word (x := x) (y := y) (w := W) (Q := fun v w' => v = .int .i64 (cfT x y) ∧ ∃ q os', w' = grow (W.drewN q) os') fun o1 o2 o3 => ⟨rfl, 1, #[o1, o2, o3], by
    rw [Go.Sort.alloc_eq_grow, Go.Sort.alloc_eq_grow, Go.Sort.alloc_eq_grow, Go.Sort.drew_grow, Go.Sort.drew_grow, Go.Sort.grow_grow, Go.Sort.grow_grow]; rfl⟩)
  refine h.mono fun e w' => ?_
  cases e <;> simp
theorem flatK_tvs (l : List Tl) : flatK tv 5 l.toArray = (tvs l).toArray := by
  apply Array.ext
  · simp [flat_len tv 5 tv_len]
  · intro i h1 h2
    have hi : i < l.length * 5 := by simpa using h1
    have hq : i / 5 < l.length := by omega
    have e := flat_get tv 5 tv_len l (i / 5) (i % 5) l[i / 5] (List.getElem?_eq_getElem hq) (Nat.mod_lt _ (by decide))
    rw [show i / 5 * 5 + i % 5 = i by omega] at e
    have g := Go.Sort.get_flatK tv 5 l.toArray i (by simpa using hi)
    rw [getElem!_pos (flatK tv 5 l.toArray) i h1] at g
    rw [g]
    have : l.toArray[i / 5]! = l[i / 5] := by rw [getElem!_pos l.toArray (i / 5) (by simpa using hq)]; simp
    rw [this]
    have h5 : i % 5 < (tv l[i / 5]).length := by rw [tv_len]; omega
    rw [getElem!_pos (tv l[i / 5]) (i % 5) h5]
    rw [List.getElem?_eq_getElem h5] at e
    have h2' : i < (tvs l).length := by simpa using h2
    rw [show (l.flatMap tv)[i]? = some (tvs l)[i] from List.getElem?_eq_getElem h2'] at e
    simp only [Option.some.injEq] at e
    rw [← e]; simp
theorem sortTl_word {Q : Value → World → Prop} {w : World} {a : Option Addr} {c : Nat} {l : List Tl} (o : Own w 34 5 a l.length c (tvs l)) (hs : ∃ b, a = some ⟨b, 0, none⟩) (hn : l.length < 4611686018427387904) (hd : (l.map fun t => (t.L, t.N)).Nodup)
    (hQ : ∀ l' w', l'.Perm l → l'.Pairwise below → Own w' 34 5 a l.length c (tvs l') → Chg (At a) w w' → Q (.tuple #[]) w') : C_slices_SortFunc_tile_Tile_tile_Tile #[.slice a l.length c, .func (.func 42) #[] #[]] w Q := by
  obtain ⟨b, rfl⟩ := hs
  obtain ⟨ol, orow⟩ := o
  rcases orow with ⟨h, _⟩ | ⟨b', rest, hb, blk, hc, hnc⟩
  · cases h
  cases hb
  have hH : HoldsK tv 5 w b 0 l.toArray := by
    intro j hj
    rw [flatK_tvs] at hj ⊢
    have hj' : j < (tvs l).length := by simpa using hj
    rw [Nat.zero_add, blk.cell]
    refine ⟨?_, blk.thaw (by rw [List.length_append]; omega)⟩
    rw [List.getElem?_append_left hj', List.getElem?_eq_getElem hj', getElem!_pos (tvs l).toArray j hj]
    simp
  have hcon := AnyQ.slices_SortFunc sortTl0 5 Tryz.isAgg34 Tryz.sizeOf34 tv tv_len (fun x => List.all_eq_true.1 (show (tv x).all Value.oneCell' = true from rfl)) cfT cfT_swo 42 #[] b 0 c l.toArray w (enters_of Tryz.func42 (by kernel_rfl) rfl) (s1_lays b l.toArray.size w) hH blk.lt (by simpa using hn)
  change Calls PP 41 _ _ _ at hcon
  rw [show l.toArray.size = l.length by simp] at hcon
  refine C_calls Tryz.func41 (by rfl) (by decide) (hcon.mono ?_)
  rintro e w' ⟨rfl, d', n, os, hp, hs, rfl⟩
  show Q _ _
  obtain ⟨hp1, _, hp3⟩ := hp
  have hsz : d'.size = l.length := by simpa using hp1
  have hperm : d'.toList.Perm l := by
    have h1 : d'.extract 0 l.length = d' := by rw [← hsz]; exact Array.extract_size
    have h2 : l.toArray.extract 0 l.length = l.toArray := by simp
    rw [h1, h2] at hp3
    simpa using hp3
  have hfl : flatK tv 5 d' = (tvs d'.toList).toArray := by
    have := flatK_tvs d'.toList
    simpa using this
  have hlen : (tvs d'.toList).length = (tvs l).length := by rw [flat_len tv 5 tv_len, flat_len tv 5 tv_len]; simp [hsz]
  have hblk : Blk (sortWorldK tv 5 w b 0 n d' os) b 34 (tvs d'.toList ++ rest) := by
    obtain ⟨fr, h1, h2⟩ := blk
    refine ⟨fr, ?_, fun i hi => h2 i (by simp only [List.length_append] at *; omega)⟩
    have hb : b < w.heap.size := (Array.getElem?_eq_some_iff.1 h1).1
    unfold sortWorldK
    rw [Go.Sort.heap_grow_old _ _ (by simpa [Go.Sort.putRowK, Go.Sort.putRow, Go.Sort.mapBlock, Go.Sort.ahead] using hb)]
    simp only [Go.Sort.putRowK, Go.Sort.putRow, Go.Sort.mapBlock, Go.Sort.ahead]
    rw [Array.getElem?_modify, if_pos rfl, h1, hfl]
    simp only [Option.map_some, Go.Sort.onCells, Option.some.injEq, Obj.cells.injEq, and_true]
    apply Array.ext
    · simp [Go.Sort.putCells, hlen]
    · intro i g1 g2
      have g2' : i < (tvs d'.toList ++ rest).length := by simpa using g2
      simp only [Go.Sort.putCells, Array.getElem_mapIdx, Nat.sub_zero, Nat.zero_le, true_and, Nat.zero_add, List.size_toArray, List.getElem_toArray]
      by_cases hi : i < (tvs d'.toList).length
      · rw [if_pos hi, List.getElem_append_left hi, getElem!_pos (tvs d'.toList).toArray i (by simpa using hi)]
        simp
      · rw [if_neg hi, List.getElem_append_right (by omega), List.getElem_append_right (by omega)]
        simp only [hlen]
  refine hQ d'.toList _ hperm ?_ ⟨by rw [hlen]; exact ol, .inr ⟨b, rest, rfl, hblk, by rw [List.length_append, hlen, ← List.length_append]; exact hc, hnc⟩⟩ ?_
  · rw [List.pairwise_iff_getElem]
    intro i j hi hj hij
    have hjs : j < d'.size := by simpa using hj
    have g := hs i j (Nat.zero_le _) hij (by omega)
    rw [getElem!_pos d' j hjs, getElem!_pos d' i (by omega : i < d'.size), ← Bool.not_eq_true, cfT_lt] at g
    have hnd : (d'.toList.map fun t => (t.L, t.N)).Nodup := (hperm.map _).nodup_iff.2 hd
    have hne := List.pairwise_iff_getElem.1 hnd i j (by simpa using (by omega : i < d'.size)) (by simpa using hjs) hij
    simp only [List.getElem_map, ne_eq, Prod.mk.injEq, Array.getElem_toList] at hne ⊢
    unfold below at *
    omega
  · refine ⟨rfl, rfl, rfl, ?_, fun k hk hn' => ?_⟩
    · unfold sortWorldK; rw [Go.Sort.size_grow]; simp [Go.Sort.putRowK, Go.Sort.putRow, Go.Sort.mapBlock, Go.Sort.ahead]
    · unfold sortWorldK
      rw [Go.Sort.heap_grow_old _ _ (by simpa [Go.Sort.putRowK, Go.Sort.putRow, Go.Sort.mapBlock, Go.Sort.ahead] using hk)]
      simp only [Go.Sort.putRowK, Go.Sort.putRow, Go.Sort.mapBlock, Go.Sort.ahead]
      rw [Array.getElem?_modify, if_neg (fun e => hn' ⟨_, rfl, e⟩)]
end Go.Proofs.YtccjncflbbhldaaGreatDoor.Pl
/-! ## PlPlan -/
set_option maxRecDepth 10000
namespace Go.Proofs.YtccjncflbbhldaaGreatDoor.Pl
open Go.Sh

abbrev zvs (l : List Int) : List Value := l.map fun z => Value.int .i64 z
theorem zvs_get {l : List Int} {j : Nat} {z : Int} (h : l[j]? = some z) : (zvs l)[j]? = some (.int .i64 z) := by rw [List.getElem?_map, h]; rfl
theorem rd_z {w : World} {S : Nat → Prop} {a : Option Addr} {l : List Int} (h : Lies w S a (zvs l)) {i : Int} {z : Int} (hx : l[i.toNat]? = some z) {K : Int → Prop} (hK : K z) : opnA a fun ad => opnI .i64 (w.cell? (ad.add (Int.toNat i * 1))) K := by
  obtain ⟨p, rfl, _, hc⟩ := h _ _ (zvs_get hx)
  simp only [opnA, Nat.mul_one, hc, opnI]
  exact ⟨trivial, hK⟩

/-- what Plan answers -/
def planE (h size : Int) (zs : List Int) : Int :=
  if 1 ≤ h ∧ h ≤ 8 ∧ 0 ≤ size ∧ size ≤ 281474976710656 then if 1024 < zs.length then 2 else if zs.all (fun z => decide (0 ≤ z ∧ z < ((laid size.toNat : Nat) : Int))) = true then 0 else 105 else 1
def starts (size : Int) (zs : List Int) : List Nat := peaksOf size.toNat ++ zs.map Int.toNat
theorem peaks_lt {n : Nat} (hn : n ≤ 281474976710656) : ∀ m, ∀ p ∈ peaksTo n m, p < 562949953421311
  | 0 => by simp [peaksTo]
  | m + 1 => by
    intro p hp
    unfold peaksTo at hp
    split at hp
    · rename_i hb
      rcases List.mem_cons.1 hp with rfl | hp
      · exact place_lt (peak_fits hn hb)
      · exact peaks_lt hn m p hp
    · exact peaks_lt hn m p hp

section
variable {Q : Value → World → Prop} {h size : Nat} {zs : List Int} {w0 : World}
/-- the keys, collected and sorted -/
theorem plan_j25 {S : List Tl} (hnd : (S.map fun t => (t.L, t.N)).Nodup) (hS : S.length ≤ 1073741824) (hQ : ∀ l, l.Perm S → l.Pairwise below → ∀ a c w', Own w' 34 5 a l.length c (tvs l) → (∀ k, At a k → w0.heap.size ≤ k) → Chg None w0 w' → Q (.tuple #[.slice a l.length c, .int .i64 0]) w') {it r : Nat} (hit : w0.heap.size ≤ it) (hr : w0.heap.size ≤ r) :
    ∀ (rest : List (Tl × Value)) (acc : List Tl) (cur : Option (Tl × Value)) (b c : Nat) (w : World), (rest.map (·.1) ++ acc).Perm S → (∀ x ∈ rest, x.2 = .int .i64 1) → w0.heap.size ≤ b → b ≠ it → b ≠ r → Itr w tg it r (keys1 S) rest cur → Own w 34 5 (some ⟨b, 0, none⟩) acc.length c (tvs acc) → Chg None w0 w →
      N_tile_Plan.j25 Q (some ⟨b, 0, none⟩) acc.length c ⟨it, 0, none⟩ w := by
  have go : ∀ (n : Nat) (rest : List (Tl × Value)) (acc : List Tl) (cur : Option (Tl × Value)) (b c : Nat) (w : World), rest.length = n → (rest.map (·.1) ++ acc).Perm S → (∀ x ∈ rest, x.2 = .int .i64 1) → w0.heap.size ≤ b → b ≠ it → b ≠ r → Itr w tg it r (keys1 S) rest cur → Own w 34 5 (some ⟨b, 0, none⟩) acc.length c (tvs acc) → Chg None w0 w →
      N_tile_Plan.j25 Q (some ⟨b, 0, none⟩) acc.length c ⟨it, 0, none⟩ w := by
    intro n
    induction n with
    | zero =>
      intro rest acc cur b c w hn hp hv hb hbi hbr hI o k0
      have hlen : acc.length ≤ 1073741824 := by have := hp.length_eq; rw [List.length_append] at this; omega
      refine N_tile_Plan.j25_eq (h := map_next hI (fun _ w1 k1 => ?_) fun x rest' hperm => ?_)
      · have hr0 : rest = [] := List.eq_nil_of_length_eq_zero hn
        subst hr0
        have hpa : acc.Perm S := by simpa using hp
        refine sortTl_word (o.chg0 k1) ⟨b, rfl⟩ (by omega) ((hpa.map _).nodup_iff.2 hnd) fun l' w2 hp' hso o2 k2 => ⟨rfl, ?_⟩
        have hl' := hp'.length_eq
        rw [← hl'] at o2 ⊢
        exact hQ l' (hp'.trans hpa) hso _ _ w2 o2 (by rintro k ⟨p, hp, rfl⟩; cases hp; exact hb) (Chg.fresh (k0.none_trans k1) k2 (by rintro k ⟨p, hp, rfl⟩; cases hp; exact hb))
      · have := hperm.length_eq
        simp at this; omega
    | succ n ih =>
      intro rest acc cur b c w hn hp hv hb hbi hbr hI o k0
      have hlen : acc.length < 1073741824 := by have := hp.length_eq; rw [List.length_append, List.length_map] at this; omega
      refine N_tile_Plan.j25_eq (h := map_next hI (fun hz => by subst hz; simp at hn) fun x rest' hperm w1 hI1 k1 => ?_)
      obtain ⟨t, v⟩ := x
      have hv1 : v = .int .i64 1 := hv (t, v) (hperm.mem_iff.2 (by simp))
      subst hv1
      rw [opnN_more]
      refine opn_tile (opnI_s ?_)
      refine map_entry hI1 ⟨rfl, opn_tile (opnI_s ?_)⟩
      refine mk_tile fun b2 w2 hb2 k2 hlt2 => rd_tile hb2 ?_
      have o1 : Own w1 34 5 (some ⟨b, 0, none⟩) acc.length c (tvs acc) := o.chg k1 (by rintro k ⟨p, hp, rfl⟩; cases hp; exact hbi)
      have k01 : Chg None w0 w1 := Chg.fresh k0 k1 fun x hx => by rw [hx]; exact hit
      unfold alC
      have ka : Chg None w2 (w2.alloc (.cells #[.int .i64 t.H, .int .i64 t.L, .int .i64 t.N, .int .i64 t.W, .bool t.D] 34)) := chg_alloc w2 _
      have k0a := (k01.none_trans k2).none_trans ka
      refine append_own T42 (w := w2.alloc _) ((o1.chg0 k2).chg0 ka) (src_two (vs := tv t) (n := 1) T42.ht rfl (fun u hu => List.all_eq_true.1 (tv_one t) u hu)) (by simp only [maxLen]; omega) (by omega) fun a' c' w3 o3 k3 f3 => ?_
      have k03 : Chg None w0 w3 := Chg.fresh k0a k3 (by rintro k ⟨p, hp, rfl⟩; cases hp; exact hb)
      have hI2 : Itr w3 tg it r (keys1 S) rest' (some (t, .int .i64 1)) := ((hI1.chg k2 (fun h => h) (fun h => h)).chg ka (fun h => h) (fun h => h)).chg k3 (by rintro ⟨p, hp, e⟩; cases hp; exact hbr e) (by rintro ⟨p, hp, e⟩; cases hp; exact hbi e)
      have hlt := hI1.lt
      have hsz := (k2.none_trans ka).size
      rw [opnL_s]
      have e1 : tvs acc ++ tv t = tvs (acc ++ [t]) := by simp [tvs]
      rw [e1] at o3
      have hperm2 : (rest'.map (·.1) ++ (acc ++ [t])).Perm S := by
        refine List.Perm.trans ?_ hp
        refine List.Perm.trans ?_ ((hperm.map (·.1)).append_right acc).symm
        rw [List.map_cons, List.cons_append]
        rw [← List.append_assoc]
        exact List.perm_append_singleton t (rest'.map (·.1) ++ acc)
      have hlen2 : rest'.length = n := by have := hperm.length_eq; simp at this; omega
      rcases f3 with rfl | ⟨b', rfl, hb'⟩
      · have := ih rest' (acc ++ [t]) _ b c' w3 hlen2 hperm2 (fun x hx => hv x (hperm.mem_iff.2 (List.mem_cons_of_mem _ hx))) hb hbi hbr hI2 (by simpa using o3) k03
        simpa using this
      · have := ih rest' (acc ++ [t]) _ b' c' w3 hlen2 hperm2 (fun x hx => hv x (hperm.mem_iff.2 (List.mem_cons_of_mem _ hx))) (by have := k0a.size; omega) (by omega) (by omega) hI2 (by simpa using o3) k03
        simpa using this
  intro rest acc cur b c w
  exact go rest.length rest acc cur b c w rfl

theorem plan_word {Q : Value → World → Prop} {S0 : Nat → Prop} {h size : Int} {a : Option Addr} {c : Nat} {zs : List Int} {w0 : World} (hl : Lies w0 S0 a (zvs zs)) (hzl : zs.length ≤ 140737488351232)
    (hbad : planE h size zs ≠ 0 → ∀ w', Chg None w0 w' → Q (.tuple #[.slice none 0 0, .int .i64 (planE h size zs)]) w')
    (hok : planE h size zs = 0 → ∀ l, IsPlan h.toNat size.toNat (starts size zs) l → l.length ≤ 1073741824 → ∀ a c w', Own w' 34 5 a l.length c (tvs l) → (∀ k, At a k → w0.heap.size ≤ k) → Chg None w0 w' → Q (.tuple #[.slice a l.length c, .int .i64 0]) w') :
    C_tile_Plan #[.int .i64 h, .int .i64 size, .slice a zs.length c] w0 Q := by
  refine C_tile_Plan_eq _ _ _ _ _ _ _ (C_tile_sizes_eq _ _ _ _ ?_)
  have bad : ¬ (1 ≤ h ∧ h ≤ 8 ∧ 0 ≤ size ∧ size ≤ 281474976710656) → Q (.tuple #[.slice none 0 0, .int .i64 1]) w0 := by
    intro hn
    have e : planE h size zs = 1 := by rw [planE, if_neg hn]
    have := hbad (by rw [e]; decide) w0 (Chg.refl _ _)
    rwa [e] at this
  by_cases g1 : 1 ≤ h
  case neg => exact c_nge (by omega) (bad (by omega))
  refine c_ge g1 ?_
  by_cases g2 : h ≤ 8
  case neg => exact c_nle (by omega) (bad (by omega))
  refine c_le g2 ?_
  by_cases g3 : 0 ≤ size
  case neg => exact c_nge (by omega) (bad (by omega))
  refine c_ge g3 ?_
  by_cases g4 : size ≤ 281474976710656
  case neg =>
    rw [decide_eq_false g4]
    exact bad (by omega)
  rw [decide_eq_true g4, opnB_s, Bool.not_true, cond_false]
  have gg : 1 ≤ h ∧ h ≤ 8 ∧ 0 ≤ size ∧ size ≤ 281474976710656 := ⟨g1, g2, g3, g4⟩
  by_cases g5 : 1024 < zs.length
  · have e : planE h size zs = 2 := by rw [planE, if_pos gg, if_pos g5]
    have := hbad (by rw [e]; decide) w0 (Chg.refl _ _)
    rw [e] at this
    exact c_gt (by omega) this
  refine c_ngt (by omega) ?_
  obtain ⟨h, rfl⟩ := Int.eq_ofNat_of_zero_le (by omega : 0 ≤ h)
  obtain ⟨size, rfl⟩ := Int.eq_ofNat_of_zero_le (by omega : 0 ≤ size)
  have h1 : 1 ≤ h := by omega
  have h8 : h ≤ 8 := by omega
  have hs : size ≤ 281474976710656 := by omega
  have hlaid : laid size ≤ 562949953421311 := by have := laid_mono hs; rw [laid_max] at this; omega
  simp only [Int.toNat_natCast] at hok
  refine tcount_word (fun _ _ => ⟨rfl, ⟨rfl, ⟨rfl, ?_⟩⟩⟩) fun g => absurd ⟨by omega, by omega⟩ g
  simp only [Int.toNat_natCast]
  have hE : planE (h : Int) (size : Int) zs = if zs.all (fun z => decide (0 ≤ z ∧ z < ((laid size : Nat) : Int))) = true then 0 else 105 := by rw [planE, if_pos gg, if_neg g5]; rfl
  have out : ¬ (zs.all (fun z => decide (0 ≤ z ∧ z < ((laid size : Nat) : Int))) = true) → N_tile_Plan.j10 Q w0 := by
    intro hn
    rw [if_neg hn] at hE
    refine N_tile_Plan.j10_eq (h := ?_)
    have := hbad (by rw [hE]; decide) w0 (Chg.refl _ _)
    rwa [hE] at this
  have walk : ∀ (rest done : List Int), zs = done ++ rest → (∀ z ∈ done, 0 ≤ z ∧ z < ((laid size : Nat) : Int)) → N_tile_Plan.j7 Q (h : Int) (size : Int) a zs.length c ((laid size : Nat) : Int) a zs.length c ((zs.length : Nat) : Int) ((done.length : Nat) : Int) w0 := by
    intro rest
    induction rest with
    | cons z rest ih =>
      intro done hd hdone
      have hlt : done.length < zs.length := by rw [hd]; simp
      have hx : zs[Int.toNat ((done.length : Nat) : Int)]? = some z := by rw [hd]; simp
      have hzm : z ∈ zs := by rw [hd]; simp
      refine N_tile_Plan.j7_eq (h := c_lt (by omega) ⟨by omega, by omega, ?_⟩)
      refine rd_z hl hx ?_
      by_cases n1 : z < 0
      · exact c_lt n1 (out fun g => by have := of_decide_eq_true (List.all_eq_true.1 g z hzm); omega)
      refine c_nlt (by omega) ?_
      by_cases n2 : z ≥ ((laid size : Nat) : Int)
      · exact c_ge n2 (out fun g => by have := of_decide_eq_true (List.all_eq_true.1 g z hzm); omega)
      refine c_nge (by omega) ?_
      rw [wrap_len (x := z) (by omega)]
      exact ih (done ++ [z]) (by rw [hd]; simp) fun y hy => by
        rcases List.mem_append.1 hy with hy | hy
        · exact hdone y hy
        · simp at hy; subst hy; omega
    | nil =>
      intro done hd hdone
      obtain rfl : zs = done := by simpa using hd
      have hall : zs.all (fun z => decide (0 ≤ z ∧ z < ((laid size : Nat) : Int))) = true := List.all_eq_true.2 fun z hz => decide_eq_true (hdone z hz)
      rw [if_pos hall] at hE
      replace hok := hok hE
      refine N_tile_Plan.j7_eq (h := c_nlt (by omega) ?_)
      unfold alM
      have hm0 : HMap (w0.alloc (.map #[] 0)) tg w0.heap.size (keys1 ([] : List Tl)) := map_made tg
      have k1 : Chg None w0 (w0.alloc (.map #[] 0)) := chg_alloc w0 _
      generalize w0.alloc (.map #[] 0) = w1 at hm0 k1
      refine tpeaks_word (fun _ _ pa pc w2 po pf k2 => ⟨rfl, ⟨rfl, ?_⟩⟩) fun g => absurd ⟨by omega, by omega⟩ g
      simp only [Int.toNat_natCast] at po ⊢
      refine alC_box fun pb w3 hpb k3 hlt3 => ?_
      have hm3 := (hm0.chg0 k2).chg0 k3
      have k03 : Chg None w0 w3 := k1.none_trans (k2.none_trans k3)
      have hpl := (po.chg0 k3).lies
      have hplen := peaksTo_len size 49
      -- over the lists
      have need1 : ∀ (ps : List Nat) (S : List Tl) (w : World), (∀ c ∈ ps, c < 562949953421311) → HMap w tg w0.heap.size (keys1 S) → Chg (fun k => k = w0.heap.size) w3 w → ∀ (la : Option Addr) (lc : Nat) (Sl : Nat → Prop), Lies w3 Sl la (ivs ps) → ¬ Sl w0.heap.size → ps.length < 9223372036854775807 →
          ∀ (i : Nat), (∀ w', HMap w' tg w0.heap.size (keys1 (needAll h size ps S)) → Chg (fun k => k = w0.heap.size) w3 w' → N_tile_Plan.j15 Q (h : Int) (size : Int) (some w0.heap.size) (some ⟨pb, 0, none⟩) 2 2 ((2 : Nat) : Int) (IntKind.wrap .i64 ((i : Int) + 1)) w') →
          N_tile_Plan.j18 Q (h : Int) (size : Int) (some w0.heap.size) (some ⟨pb, 0, none⟩) 2 2 ((2 : Nat) : Int) (i : Int) la ps.length lc ((ps.length : Nat) : Int) 0 w := by
        intro ps S w hps hm k la lc Sl hli hSl hpl i hend
        have step : ∀ (rest done : List Nat) (S : List Tl) (w : World), ps = done ++ rest → HMap w tg w0.heap.size (keys1 S) → Chg (fun k => k = w0.heap.size) w3 w →
            (∀ w', HMap w' tg w0.heap.size (keys1 (needAll h size rest S)) → Chg (fun k => k = w0.heap.size) w3 w' → N_tile_Plan.j15 Q (h : Int) (size : Int) (some w0.heap.size) (some ⟨pb, 0, none⟩) 2 2 ((2 : Nat) : Int) (IntKind.wrap .i64 ((i : Int) + 1)) w') →
            N_tile_Plan.j18 Q (h : Int) (size : Int) (some w0.heap.size) (some ⟨pb, 0, none⟩) 2 2 ((2 : Nat) : Int) (i : Int) la ps.length lc ((ps.length : Nat) : Int) ((done.length : Nat) : Int) w := by
          intro rest
          induction rest with
          | nil =>
            intro done S w hd hm k hend
            obtain rfl : ps = done := by simpa using hd
            exact N_tile_Plan.j18_eq (h := c_nlt (by omega) (hend w hm k))
          | cons p rest ih =>
            intro done S w hd hm k hend
            have hlt : done.length < ps.length := by rw [hd]; simp
            have hx : (ivs ps)[done.length]? = some (iv p) := by rw [hd]; simp
            refine N_tile_Plan.j18_eq (h := c_lt (by omega) ⟨by omega, by omega, ?_⟩)
            have hli' : Lies w Sl la (ivs ps) := hli.chg k fun x _ hx hxe => hSl (hxe ▸ hx)
            obtain ⟨q, rfl, _, hcell⟩ := hli' _ _ hx
            show opnI .i64 (w.cell? (q.add (Int.toNat ((done.length : Nat) : Int) * 1))) _
            rw [Int.toNat_natCast, Nat.mul_one]
            refine opnI_c hcell ?_
            refine need_word h1 h8 hs (hps p (by rw [hd]; simp)) hm fun w' hm' k' => ⟨rfl, ?_⟩
            rw [wrap_len (x := p) (by omega)]
            exact ih (done ++ [p]) _ w' (by rw [hd]; simp) hm' (Chg.trans k k' (fun _ _ h => h) (fun _ _ h => h)) hend
        exact step ps [] S w rfl hm k hend
      have hpbne : pb ≠ w0.heap.size := by have := k1.size; have := k2.size; have := hm0.lt; omega
      refine N_tile_Plan.j15_eq (h := c_lt (by decide) ⟨by decide, by decide, ?_⟩)
      show opnL (w3.cell? ((⟨pb, 0, none⟩ : Addr).add 0)) _
      refine opnL_c (hpb.rd 0 rfl) ?_
      refine need1 (peaksOf size) [] w3 (peaks_lt hs 49) hm3 (Chg.refl _ _) pa pc (At pa) hpl (fun g => by have := pf _ g; have := hm0.lt; omega) (by unfold peaksOf; omega) 0 fun w4 hm4 k4 => ?_
      have hpb4 := hpb.chg k4 hpbne
      rw [show IntKind.wrap .i64 (((0 : Nat) : Int) + 1) = 1 by decide]
      refine N_tile_Plan.j15_eq (h := c_lt (by decide) ⟨by decide, by decide, ?_⟩)
      show opnL (w4.cell? ((⟨pb, 0, none⟩ : Addr).add 1)) _
      refine opnL_c (hpb4.rd 1 rfl) ?_
      have hzn : ivs (zs.map Int.toNat) = zvs zs := by
        show (zs.map Int.toNat).map iv = _
        rw [List.map_map]
        refine List.map_congr_left fun z hz => ?_
        have := (hdone z hz).1
        simp only [Function.comp_apply, iv]
        rw [Int.toNat_of_nonneg this]
      have hzlen : (zs.map Int.toNat).length = zs.length := List.length_map _
      have hz3 : Lies w3 (fun k => k < w0.heap.size) a (ivs (zs.map Int.toNat)) := by
        rw [hzn]
        exact (hl.bound.chg0 k03).mono fun k hk => hk.2
      rw [← hzlen]
      refine need1 (zs.map Int.toNat) _ w4 (fun c hc => by
        obtain ⟨z, hz, rfl⟩ := List.mem_map.1 hc
        have := hdone z hz; omega) hm4 k4 a c _ hz3 (fun g => absurd g (Nat.lt_irrefl _)) (by rw [hzlen]; omega) 1 fun w5 hm5 k5 => ?_
      rw [show IntKind.wrap .i64 (((1 : Nat) : Int) + 1) = 2 by decide]
      refine N_tile_Plan.j15_eq (h := c_nlt (by decide) ?_)
      have napp : ∀ (a b : List Nat) (S : List Tl), needAll h size b (needAll h size a S) = needAll h size (a ++ b) S := by
        intro a
        induction a with
        | nil => intro b S; rfl
        | cons c a ih => intro b S; exact ih b _
      rw [napp] at hm5
      have hstl : ∀ c ∈ peaksOf size ++ zs.map Int.toNat, c < 562949953421311 := by
        intro c hc
        rcases List.mem_append.1 hc with hc | hc
        · exact peaks_lt hs 49 c hc
        · obtain ⟨z, hz, rfl⟩ := List.mem_map.1 hc
          have := hdone z hz; omega
      obtain ⟨n1, n2⟩ := needAll_spec h1 hs (peaksOf size ++ zs.map Int.toNat) [] [] hstl List.nodup_nil (by intro l n h; cases h) (by
        intro t
        constructor
        · intro h; cases h
        · rintro ⟨l, n, hr, -⟩
          exfalso
          induction hr with
          | start h => cases h
          | up _ _ ih => exact ih)
      rw [List.nil_append] at n2
      have hcap : (needAll h size (peaksOf size ++ zs.map Int.toNat) []).length ≤ 1073741824 := by
        have each : ∀ (f l n : Nat) (S : List Tl), (climb h size f l n S).length ≤ S.length + f := by
          intro f
          induction f with
          | zero => intro l n S; exact Nat.le_refl _
          | succ f ih =>
            intro l n S
            unfold climb
            split
            · omega
            · split
              · have := ih (l + 1) (n / 2 ^ h) (S ++ [tl h l size n])
                rw [List.length_append] at this
                simp at this; omega
              · rw [List.length_append, List.length_singleton]; omega
        have all : ∀ (st : List Nat) (S : List Tl), (needAll h size st S).length ≤ S.length + 49 * st.length := by
          intro st
          induction st with
          | nil => intro S; exact Nat.le_refl _
          | cons c r ih =>
            intro S
            have h1 := ih (climb h size (49 - lo h c) (lo h c) (no h c) S)
            have h2 := each (49 - lo h c) (lo h c) (no h c) S
            simp only [needAll, List.length_cons]
            omega
        have := all (peaksOf size ++ zs.map Int.toNat) []
        rw [List.length_append, hzlen] at this
        have : (peaksOf size).length ≤ 49 := hplen
        simp at *
        omega
      generalize hSS : needAll h size (peaksOf size ++ zs.map Int.toNat) [] = SS at *
      have hlen1 : (keys1 SS).length = SS.length := List.length_map _
      refine map_len M89 hm5 (opnI_s ?_)
      rw [hlen1]
      have k05 : Chg None w0 w5 := Chg.fresh k03 k5 fun x hx => by rw [hx]; exact Nat.le_refl _
      refine make_empty T42 (by omega) (by omega) fun ob w6 oo k6 hob => ?_
      rw [opnL_s]
      refine map_range M89 (hm5.chg0 k6) fun it w7 hI k7 hlt7 => ?_
      have hr5 := hm5.lt
      have hobl := oo.lt (k := ob) ⟨_, rfl, rfl⟩
      refine plan_j25 (S := SS) (r := w0.heap.size) (it := it) ?_ hcap ?_ (by have := k05.size; have := k6.size; omega) (Nat.le_refl _) (keys1 SS) [] none ob SS.length w7 ?_ ?_ (by have := k05.size; omega) (by omega) (by omega) hI (oo.chg0 k7) (k05.none_trans (k6.none_trans k7))
      · -- the keys part in level and number
        refine nodup_map_on (fun t ht u hu e => ?_) n1
        obtain ⟨l, n, _, rfl⟩ := (n2 t).1 ht
        obtain ⟨l', n', _, rfl⟩ := (n2 u).1 hu
        simp only [tl, Prod.mk.injEq] at e
        have e1 : l = l' := by omega
        have e2 : n = n' := by omega
        rw [e1, e2]
      · intro l hp hso a' c' w' o f k
        exact hok l ⟨hso, fun t => by rw [hp.mem_iff]; exact n2 t⟩ (by rw [hp.length_eq]; exact hcap) a' c' w' o f k
      · have e : (keys1 SS).map (·.1) = SS := by simp [keys1, List.map_map, Function.comp_def]
        rw [e, List.append_nil]
      · intro x hx
        obtain ⟨t, _, rfl⟩ := List.mem_map.1 hx
        rfl
  exact walk zs [] rfl (by simp)
end
end Go.Proofs.YtccjncflbbhldaaGreatDoor.Pl
/-! ## Shelf -/
set_option maxRecDepth 10000
namespace Go.Proofs.YtccjncflbbhldaaGreatDoor
open Go.Sh Go.RowKit
open Pl (tlOf firstOf foldOf atOf fold_lt wid cnt tl lo no seat_word opn_seat wide_word wideV wide_tlOf opn_tile rd_tile mk_tile K49 M89 Z3 tvs tpeaks_word ivs iv)
theorem M104 : PP.underlying 58 = some (.map 34 29) := by kernel_rfl
theorem Z25 : (PP.info? 29).bind (·.zero) = some (.slice none 0 0) := by kernel_rfl
/-- the data that were laid on the shelf: of each tile of a list its hashes -/
structure Sf (w : World) (r : Nat) (S : Nat → Prop) (D : Tl → List Hsh) (pl : List Tl) : Prop where
  hm : ∃ m, HMap w tg r m ∧ ∀ t ∈ pl, ∃ q c, Go.Sh.look t m = some (.slice q (32 * (D t).length) c) ∧ 32 * (D t).length ≤ c ∧ Lies w S q (hvs (D t))
theorem Sf.chg0 {w w' : World} {r : Nat} {S : Nat → Prop} {D : Tl → List Hsh} {pl : List Tl} (h : Sf w r S D pl) (k : Chg None w w') : Sf w' r S D pl := by
  obtain ⟨m, h1, h2⟩ := h.hm
  refine ⟨m, h1.chg0 k, fun t ht => ?_⟩
  obtain ⟨q, c, h3, h4, h5⟩ := h2 t ht
  exact ⟨q, c, h3, h4, h5.chg0 k⟩
/-- the hash of a place as the data make it -/
noncomputable def hashD (k : Int) (h size : Nat) (D : Tl → List Hsh) (c : Nat) : Hsh := nodeAt k (fun i => atL (D (tl h (lo h c) size (no h c))) (firstOf h c + i)) (foldOf h c) 0
/-- how long each tile's data are -/
def Long (h size : Nat) (D : Tl → List Hsh) (pl : List Tl) : Prop := ∀ l n, tl h l size n ∈ pl → (D (tl h l size n)).length = wid h l n size
section
variable {Q : Value → World → Prop} {w : World}
theorem hash_word {k : Int} {h size r c : Nat} {S : Nat → Prop} {D : Tl → List Hsh} {pl : List Tl} (sd : ShaStd w) (sf : Sf w r S D pl) (lg : Long h size D pl) (h1 : 1 ≤ h) (h8 : h ≤ 8) (hs : size ≤ 281474976710656) (hc : c < laid size) (hin : tl h (lo h c) size (no h c) ∈ pl)
    (hQ : ∀ w', Chg None w w' → Q (.agg (hb (hashD k h size D c)).toArray) w') :
    C_tile_shelf_hash #[.agg #[.int .i64 k, .int .i64 (h : Int), .int .i64 (size : Int), .map (some r)], .int .i64 (c : Int)] w Q := by
  have hc' := (node_in hc hs).1
  have T := in_tile h1 hc hs
  refine C_tile_shelf_hash_eq _ _ _ _ _ _ _ ?_
  refine alC_box fun b1 w1 hb1 k1 lo1 => ?_
  refine alZ_box zero29h fun b3 w3 hb3 k3 lo3 => ?_
  have h13 := hb1.chg k3 (fun h => h)
  refine opnI_c (h13.rd 1 rfl) ?_
  refine seat_word h1 h8 (fun c' hcc hlt w4 k4 => ?_) fun hn => absurd (by omega) hn
  obtain rfl : c = c' := by omega
  refine opn_seat ?_
  refine alC_box fun b9 w5 h9 k5 lo9 => ⟨rfl, ?_⟩
  refine box7 h9 rfl rfl fun w6 h6 k6 => ?_
  rw [drw_s]
  have k36 : Chg None w3 w6.drew := (Chg.fresh (k4.none_trans k5) k6 fun x hx => by have := k4.size; omega).none_trans (Chg.drew0 (D := None) w6)
  have h6' := h6.chg (Chg.drew0 (D := None) w6) (fun h => h)
  have h16 := h13.chg k36 (fun h => h)
  have h36 := hb3.chg k36 (fun h => h)
  generalize w6.drew = w7 at k36 h6' h16 h36
  refine opnI_c (h16.rd 0 rfl) (opnM_c (h16.rd 3 rfl) ?_)
  refine opnI_c (h6'.rd2 0 0 rfl) (opnI_c (h6'.rd2 0 1 rfl) (opnI_c (h6'.rd2 0 2 rfl) (opnI_c (h6'.rd2 0 3 rfl) (opnB_c (h6'.rd2 0 4 rfl) ?_))))
  refine opnI_c (h16.rd 2 rfl) (opnI_c (h6'.rd 5 rfl) (opnI_c (h6'.rd 6 rfl) ?_))
  refine wide_word (t := tlOf h c) rfl rfl rfl h1 h8 hs fun w8 k8 => opn_tile ?_
  have h68 := h6'.chg k8 (fun h => h)
  have h18 := h16.chg k8 (fun h => h)
  refine ⟨opnI_c (h68.rd 6 rfl) rfl, opnI_c (h68.rd 5 rfl) rfl, opnM_c (h18.rd 3 rfl) rfl, opnI_c (h18.rd 0 rfl) rfl, ?_⟩
  rw [wide_tlOf h1]
  have k08 : Chg None w w8 := (k1.none_trans k3).none_trans (k36.none_trans k8)
  obtain ⟨m, hm, hd⟩ := (sf.chg0 k08).hm
  obtain ⟨q, cq, hlook, hcq, hl⟩ := hd _ hin
  refine map_lookup M104 K49 Z25 hm (tl h (lo h c) size (no h c)) ?_
  rw [hlook]
  show opnL (some (.slice q (32 * (D (tl h (lo h c) size (no h c))).length) cq)) _
  rw [opnL_s]
  have hlen := lg _ _ hin
  have hpw : 2 ^ h ≤ 2 ^ 8 := Nat.pow_le_pow_right (by decide) h8
  have hwl : wid h (lo h c) (no h c) size ≤ 2 ^ h := wid_le
  have hf := fold_lt (c := c) h1
  have hwd : firstOf h c + 2 ^ foldOf h c ≤ wid h (lo h c) (no h c) size := T.wid
  refine joined_word (sd.chg0 k08) hl hcq (by omega) (by omega) (by omega) fun w9 k9 => ?_
  rw [opnG_s]
  refine Blk.stAll ((h36.chg k8 (fun h => h)).chg k9 (fun h => h)) ?_ ?_ ?_ fun w10 h10 k10 => ?_
  · simp [hb_len]
  · simp [hb_len]
  · simpa using hb_one _
  refine Blk.rowAll h10 (n := 32) (by simp [hb_len]) ?_
  have := hQ w10 (Chg.fresh (k08.none_trans k9) k10 fun x hx => by have := k1.size; omega)
  simpa [hashD] using this
theorem hashesloop {k : Int} {h size r b : Nat} {S S1 : Nat → Prop} {D : Tl → List Hsh} {pl : List Tl} {cs : List Nat} {a1 : Option Addr} {c1 : Nat} {w0 : World} (k0 : Chg None w0 w) (sd : ShaStd w) (sf : Sf w r S D pl) (lg : Long h size D pl) (h1 : 1 ≤ h) (h8 : h ≤ 8) (hs : size ≤ 281474976710656) (hcs : ∀ c ∈ cs, c < laid size ∧ tl h (lo h c) size (no h c) ∈ pl) (hl : Lies w S1 a1 (ivs cs)) (h63 : cs.length ≤ 100000)
    (hb : Blk w b 60 [.int .i64 k, .int .i64 (h : Int), .int .i64 (size : Int), .map (some r)])
    (hQ : ∀ a c w', Own w' 54 32 a cs.length c (hvs (cs.map (hashD k h size D))) → (∀ x, At a x → w0.heap.size ≤ x) → Chg None w0 w' → Q (.slice a cs.length c) w') :
    ∀ (d i : Nat) (a : Option Addr) (c : Nat) (w1 : World), i + d = cs.length → Own w1 54 32 a i c (hvs ((cs.take i).map (hashD k h size D))) → (∀ x, At a x → w.heap.size ≤ x) → Chg None w w1 →
    N_tile_shelf_hashes.j3 Q ⟨b, 0, none⟩ a i c a1 cs.length c1 ((cs.length : Nat) : Int) (i : Int) w1 := by
  intro d
  induction d with
  | zero =>
    intro i a c w1 hi o ha k1
    have hi' : i = cs.length := by omega
    subst hi'
    refine N_tile_shelf_hashes.j3_eq (h := c_nlt (by omega) ?_)
    rw [List.take_length] at o
    exact hQ a c w1 o (fun x hx => Nat.le_trans k0.size (ha x hx)) (k0.none_trans k1)
  | succ d ih =>
    intro i a c w1 hi o ha k1
    have hil : i < cs.length := by omega
    refine N_tile_shelf_hashes.j3_eq (h := c_lt (by omega) ⟨by omega, by omega, ?_⟩)
    rw [Int.toNat_natCast]
    refine rd_int (hl.chg0 k1) (List.getElem?_eq_getElem hil) ?_
    have hb1 := hb.chg k1 (fun h => h)
    refine opnI_c (hb1.rd 0 rfl) (opnI_c (hb1.rd 1 rfl) (opnI_c (hb1.rd 2 rfl) (opnM_c (hb1.rd 3 rfl) ?_)))
    obtain ⟨hc1, hc2⟩ := hcs cs[i] (List.getElem_mem hil)
    refine hash_word (sd.chg0 k1) (sf.chg0 k1) lg h1 h8 hs hc1 hc2 fun w2 k2 => ?_
    rw [opnG_s]
    refine ⟨by simp [hb_len], ?_⟩
    refine push_struct T22 (w0 := w) (o.chg0 k2) ha (k1.none_trans k2) (by simp [hb_len]) (by simpa using hb_one _) (by omega) (by omega) fun a3 c3 w3 o3 f3 k3 => ?_
    rw [wrap_nat (by omega)]
    refine ih (i + 1) a3 c3 w3 (by omega) ?_ f3 k3
    rw [List.take_add_one, List.getElem?_eq_getElem hil, List.map_append, hvs, List.flatMap_append]
    simpa using o3
theorem hashes_word {k : Int} {h size r : Nat} {S S1 : Nat → Prop} {D : Tl → List Hsh} {pl : List Tl} {cs : List Nat} {a1 : Option Addr} {c1 : Nat} (sd : ShaStd w) (sf : Sf w r S D pl) (lg : Long h size D pl) (h1 : 1 ≤ h) (h8 : h ≤ 8) (hs : size ≤ 281474976710656) (hcs : ∀ c ∈ cs, c < laid size ∧ tl h (lo h c) size (no h c) ∈ pl) (hl : Lies w S1 a1 (ivs cs)) (h63 : cs.length ≤ 100000)
    (hQ : ∀ a c w', Own w' 54 32 a cs.length c (hvs (cs.map (hashD k h size D))) → (∀ x, At a x → w.heap.size ≤ x) → Chg None w w' → Q (.slice a cs.length c) w') :
    C_tile_shelf_hashes #[.agg #[.int .i64 k, .int .i64 (h : Int), .int .i64 (size : Int), .map (some r)], .slice a1 cs.length c1] w Q := by
  refine C_tile_shelf_hashes_eq _ _ _ _ _ _ _ _ _ ?_
  refine alC_box fun b w1 hb k1 lo1 => ?_
  refine make_empty T22 (c := cs.length) (by omega) (by omega) fun bo w2 o2 k2 lo2 => ?_
  rw [opnL_s]
  exact hashesloop (w := w1) k1 (sd.chg0 k1) (sf.chg0 k1) lg h1 h8 hs hcs (hl.chg0 k1) h63 hb hQ cs.length 0 _ _ w2 (by omega) (by simpa [hvs] using o2) (fun x ⟨q, hq, hx⟩ => by cases hq; subst hx; exact lo2) k2
/-- the root of tops -/
theorem foldw_word {k : Int} {hs : List Hsh} {a : Option Addr} {c : Nat} {S : Nat → Prop} (sd : ShaStd w) (hl : Lies w S a (hvs hs)) (h65 : hs.length ≤ 65536)
    (hQ : ∀ w', Chg None w w' → Q (.agg (hb (foldH k hs)).toArray) w') : C_tlog_Fold #[.int .i64 k, .slice a hs.length c] w Q := by
  refine C_tlog_Fold_eq _ _ _ _ _ _ ?_
  refine alZ_box zero29h fun p1 w1 h1 k1 lo1 => ?_
  refine hasher_word (k := k) fun b1 b3 w2 H _ _ k2 => ?_
  unfold hasherV
  rw [opnG_s]
  refine ⟨rfl, opnI_c rfl (opnV_c (v := fOf b1) rfl (opnV_c (v := fLeaf b3) rfl (opnV_c (v := fNode b3) rfl ?_)))⟩
  have k02 := k1.none_trans k2
  refine root_word (sd.chg0 k02) H (hl.chg0 k02) h65 fun w3 k3 => ?_
  rw [opnG_s]
  refine Blk.stAll ((h1.chg k2 (fun h => h)).chg k3 (fun h => h)) ?_ ?_ ?_ fun w4 h4 k4 => ?_
  · simp [hb_len]
  · simp [hb_len]
  · simpa using hb_one _
  refine Blk.rowAll h4 (n := 32) (by simp [hb_len]) ?_
  have := hQ w4 (Chg.fresh (k02.none_trans k3) k4 fun x hx => by omega)
  simpa using this
end
end Go.Proofs.YtccjncflbbhldaaGreatDoor
/-! ## ReadPure -/
namespace Go.Proofs.YtccjncflbbhldaaGreatDoor
open Go.Sh Go.RowKit
open Pl (tlOf firstOf foldOf atOf fold_lt wid cnt tl lo no IsPlan Reach starts peaks_lt)
/-- the rows of bytes -/
def rowsN : Nat → List UInt8 → List Hsh
  | 0, _ => []
  | n + 1, b => (if h : (b.take 32).length = 32 then ⟨b.take 32, h⟩ else zeroH) :: rowsN n (b.drop 32)
theorem rowsN_len : ∀ (n : Nat) (b : List UInt8), (rowsN n b).length = n
  | 0, _ => rfl
  | n + 1, b => by rw [rowsN, List.length_cons, rowsN_len]
theorem rowsN_bytes : ∀ (n : Nat) (b : List UInt8), b.length = 32 * n → bytesOf (rowsN n b) = b
  | 0, b, h => by rw [List.eq_nil_of_length_eq_zero (l := b) (by omega)]; rfl
  | n + 1, b, h => by
    have h1 : (b.take 32).length = 32 := by rw [List.length_take]; omega
    rw [rowsN, dif_pos h1, bytesOf, List.flatMap_cons]
    show b.take 32 ++ bytesOf (rowsN n (b.drop 32)) = b
    rw [rowsN_bytes n (b.drop 32) (by rw [List.length_drop]; omega), List.take_append_drop]
theorem rowsN_hvs {n : Nat} {b : List UInt8} (h : b.length = 32 * n) : hvs (rowsN n b) = bvs b := by
  rw [← bvs_bytesOf, rowsN_bytes n b h]
theorem rowsN_of : ∀ (l : List Hsh), rowsN l.length (bytesOf l) = l
  | [] => rfl
  | x :: l => by
    have e : bytesOf (x :: l) = x.1 ++ bytesOf l := rfl
    have h1 : (bytesOf (x :: l)).take 32 = x.1 := by rw [e, List.take_left' x.2]
    have h2 : (bytesOf (x :: l)).drop 32 = bytesOf l := by rw [e, List.drop_left' x.2]
    rw [List.length_cons, rowsN, h2, rowsN_of l, dif_pos (by rw [h1]; exact x.2)]
    congr 1
    exact Subtype.ext h1
/-- the bytes that were handed in for a tile: those of the first place where it stands -/
def datOf (ts : List Tl) (rs : List (List UInt8)) (t : Tl) : List UInt8 := rs.getD (ts.idxOf t) []
def rowOf (ts : List Tl) (rs : List (List UInt8)) (t : Tl) : List Hsh := rowsN t.W.toNat (datOf ts rs t)
def tileE (ts : List Tl) (rs : List (List UInt8)) (t : Tl) : Int := if t ∈ ts then if ((datOf ts rs t).length : Int) = 32 * t.W then 0 else 102 else 103
def firstE (ts : List Tl) (rs : List (List UInt8)) : List Tl → Int
  | [] => 0
  | t :: l => if tileE ts rs t = 0 then firstE ts rs l else tileE ts rs t
theorem firstE_zero {ts : List Tl} {rs : List (List UInt8)} : ∀ {l : List Tl}, firstE ts rs l = 0 ↔ ∀ t ∈ l, tileE ts rs t = 0
  | [] => by simp [firstE]
  | t :: l => by
    rw [firstE]
    by_cases h : tileE ts rs t = 0
    · rw [if_pos h, firstE_zero]; simp [h]
    · rw [if_neg h]; simp [h]
theorem tileE_zero {ts : List Tl} {rs : List (List UInt8)} {t : Tl} : tileE ts rs t = 0 ↔ t ∈ ts ∧ ((datOf ts rs t).length : Int) = 32 * t.W := by
  unfold tileE
  split
  · split <;> simp_all
  · simp_all
/-- a full tile's top, over its data -/
def topH (k : Int) (h : Nat) (d : List Hsh) : Hsh := nodeAt k (fun i => atL d i) h 0
/-- the full tiles agree with those above them -/
def TopsOk (k : Int) (h size : Nat) (D : Tl → List Hsh) (pl : List Tl) : Prop := ∀ l n, tl h l size n ∈ pl → wid h l n size = 2 ^ h → topH k h (D (tl h l size n)) = hashD k h size D (placeOf (h * (l + 1)) n)
open Classical in
noncomputable def readE (k : Int) (h size : Nat) (root : Hsh) (ts : List Tl) (rs : List (List UInt8)) (pl : List Tl) : Int :=
  if firstE ts rs pl ≠ 0 then firstE ts rs pl else if foldH k ((peaksOf size).map (hashD k h size (rowOf ts rs))) ≠ root then 104 else if TopsOk k h size (rowOf ts rs) pl then 0 else 104
/-- a full tile's top is a place of the tree, whose tile is the one above -/
theorem full_top {h size l n : Nat} (h1 : 1 ≤ h) (hs : size ≤ 281474976710656) (hf : wid h l n size = 2 ^ h) : h * (l + 1) ≤ 48 ∧ (n + 1) * 2 ^ (h * (l + 1)) ≤ size ∧ lo h (placeOf (h * (l + 1)) n) = l + 1 ∧ no h (placeOf (h * (l + 1)) n) = n / 2 ^ h := by
  obtain ⟨a1, a2⟩ := Pl.full_fits hs hf
  refine ⟨a2, ?_, Pl.lo_place h1 a1, Pl.no_place h1 a1⟩
  have hp : 1 ≤ 2 ^ h := Nat.pow_pos (by decide)
  have := wid_fits (wd := 2 ^ h) hp (by rw [hf]; exact Nat.le_refl _)
  have e : (n + 1) * 2 ^ (h * (l + 1)) = (n * 2 ^ h + 2 ^ h) * 2 ^ (h * l) := by
    rw [Nat.mul_add, Nat.mul_one, Nat.pow_add, Nat.mul_comm (2 ^ (h * l)), ← Nat.mul_assoc, Nat.add_mul, Nat.one_mul]
  rw [e]; exact this
theorem plan_closed {h size : Nat} {st : List Nat} {pl : List Tl} (P : IsPlan h size st pl) {l n : Nat} (hm : tl h l size n ∈ pl) (hf : wid h l n size = 2 ^ h) : tl h (l + 1) size (n / 2 ^ h) ∈ pl := by
  obtain ⟨a, b, hr, e⟩ := (P.mem _).1 hm
  obtain ⟨rfl, rfl⟩ := Pl.tl_inj e
  exact (P.mem _).2 ⟨_, _, .up hr hf, rfl⟩
theorem plan_start {h size : Nat} {st : List Nat} {pl : List Tl} (P : IsPlan h size st pl) {c : Nat} (hc : c ∈ st) : tl h (lo h c) size (no h c) ∈ pl := (P.mem _).2 ⟨_, _, .start hc, rfl⟩
end Go.Proofs.YtccjncflbbhldaaGreatDoor
