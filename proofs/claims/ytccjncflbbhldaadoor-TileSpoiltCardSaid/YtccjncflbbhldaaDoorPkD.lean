/- PathWords, PlTiles, ShGm0, ShGr1, PlPlace, ShGr0, PlOf, ShP0, PlSeat, PlWide, ShGj0, ShL16, TreeMem, TreeAdd, TreeRoot -/
import Derived.Test.YtccjncflbbhldaaDoorPkC
import Derived.Test.YtccjncflbbhldaaDoorPkB
import Derived.Test.YtccjncflbbhldaaDoorPkA
/-! ## PathWords -/
set_option maxRecDepth 10000
namespace Go.Proofs.YtccjncflbbhldaaDoor
open Go.Sh Go.RowKit

/-! ### a builder under way -/
def Bd (b : Nat) (l : List UInt8) (w : World) : Prop := Lib.IsBuilder 115 5 b b (Lib.byteCells l) w
theorem bdAt_chg {p : Value} {b : Nat} {bs : List Value} {w w' : World} (h : Lib.BuilderAt 115 5 b b p bs w) (k : Chg None w w') : Lib.BuilderAt 115 5 b b p bs w' := by
  obtain ⟨h1, v, h2, ⟨h3, h4⟩, h5⟩ := h
  have old : ∀ g o, w.heap[g]? = some o → w'.heap[g]? = some o := fun g o hg => by
    rw [k.block g (Array.getElem?_eq_some_iff.1 hg).1 id]; exact hg
  refine ⟨h1, v, old _ _ h2, ⟨h3, ?_⟩, h5⟩
  rcases h4 with h4 | ⟨g, cap, cur, e1, e2, e3, r⟩
  · exact .inl h4
  · exact .inr ⟨g, cap, cur, e1, e2, old _ _ e3, r⟩
theorem Bd.chg {b : Nat} {l : List UInt8} {w w' : World} (h : Bd b l w) (k : Chg None w w') : Bd b l w' := h.imp (fun h => bdAt_chg h k) fun h => bdAt_chg h k
theorem bd_new {w : World} : Bd w.heap.size [] (w.alloc (.cells #[.pointer none, .slice none 0 0] 115)) :=
  .inl ⟨Nat.le_refl _, .slice none 0 0, by show (w.heap.push _)[w.heap.size]? = _; simp, ⟨rfl, .inl ⟨rfl, rfl⟩⟩, by simp [Value.ownBlock]⟩
section
variable {Q : Value → World → Prop} {w w0 : World}
theorem write_word {b : Nat} {l : List UInt8} {s : ByteArray} (h : Bd b l w) (hb : b ≤ w.heap.size) (hl : l.length + s.size ≤ 1048576) (h0 : w0.heap.size ≤ b) (k0 : Chg None w0 w)
    (hQ : ∀ v e w', Bd b (l ++ s.data.toList) w' → Chg None w0 w' → (∀ k, k < b → w'.heap[k]? = w.heap[k]?) → b ≤ w'.heap.size → Q (.tuple #[.int .i64 v, e]) w') : C_p_strings_Builder_WriteString #[.pointer (some ⟨b, 0, none⟩), .string s] w Q := by
  have hc := Any.Builder_WriteString (P := PP) (ρ := lays156_ren) { lays156 with } Builder_Extra_156 b b (Lib.byteCells l) s w h (by rw [Lib.byteCells_length]; omega) hb
  refine C_calls Tryd.func59 (by rfl) (by decide) (hc.mono ?_)
  rintro e w' ⟨rfl, hB, hbel⟩
  have e1 : Lib.byteCells l ++ Lib.strCells s = Lib.byteCells (l ++ s.data.toList) := by simp [Lib.byteCells, Lib.strCells]
  rw [e1] at hB
  exact hQ _ _ _ (.inr hB) (Chg.trans k0 ⟨hbel.os, hbel.tape, hbel.output, hbel.size, fun k _ hn => hbel.block k (Nat.lt_of_not_le hn)⟩ (fun _ _ h => h) (fun x hx hd => absurd hd (by show ¬ b ≤ x; omega))) hbel.block (Nat.le_trans hb hbel.size)
theorem string_word {b : Nat} {l : List UInt8} (h : Bd b l w) (hne : l ≠ []) (h0 : w0.heap.size ≤ b) (k0 : Chg None w0 w) (hQ : ∀ w', Chg None w0 w' → Q (.string ⟨l.toArray⟩) w') : C_p_strings_Builder_String #[.pointer (some ⟨b, 0, none⟩)] w Q := by
  refine C_calls Tryd.func62 (by rfl) (by decide) ((Builder_String b b l w h hne).mono ?_)
  rintro e w' ⟨rfl, hbel⟩
  exact hQ _ (Chg.trans k0 ⟨hbel.os, hbel.tape, hbel.output, hbel.size, fun k _ hn => hbel.block k (Nat.lt_of_not_le hn)⟩ (fun _ _ h => h) (fun x hx hd => absurd hd (by show ¬ b ≤ x; omega)))
end

/-! ### shifts -/
theorem shr_nat (x k : Nat) (hk : k ≤ 64) : shrI .i64 (x : Int) (k : Int) = ((x / 2 ^ k : Nat) : Int) := by
  simp only [shrI, IntKind.bits, Int.toNat_natCast]
  rw [Nat.min_eq_left hk, Int.fdiv_eq_ediv_of_nonneg _ (by exact_mod_cast Nat.zero_le _)]
  norm_cast
theorem shl_nat (x k : Nat) (hk : k ≤ 64) (h : x * 2 ^ k < 9223372036854775808) : shlI .i64 (x : Int) (k : Int) = ((x * 2 ^ k : Nat) : Int) := by
  simp only [shlI, IntKind.bits, Int.toNat_natCast]
  rw [Nat.min_eq_left hk, show (x : Int) * 2 ^ k = ((x * 2 ^ k : Nat) : Int) by norm_cast]
  exact wrap_id (by omega) (by omega)
theorem nn_nat {n : Nat} {p : Prop} (h : p) : nn (n : Int) p := h
theorem shl_one {h : Int} (h0 : 0 ≤ h) (h1 : h ≤ 15) : shlI .i64 1 h = 2 ^ h.toNat := by
  obtain ⟨n, rfl⟩ := Int.eq_ofNat_of_zero_le h0
  have : ∀ m : Fin 16, shlI .i64 1 ((m.val : Nat) : Int) = 2 ^ ((m.val : Nat) : Int).toNat := by decide +kernel
  exact this ⟨n, by omega⟩
theorem full_word {Q : Value → World → Prop} {h : Int} {w : World} (h0 : 0 ≤ h) (h1 : h ≤ 15) (hQ : Q (.int .i64 (2 ^ h.toNat)) w) : C_tile_full #[.int .i64 h] w Q := by
  refine C_tile_full_eq _ _ _ ?_
  rw [shl_one h0 h1]
  obtain ⟨n, rfl⟩ := Int.eq_ofNat_of_zero_le h0
  exact nn_nat hQ
abbrev tg (t : Tl) : Value := .agg #[.int .i64 t.H, .int .i64 t.L, .int .i64 t.N, .int .i64 t.W, .bool t.D]
def tv (t : Tl) : List Value := [.int .i64 t.H, .int .i64 t.L, .int .i64 t.N, .int .i64 t.W, .bool t.D]
/-- the numbers fit their kinds -/
def fitsT (t : Tl) : Prop := (-9223372036854775808 ≤ t.H ∧ t.H ≤ 9223372036854775807) ∧ (-9223372036854775808 ≤ t.L ∧ t.L ≤ 9223372036854775807) ∧ (-9223372036854775808 ≤ t.N ∧ t.N ≤ 9223372036854775807) ∧ (-9223372036854775808 ≤ t.W ∧ t.W ≤ 9223372036854775807)
theorem check_word {Q : Value → World → Prop} {t : Tl} {w0 : World} (hf : fitsT t) (hok : okT t → ∀ w', Chg None w0 w' → Q (.int .i64 0) w') (hno : ¬ okT t → ∀ w', Chg None w0 w' → Q (.int .i64 101) w') : C_tile_Check #[tg t] w0 Q := by
  obtain ⟨f1, f2, f3, f4⟩ := hf
  refine C_tile_Check_eq _ _ _ _ _ _ _ ?_
  refine alC_box fun b w1 hb k1 hlo => ?_
  rw [drw_s]
  have k2 : Chg None w0 w1.drew := k1.drew
  have hb2 : Blk w1.drew b 24 (tv t) := hb.chg (Chg.drew0 (D := None) w1) (fun h => h)
  generalize w1.drew = w2 at k2 hb2
  have bad : ¬ okT t → N_tile_Check.j2 Q w2 := fun h => N_tile_Check.j2_eq (h := hno h w2 k2)
  have r0 : ∀ {K : Int → Prop}, K t.H → opnI .i64 (w2.cell? ((⟨b, 0, none⟩ : Addr).add 0)) K := fun h => opnI_c (hb2.rd 0 rfl) h
  have r1 : ∀ {K : Int → Prop}, K t.L → opnI .i64 (w2.cell? ((⟨b, 0, none⟩ : Addr).add 1)) K := fun h => opnI_c (hb2.rd 1 rfl) h
  have r2 : ∀ {K : Int → Prop}, K t.N → opnI .i64 (w2.cell? ((⟨b, 0, none⟩ : Addr).add 2)) K := fun h => opnI_c (hb2.rd 2 rfl) h
  have r3 : ∀ {K : Int → Prop}, K t.W → opnI .i64 (w2.cell? ((⟨b, 0, none⟩ : Addr).add 3)) K := fun h => opnI_c (hb2.rd 3 rfl) h
  have r4 : ∀ {K : Bool → Prop}, K t.D → opnB (w2.cell? ((⟨b, 0, none⟩ : Addr).add 4)) K := fun h => opnB_c (hb2.rd 4 rfl) h
  refine r0 ?_
  by_cases g1 : t.H < 1
  · have := bad (fun h => by unfold okT at h; omega)
    exact c_lt g1 this
  refine c_nlt (by omega) (r0 ?_)
  by_cases g2 : t.H > 8
  · have := bad (fun h => by unfold okT at h; omega)
    exact c_gt g2 this
  refine c_ngt (by omega) (r3 ?_)
  by_cases g3 : t.W < 1
  · have := bad (fun h => by unfold okT at h; omega)
    exact c_lt g3 this
  refine c_nlt (by omega) ?_
  have hp : (2 : Int) ^ t.H.toNat ≤ 256 := by
    have : (2 : Nat) ^ t.H.toNat ≤ 2 ^ 8 := Nat.pow_le_pow_right (by decide) (by omega)
    have e : ((2 ^ t.H.toNat : Nat) : Int) = (2 : Int) ^ t.H.toNat := by norm_cast
    omega
  have hp1 : (1 : Int) ≤ 2 ^ t.H.toNat := by
    have : 0 < (2 : Nat) ^ t.H.toNat := Nat.pow_pos (by decide)
    have e : ((2 ^ t.H.toNat : Nat) : Int) = (2 : Int) ^ t.H.toNat := by norm_cast
    omega
  -- the last tests
  have j3 : t.W ≤ 2 ^ t.H.toNat → 0 ≤ t.L → 0 ≤ t.N → (t.D = true → t.L = 0) → N_tile_Check.j3 Q ⟨b, 0, none⟩ w2 := by
    intro a1 a2 a3 a4
    refine N_tile_Check.j3_eq (h := ?_)
    rw [drw_s]
    have k3 : Chg None w0 w2.drew := k2.drew
    have hb3 := hb2.chg (Chg.drew0 (D := None) w2) (fun h => h)
    generalize w2.drew = w3 at k3 hb3
    refine opnI_c (hb3.rd 1 rfl) (opnI_c (hb3.rd 0 rfl) ⟨by omega, ?_⟩)
    have hdiv : IntKind.wrap .i64 (Int.tdiv 48 t.H) = 48 / t.H := by
      rw [Int.tdiv_eq_ediv_of_nonneg (by decide)]
      have h1 : 48 / t.H ≤ 48 := Int.ediv_le_self _ (by decide)
      have h2 : 0 ≤ 48 / t.H := Int.ediv_nonneg (by decide) (by omega)
      exact wrap_id (by omega) (by omega)
    rw [hdiv]
    have hiff : t.L ≤ 48 / t.H ↔ t.H * t.L ≤ 48 := by
      rw [Int.le_ediv_iff_mul_le (by omega), Int.mul_comm]
    by_cases g4 : t.L > 48 / t.H
    · exact c_gt g4 (N_tile_Check.j4_eq (h := hno (fun h => by unfold okT at h; omega) w3 k3))
    refine c_ngt (by omega) (N_tile_Check.j5_eq (h := ?_))
    have hHL := hiff.1 (by omega)
    have hHL0 : 0 ≤ t.H * t.L := Int.mul_nonneg (by omega) a2
    refine opnI_c (hb3.rd 0 rfl) (opnI_c (hb3.rd 1 rfl) ?_)
    rw [wrap_id (by omega) (by omega)]
    obtain ⟨m, hm⟩ := Int.eq_ofNat_of_zero_le hHL0
    have hroom : shrI .i64 281474976710656 (t.H * t.L) = 281474976710656 / 2 ^ (t.H * t.L).toNat := by
      rw [hm, Int.toNat_natCast]
      have := shr_nat 281474976710656 m (by omega)
      rw [show (281474976710656 : Int) = ((281474976710656 : Nat) : Int) by rfl, this]; norm_cast
    rw [hroom]
    have hnn : ∀ {p : Prop}, p → nn (t.H * t.L) p := fun h => by rw [hm]; exact h
    refine hnn ?_
    have hr1 : (281474976710656 : Int) / 2 ^ (t.H * t.L).toNat ≤ 281474976710656 := Int.ediv_le_self _ (by decide)
    have hr0 : (0 : Int) ≤ 281474976710656 / 2 ^ (t.H * t.L).toNat := Int.ediv_nonneg (by decide) (Int.le_of_lt (Int.pow_pos (by decide)))
    have hokiff : okT t ↔ t.N * 2 ^ t.H.toNat + t.W ≤ 281474976710656 / 2 ^ (t.H * t.L).toNat := by
      unfold okT
      exact ⟨fun h => h.2.2.2.2.2.2.2.2, fun h => ⟨by omega, by omega, by omega, a1, a2, a3, a4, hHL, h⟩⟩
    generalize (281474976710656 : Int) / 2 ^ (t.H * t.L).toNat = R at hr1 hr0 hokiff ⊢
    refine N_tile_Check.j6_eq (h := ?_)
    rw [drw_s]
    have k4 : Chg None w0 w3.drew := k3.drew
    have hb4 := hb3.chg (Chg.drew0 (D := None) w3) (fun h => h)
    generalize w3.drew = w4 at k4 hb4
    obtain ⟨hh, hhe⟩ := Int.eq_ofNat_of_zero_le (by omega : 0 ≤ t.H)
    obtain ⟨Rn, hRn⟩ := Int.eq_ofNat_of_zero_le hr0
    obtain ⟨Nn, hNn⟩ := Int.eq_ofNat_of_zero_le a3
    have hpn : ((2 ^ hh : Nat) : Int) = (2 : Int) ^ t.H.toNat := by rw [hhe, Int.toNat_natCast]; norm_cast
    have hpos : 0 < 2 ^ hh := Nat.pow_pos (by decide)
    have hsr : shrI .i64 R t.H = ((Rn / 2 ^ hh : Nat) : Int) := by rw [hhe, hRn]; exact shr_nat Rn hh (by omega)
    have hnn2 : ∀ {p : Prop}, p → nn t.H p := fun h => by rw [hhe]; exact h
    have bad7 : ¬ okT t → N_tile_Check.j7 Q w4 := fun h => N_tile_Check.j7_eq (h := hno h w4 k4)
    refine opnI_c (hb4.rd 2 rfl) (opnI_c (hb4.rd 0 rfl) (hnn2 ?_))
    rw [hsr]
    have hprod : t.N * 2 ^ t.H.toNat = ((Nn * 2 ^ hh : Nat) : Int) := by rw [hNn, ← hpn]; norm_cast
    by_cases g5 : t.N > ((Rn / 2 ^ hh : Nat) : Int)
    · refine c_gt g5 (bad7 fun h => ?_)
      have h1 := hokiff.1 h
      rw [hprod] at h1
      have h2 : Nn ≤ Rn / 2 ^ hh := (Nat.le_div_iff_mul_le hpos).2 (by omega)
      omega
    refine c_ngt (by omega) (opnI_c (hb4.rd 2 rfl) (opnI_c (hb4.rd 0 rfl) (hnn2 (opnI_c (hb4.rd 3 rfl) ?_))))
    have h2 : Nn * 2 ^ hh ≤ Rn := (Nat.le_div_iff_mul_le hpos).1 (by omega)
    have hsl : shlI .i64 t.N t.H = ((Nn * 2 ^ hh : Nat) : Int) := by rw [hhe, hNn]; exact shl_nat Nn hh (by omega) (by omega)
    rw [hsl, wrap_id (by omega) (by omega)]
    by_cases g6 : ((Nn * 2 ^ hh : Nat) : Int) + t.W > R
    · exact c_gt g6 (bad7 fun h => by have h1 := hokiff.1 h; rw [hprod] at h1; omega)
    · exact c_ngt (by omega) (N_tile_Check.j8_eq (h := hok (hokiff.2 (by rw [hprod]; omega)) w4 k4))
  refine r3 (r0 (full_word (by omega) (by omega) (opnI_s ⟨r3 rfl, ?_⟩)))
  all_goals
    by_cases a1 : t.W > 2 ^ t.H.toNat
    · exact c_gt a1 (bad fun h => by unfold okT at h; omega)
    refine c_ngt (by omega) (r1 ?_)
    by_cases a2 : t.L < 0
    · exact c_lt a2 (bad fun h => by unfold okT at h; omega)
    refine c_nlt (by omega) (r2 ?_)
    by_cases a3 : t.N < 0
    · exact c_lt a3 (bad fun h => by unfold okT at h; omega)
    refine c_nlt (by omega) (r4 ?_)
    cases hd : t.D with
    | false => exact j3 (by omega) (by omega) (by omega) (fun h => by rw [hd] at h; cases h)
    | true =>
      refine c_t rfl (r1 ?_)
      by_cases a4 : t.L = 0
      · exact c_nne a4 (j3 (by omega) (by omega) (by omega) fun _ => a4)
      · exact c_ne a4 (bad fun h => a4 (h.2.2.2.2.2.2.1 hd))
end Go.Proofs.YtccjncflbbhldaaDoor
/-! ## PlTiles -/
set_option maxRecDepth 10000
namespace Go.Proofs.YtccjncflbbhldaaDoor.Pl
open Go.Sh

theorem tv_len (t : Tl) : (tv t).length = 5 := rfl
abbrev tvs (l : List Tl) : List Value := l.flatMap tv

theorem T42 : SlT PP 64 24 5 40 := ⟨by kernel_rfl, by kernel_rfl⟩

/-! ### shifts -/
theorem pow_pos2 (k : Nat) : 0 < 2 ^ k := Nat.pow_pos (by decide)
theorem shr_nat (x k : Nat) (hk : k ≤ 64) : shrI .i64 (x : Int) (k : Int) = ((x / 2 ^ k : Nat) : Int) := by
  simp only [shrI, IntKind.bits, Int.toNat_natCast]
  rw [Nat.min_eq_left hk, Int.fdiv_eq_ediv_of_nonneg _ (by exact_mod_cast Nat.zero_le _)]
  norm_cast
theorem shl_nat (x k : Nat) (hk : k ≤ 64) (h : x * 2 ^ k < 9223372036854775808) : shlI .i64 (x : Int) (k : Int) = ((x * 2 ^ k : Nat) : Int) := by
  simp only [shlI, IntKind.bits, Int.toNat_natCast]
  rw [Nat.min_eq_left hk, show (x : Int) * 2 ^ k = ((x * 2 ^ k : Nat) : Int) by norm_cast]
  exact wrap_id (by omega) (by omega)
theorem nn_nat {n : Nat} {p : Prop} (h : p) : nn (n : Int) p := h
theorem pow_le (h : Nat) (hh : h ≤ 8) : 2 ^ h ≤ 256 := by
  have : 2 ^ h ≤ 2 ^ 8 := Nat.pow_le_pow_right (by decide) hh
  simpa using this
theorem full_word {Q : Value → World → Prop} {h : Nat} {w : World} (hh : h ≤ 8) (hQ : Q (.int .i64 ((2 ^ h : Nat) : Int)) w) : C_tile_full #[.int .i64 (h : Int)] w Q := by
  refine C_tile_full_eq _ _ _ (nn_nat ?_)
  have := pow_le h hh
  have e := shl_nat 1 h (by omega) (by omega)
  rw [Nat.one_mul] at e
  have : shlI .i64 1 (h : Int) = ((2 ^ h : Nat) : Int) := e
  rwa [this]

/-- so many nodes of level l -/
def cnt (h l size : Nat) : Nat := size / 2 ^ (h * l)
def wid (h l n size : Nat) : Nat := if 48 / h < l then 0 else if cnt h l size / 2 ^ h < n then 0 else min (cnt h l size - n * 2 ^ h) (2 ^ h)
def spn (h l old size : Nat) : Nat × Nat := if cnt h l old = cnt h l size then (0, 0) else (cnt h l old / 2 ^ h, (cnt h l size + 2 ^ h - 1) / 2 ^ h)
theorem cnt_le (h l size : Nat) : cnt h l size ≤ size := Nat.div_le_self _ _
theorem mul_small {h l : Nat} (h1 : 1 ≤ h) (hl : l ≤ 48 / h) : h * l ≤ 48 := by
  have := Nat.mul_le_mul_left h hl
  have := Nat.mul_div_le 48 h
  omega
theorem tdiv48 (h : Nat) : IntKind.wrap .i64 (Int.tdiv 48 (h : Int)) = ((48 / h : Nat) : Int) := by
  have e : Int.tdiv 48 (h : Int) = ((48 / h : Nat) : Int) := by rw [Int.tdiv_eq_ediv_of_nonneg (by decide)]; rfl
  have : 48 / h ≤ 48 := Nat.div_le_self _ _
  rw [e]; generalize 48 / h = x at *; exact wrap_id (by omega) (by omega)
theorem wrap_mul {h l : Nat} (hl : h * l ≤ 9223372036854775807) : IntKind.wrap .i64 ((h : Int) * (l : Int)) = ((h * l : Nat) : Int) := by
  rw [show (h : Int) * (l : Int) = ((h * l : Nat) : Int) by norm_cast]
  exact wrap_id (by omega) (by omega)

theorem width_word {Q : Value → World → Prop} {h l n size : Nat} {w : World} (h1 : 1 ≤ h) (h8 : h ≤ 8) (hs : size ≤ 281474976710656) (hQ : ∀ w', Chg None w w' → Q (.int .i64 ((wid h l n size : Nat) : Int)) w') :
    C_tile_widthOf #[.int .i64 (h : Int), .int .i64 (l : Int), .int .i64 (n : Int), .int .i64 (size : Int)] w Q := by
  refine C_tile_widthOf_eq _ _ _ _ _ _ ⟨by omega, ?_⟩
  rw [tdiv48]
  unfold wid at hQ
  by_cases hl : 48 / h < l
  · rw [if_pos hl] at hQ
    exact c_gt (by omega) (hQ w (Chg.refl _ _))
  rw [if_neg hl] at hQ
  have hm := mul_small h1 (by omega : l ≤ 48 / h)
  have hp := pow_le h h8
  have hc := cnt_le h l size
  rw [wrap_mul (by omega)]
  refine c_ngt (by omega) (nn_nat (nn_nat ?_))
  rw [shr_nat size _ (by omega), ← cnt, shr_nat _ h (by omega)]
  by_cases hn : cnt h l size / 2 ^ h < n
  · rw [if_pos hn] at hQ
    exact c_gt (by omega) (hQ w (Chg.refl _ _))
  rw [if_neg hn] at hQ
  have hmul : n * 2 ^ h ≤ cnt h l size := by
    have h2 := Nat.mul_le_mul_right (2 ^ h) (by omega : n ≤ cnt h l size / 2 ^ h)
    have h3 := Nat.div_mul_le_self (cnt h l size) (2 ^ h)
    omega
  refine c_ngt (by omega) ?_
  unfold drw
  refine nn_nat (full_word h8 (opnI_s ?_))
  rw [shl_nat n h (by omega) (by omega), wrap_id (by omega) (by omega)]
  have e : (if ((2 ^ h : Nat) : Int) < ((cnt h l size : Nat) : Int) - ((n * 2 ^ h : Nat) : Int) then ((2 ^ h : Nat) : Int) else ((cnt h l size : Nat) : Int) - ((n * 2 ^ h : Nat) : Int)) = ((min (cnt h l size - n * 2 ^ h) (2 ^ h) : Nat) : Int) := by
    split <;> omega
  rw [e]
  exact hQ _ (Chg.drew0 w)

open Go.Sh

theorem E24p : EqT PP 24 [(3, 0), (3, 1), (2, 2), (3, 3), (4, 4)] := ⟨by kernel_rfl, by kernel_rfl, by kernel_rfl, by kernel_rfl⟩
theorem UU2 : PP.underlying 2 = some (.int .i64) := by kernel_rfl
theorem UU3 : PP.underlying 3 = some (.int .i64) := by kernel_rfl
theorem UU4 : PP.underlying 4 = some .bool := by kernel_rfl

theorem within_word {Q : Value → World → Prop} {n m : Int} {w : World} (hm : 0 < m) (hm2 : m ≤ 4611686018427387904) (hQ : ∀ r : Nat, (r : Int) < m → Q (.int .i64 (r : Int)) w) : C_l10_within #[.int .i64 n, .int .i64 m] w Q := by
  refine C_l10_within_eq _ _ _ _ ⟨by omega, by omega, ?_⟩
  have h1 := Int.tmod_lt_of_pos n hm
  have h2 : -m < Int.tmod n m := Int.lt_tmod_of_pos n hm
  rw [wrap_id (by omega) (by omega)]
  have h3 := Int.tmod_nonneg m (a := Int.tmod n m + m) (by omega)
  have h4 := Int.tmod_lt_of_pos (Int.tmod n m + m) hm
  obtain ⟨r, hr⟩ := Int.eq_ofNat_of_zero_le h3
  rw [hr] at h4 ⊢
  exact hQ r h4

def eqTl (t u : Tl) : Bool := (t.H == u.H) && ((t.L == u.L) && ((t.N == u.N) && ((t.W == u.W) && ((t.D == u.D) && true))))
theorem eqTl_iff (t u : Tl) : eqTl t u = true ↔ t = u := by
  obtain ⟨a, b, c, d, e⟩ := t
  obtain ⟨a', b', c', d', e'⟩ := u
  simp [eqTl]
theorem eqTl_f (t u : Tl) : EqF PP #[.int .i64 t.H, .int .i64 t.L, .int .i64 t.N, .int .i64 t.W, .bool t.D] #[.int .i64 u.H, .int .i64 u.L, .int .i64 u.N, .int .i64 u.W, .bool u.D] [(3, 0), (3, 1), (2, 2), (3, 3), (4, 4)] (eqTl t u) :=
  .int UU3 rfl rfl (.int UU3 rfl rfl (.int UU2 rfl rfl (.int UU3 rfl rfl (.bool UU4 rfl rfl .nil))))

section
variable {w : World} {S : Nat → Prop} {p : Addr} {l : List Tl}
theorem cell_H (h : Lies w S (some p) (tvs l)) {i : Int} {x : Tl} (hx : l[i.toNat]? = some x) : w.cell? ((p.add (Int.toNat i * 5)).add 0) = some (.int .i64 x.H) := rd_fld tv_len h hx rfl
theorem cell_L (h : Lies w S (some p) (tvs l)) {i : Int} {x : Tl} (hx : l[i.toNat]? = some x) : w.cell? ((p.add (Int.toNat i * 5)).add 1) = some (.int .i64 x.L) := rd_fld tv_len h hx rfl
theorem cell_N (h : Lies w S (some p) (tvs l)) {i : Int} {x : Tl} (hx : l[i.toNat]? = some x) : w.cell? ((p.add (Int.toNat i * 5)).add 2) = some (.int .i64 x.N) := rd_fld tv_len h hx rfl
theorem cell_W (h : Lies w S (some p) (tvs l)) {i : Int} {x : Tl} (hx : l[i.toNat]? = some x) : w.cell? ((p.add (Int.toNat i * 5)).add 3) = some (.int .i64 x.W) := rd_fld tv_len h hx rfl
theorem cell_D (h : Lies w S (some p) (tvs l)) {i : Int} {x : Tl} (hx : l[i.toNat]? = some x) : w.cell? ((p.add (Int.toNat i * 5)).add 4) = some (.bool x.D) := rd_fld tv_len h hx rfl
theorem tvs_some {a : Option Addr} (h : Lies w S a (tvs l)) {i : Nat} (hi : i < l.length) : ∃ p, a = some p := lies_flat_some tv_len (by decide) h hi
end

theorem wrap_u64 {h : Nat} (hh : h ≤ 8) : IntKind.wrap .u64 (h : Int) = (h : Int) := by rw [IntKind.wrap_u64]; omega
theorem one_shl {h : Nat} (hh : h ≤ 8) : shlI .i64 1 (h : Int) = ((2 ^ h : Nat) : Int) := by
  have := pow_le h hh
  have e := shl_nat 1 h (by omega) (by omega)
  rw [Nat.one_mul] at e
  exact e

end Go.Proofs.YtccjncflbbhldaaDoor.Pl
/-! ## ShGm0 -/
set_option maxRecDepth 100000
namespace Go.Proofs.YtccjncflbbhldaaDoor
open Go.Sh
/-! ### math/bits.OnesCount64 -/
noncomputable def B_math_bits_OnesCount64 : Code := match Tryd.f104.body with | some c => c | _ => .skip
noncomputable def X_math_bits_OnesCount64 : Cx := { P := PP, fn := 104, N := 35, tab := tab, results := [.tmp 2], iter := fun _ => (.none, .none), dyn := fun _ => false, live := fun _ => none }
theorem K_math_bits_OnesCount64 : OkF X_math_bits_OnesCount64 B_math_bits_OnesCount64 Tryd.f104 := ⟨⟨tab_ok, mix_ok⟩, Tryd.func104, by kernel_rfl, by kernel_rfl, by kernel_rfl, by kernel_rfl⟩
theorem C_math_bits_OnesCount64_eq (Q : Value → World → Prop) (a0 : Int) (w : World) (h :
  Q (.int .i64 (bits .and .i64 (IntKind.wrap .i64 (IntKind.wrap .u64 ((IntKind.wrap .u64 ((IntKind.wrap .u64 ((bits .and .u64 (IntKind.wrap .u64 ((shrI .u64 (IntKind.wrap .u64 ((bits .and .u64 (shrI .u64 (IntKind.wrap .u64 ((bits .and .u64 (shrI .u64 a0 1) 6148914691236517205) + (bits .and .u64 a0 6148914691236517205))) 2) 3689348814741910323) + (bits .and .u64 (IntKind.wrap .u64 ((bits .and .u64 (shrI .u64 a0 1) 6148914691236517205) + (bits .and .u64 a0 6148914691236517205))) 3689348814741910323))) 4) + (IntKind.wrap .u64 ((bits .and .u64 (shrI .u64 (IntKind.wrap .u64 ((bits .and .u64 (shrI .u64 a0 1) 6148914691236517205) + (bits .and .u64 a0 6148914691236517205))) 2) 3689348814741910323) + (bits .and .u64 (IntKind.wrap .u64 ((bits .and .u64 (shrI .u64 a0 1) 6148914691236517205) + (bits .and .u64 a0 6148914691236517205))) 3689348814741910323))))) 1085102592571150095) + (shrI .u64 (bits .and .u64 (IntKind.wrap .u64 ((shrI .u64 (IntKind.wrap .u64 ((bits .and .u64 (shrI .u64 (IntKind.wrap .u64 ((bits .and .u64 (shrI .u64 a0 1) 6148914691236517205) + (bits .and .u64 a0 6148914691236517205))) 2) 3689348814741910323) + (bits .and .u64 (IntKind.wrap .u64 ((bits .and .u64 (shrI .u64 a0 1) 6148914691236517205) + (bits .and .u64 a0 6148914691236517205))) 3689348814741910323))) 4) + (IntKind.wrap .u64 ((bits .and .u64 (shrI .u64 (IntKind.wrap .u64 ((bits .and .u64 (shrI .u64 a0 1) 6148914691236517205) + (bits .and .u64 a0 6148914691236517205))) 2) 3689348814741910323) + (bits .and .u64 (IntKind.wrap .u64 ((bits .and .u64 (shrI .u64 a0 1) 6148914691236517205) + (bits .and .u64 a0 6148914691236517205))) 3689348814741910323))))) 1085102592571150095) 8))) + (shrI .u64 (IntKind.wrap .u64 ((bits .and .u64 (IntKind.wrap .u64 ((shrI .u64 (IntKind.wrap .u64 ((bits .and .u64 (shrI .u64 (IntKind.wrap .u64 ((bits .and .u64 (shrI .u64 a0 1) 6148914691236517205) + (bits .and .u64 a0 6148914691236517205))) 2) 3689348814741910323) + (bits .and .u64 (IntKind.wrap .u64 ((bits .and .u64 (shrI .u64 a0 1) 6148914691236517205) + (bits .and .u64 a0 6148914691236517205))) 3689348814741910323))) 4) + (IntKind.wrap .u64 ((bits .and .u64 (shrI .u64 (IntKind.wrap .u64 ((bits .and .u64 (shrI .u64 a0 1) 6148914691236517205) + (bits .and .u64 a0 6148914691236517205))) 2) 3689348814741910323) + (bits .and .u64 (IntKind.wrap .u64 ((bits .and .u64 (shrI .u64 a0 1) 6148914691236517205) + (bits .and .u64 a0 6148914691236517205))) 3689348814741910323))))) 1085102592571150095) + (shrI .u64 (bits .and .u64 (IntKind.wrap .u64 ((shrI .u64 (IntKind.wrap .u64 ((bits .and .u64 (shrI .u64 (IntKind.wrap .u64 ((bits .and .u64 (shrI .u64 a0 1) 6148914691236517205) + (bits .and .u64 a0 6148914691236517205))) 2) 3689348814741910323) + (bits .and .u64 (IntKind.wrap .u64 ((bits .and .u64 (shrI .u64 a0 1) 6148914691236517205) + (bits .and .u64 a0 6148914691236517205))) 3689348814741910323))) 4) + (IntKind.wrap .u64 ((bits .and .u64 (shrI .u64 (IntKind.wrap .u64 ((bits .and .u64 (shrI .u64 a0 1) 6148914691236517205) + (bits .and .u64 a0 6148914691236517205))) 2) 3689348814741910323) + (bits .and .u64 (IntKind.wrap .u64 ((bits .and .u64 (shrI .u64 a0 1) 6148914691236517205) + (bits .and .u64 a0 6148914691236517205))) 3689348814741910323))))) 1085102592571150095) 8))) 16))) + (shrI .u64 (IntKind.wrap .u64 ((IntKind.wrap .u64 ((bits .and .u64 (IntKind.wrap .u64 ((shrI .u64 (IntKind.wrap .u64 ((bits .and .u64 (shrI .u64 (IntKind.wrap .u64 ((bits .and .u64 (shrI .u64 a0 1) 6148914691236517205) + (bits .and .u64 a0 6148914691236517205))) 2) 3689348814741910323) + (bits .and .u64 (IntKind.wrap .u64 ((bits .and .u64 (shrI .u64 a0 1) 6148914691236517205) + (bits .and .u64 a0 6148914691236517205))) 3689348814741910323))) 4) + (IntKind.wrap .u64 ((bits .and .u64 (shrI .u64 (IntKind.wrap .u64 ((bits .and .u64 (shrI .u64 a0 1) 6148914691236517205) + (bits .and .u64 a0 6148914691236517205))) 2) 3689348814741910323) + (bits .and .u64 (IntKind.wrap .u64 ((bits .and .u64 (shrI .u64 a0 1) 6148914691236517205) + (bits .and .u64 a0 6148914691236517205))) 3689348814741910323))))) 1085102592571150095) + (shrI .u64 (bits .and .u64 (IntKind.wrap .u64 ((shrI .u64 (IntKind.wrap .u64 ((bits .and .u64 (shrI .u64 (IntKind.wrap .u64 ((bits .and .u64 (shrI .u64 a0 1) 6148914691236517205) + (bits .and .u64 a0 6148914691236517205))) 2) 3689348814741910323) + (bits .and .u64 (IntKind.wrap .u64 ((bits .and .u64 (shrI .u64 a0 1) 6148914691236517205) + (bits .and .u64 a0 6148914691236517205))) 3689348814741910323))) 4) + (IntKind.wrap .u64 ((bits .and .u64 (shrI .u64 (IntKind.wrap .u64 ((bits .and .u64 (shrI .u64 a0 1) 6148914691236517205) + (bits .and .u64 a0 6148914691236517205))) 2) 3689348814741910323) + (bits .and .u64 (IntKind.wrap .u64 ((bits .and .u64 (shrI .u64 a0 1) 6148914691236517205) + (bits .and .u64 a0 6148914691236517205))) 3689348814741910323))))) 1085102592571150095) 8))) + (shrI .u64 (IntKind.wrap .u64 ((bits .and .u64 (IntKind.wrap .u64 ((shrI .u64 (IntKind.wrap .u64 ((bits .and .u64 (shrI .u64 (IntKind.wrap .u64 ((bits .and .u64 (shrI .u64 a0 1) 6148914691236517205) + (bits .and .u64 a0 6148914691236517205))) 2) 3689348814741910323) + (bits .and .u64 (IntKind.wrap .u64 ((bits .and .u64 (shrI .u64 a0 1) 6148914691236517205) + (bits .and .u64 a0 6148914691236517205))) 3689348814741910323))) 4) + (IntKind.wrap .u64 ((bits .and .u64 (shrI .u64 (IntKind.wrap .u64 ((bits .and .u64 (shrI .u64 a0 1) 6148914691236517205) + (bits .and .u64 a0 6148914691236517205))) 2) 3689348814741910323) + (bits .and .u64 (IntKind.wrap .u64 ((bits .and .u64 (shrI .u64 a0 1) 6148914691236517205) + (bits .and .u64 a0 6148914691236517205))) 3689348814741910323))))) 1085102592571150095) + (shrI .u64 (bits .and .u64 (IntKind.wrap .u64 ((shrI .u64 (IntKind.wrap .u64 ((bits .and .u64 (shrI .u64 (IntKind.wrap .u64 ((bits .and .u64 (shrI .u64 a0 1) 6148914691236517205) + (bits .and .u64 a0 6148914691236517205))) 2) 3689348814741910323) + (bits .and .u64 (IntKind.wrap .u64 ((bits .and .u64 (shrI .u64 a0 1) 6148914691236517205) + (bits .and .u64 a0 6148914691236517205))) 3689348814741910323))) 4) + (IntKind.wrap .u64 ((bits .and .u64 (shrI .u64 (IntKind.wrap .u64 ((bits .and .u64 (shrI .u64 a0 1) 6148914691236517205) + (bits .and .u64 a0 6148914691236517205))) 2) 3689348814741910323) + (bits .and .u64 (IntKind.wrap .u64 ((bits .and .u64 (shrI .u64 a0 1) 6148914691236517205) + (bits .and .u64 a0 6148914691236517205))) 3689348814741910323))))) 1085102592571150095) 8))) 16))) 32)))) 127)) w) :
C_math_bits_OnesCount64 #[.int .u64 a0] w Q := C_fold K_math_bits_OnesCount64 (by kernel_rfl) h
end Go.Proofs.YtccjncflbbhldaaDoor
/-! ## ShGr1 -/
set_option maxRecDepth 100000
namespace Go.Proofs.YtccjncflbbhldaaDoor
open Go.Sh
/-! ### ledger/tile.topOf -/
noncomputable def B_tile_topOf : Code := match Tryd.f56.body with | some c => c | _ => .skip
noncomputable def X_tile_topOf : Cx := { P := PP, fn := 56, N := 18, tab := tab, results := [.tmp 2], iter := fun _ => (.none, .none), dyn := fun _ => false, live := fun _ => none }
theorem K_tile_topOf : OkF X_tile_topOf B_tile_topOf Tryd.f56 := ⟨⟨tab_ok, mix_ok⟩, Tryd.func56, by kernel_rfl, by kernel_rfl, by kernel_rfl, by kernel_rfl⟩
theorem C_tile_topOf_eq (Q : Value → World → Prop) (a0_0 : Int) (a0_1 : Int) (a0_2 : Int) (a0_3 : Int) (a0_4 : Bool) (w : World) (h :
  alC #[.int .i64 a0_0, .int .i64 a0_1, .int .i64 a0_2, .int .i64 a0_3, .bool a0_4] 24 w fun p1 w2 =>
  opnI .i64 (w2.cell? (p1.add 0)) fun x3 =>
  opnI .i64 (w2.cell? (p1.add 1)) fun x4 =>
  opnI .i64 (w2.cell? (p1.add 2)) fun x5 =>
  C_tlog_Index #[.int .i64 (IntKind.wrap .i64 (x3 * (IntKind.wrap .i64 (x4 + 1)))), .int .i64 x5] w2 fun v6 w7 =>
  opnT (some v6) fun x8 =>
  x8.size = 2 ∧
  opnI .i64 (x8[0]?) fun x9 =>
  opnI .i64 (x8[1]?) fun x10 =>
  Q (.int .i64 x9) w7) :
C_tile_topOf #[.agg #[.int .i64 a0_0, .int .i64 a0_1, .int .i64 a0_2, .int .i64 a0_3, .bool a0_4]] w Q := C_fold K_tile_topOf (by kernel_rfl) h
/-! ### ledger/ledgerlaw10.heavy -/
noncomputable def B_l10_heavy : Code := match Tryd.f57.body with | some c => c | _ => .skip
noncomputable def X_l10_heavy : Cx := { P := PP, fn := 57, N := 31, tab := tab, results := [.tmp 4, .tmp 5], iter := fun _ => (.none, .none), dyn := fun _ => false, live := fun r => cond (Nat.beq r 3) (some [0, 1, 6, 7]) (none) }
theorem K_l10_heavy : OkF X_l10_heavy B_l10_heavy Tryd.f57 := ⟨⟨tab_ok, mix_ok⟩, Tryd.func57, by kernel_rfl, by kernel_rfl, by kernel_rfl, by kernel_rfl⟩
noncomputable def N_l10_heavy.j3 (Q : Value → World → Prop) (s0 : Int) (s1 : Int) (s6 : Int) (s7 : Int) (w : World) : Prop := Nd X_l10_heavy Q [(0, 0, .int .i64 s0), (1, 1, .int .i64 s1), (6, 6, .int .i64 s6), (7, 7, .int .i64 s7)] [.code (B_l10_heavy.r.r.r.l.l.l.l.l.l.l.l), .code (B_l10_heavy.r.r.r.l.l.l.l.l.l.l.r), .code (B_l10_heavy.r.r.r.l.l.l.l.l.l.r), .inLoop (B_l10_heavy.r.r.r.l.l.l.l.l.l), .inBlock 2, .code (B_l10_heavy.r.r.r.l.l.l.r), .inBlock 1, .inLoop (B_l10_heavy.r.r.r.l.l), .inBlock 0] w
theorem N_l10_heavy.j3_eq (Q : Value → World → Prop) (s0 : Int) (s1 : Int) (s6 : Int) (s7 : Int) (w : World) (h :
  nn (IntKind.wrap .u64 s7) (
  cond (decide ((IntKind.wrap .i64 (s6 + (shlI .i64 1 (IntKind.wrap .u64 s7)))) > s0))
  (N_l10_heavy.j3 Q s0 s1 s6 (IntKind.wrap .i64 (s7 - 1)) w)
  (nn (IntKind.wrap .u64 s7) (
  cond (decide (s1 < (IntKind.wrap .i64 (s6 + (shlI .i64 1 (IntKind.wrap .u64 s7))))))
  (Q (.tuple #[.int .i64 s6, .int .i64 s7]) w)
  (nn (IntKind.wrap .u64 s7) (
  N_l10_heavy.j3 Q s0 s1 (IntKind.wrap .i64 (s6 + (shlI .i64 1 (IntKind.wrap .u64 s7)))) s7 w)))))) :
N_l10_heavy.j3 Q s0 s1 s6 s7 w := Nd_fold K_l10_heavy (by kernel_rfl) h
theorem C_l10_heavy_eq (Q : Value → World → Prop) (a0 : Int) (a1 : Int) (w : World) (h :
  N_l10_heavy.j3 Q a0 a1 0 8 w) :
C_l10_heavy #[.int .i64 a0, .int .i64 a1] w Q := C_fold K_l10_heavy (by kernel_rfl) h
/-! ### ledger/ledgerlaw10.up -/
noncomputable def B_l10_up : Code := match Tryd.f58.body with | some c => c | _ => .skip
noncomputable def X_l10_up : Cx := { P := PP, fn := 58, N := 52, tab := tab, results := [.cell 8 29], iter := fun _ => (.none, .none), dyn := fun _ => false, live := fun r => cond (Nat.beq r 4) (some [1, 2, 8, 9, 10]) (none) }
theorem K_l10_up : OkF X_l10_up B_l10_up Tryd.f58 := ⟨⟨tab_ok, mix_ok⟩, Tryd.func58, by kernel_rfl, by kernel_rfl, by kernel_rfl, by kernel_rfl⟩
noncomputable def N_l10_up.j4 (Q : Value → World → Prop) (s1 : Option Addr) (s1n : Nat) (s1c : Nat) (s2 : Int) (s8 : Addr) (s9 : Addr) (s10 : Int) (w : World) : Prop := Nd X_l10_up Q [(1, 1, .slice s1 s1n s1c), (2, 2, .int .i64 s2), (8, 8, .pointer (some s8)), (9, 9, .pointer (some s9)), (10, 10, .int .i64 s10)] [.code (B_l10_up.r.l.r.l.r.l.r.l.l.l.l), .code (B_l10_up.r.l.r.l.r.l.r.l.l.l.r), .code (B_l10_up.r.l.r.l.r.l.r.l.l.r), .inLoop (B_l10_up.r.l.r.l.r.l.r.l.l), .inBlock 0, .code (B_l10_up.r.l.r.l.r.r), .code (B_l10_up.r.r)] w
theorem N_l10_up.j4_eq (Q : Value → World → Prop) (s1 : Option Addr) (s1n : Nat) (s1c : Nat) (s2 : Int) (s8 : Addr) (s9 : Addr) (s10 : Int) (w : World) (h :
  cond (decide (s10 < 32))
  ((0 : Int) ≤ IntKind.wrap .i64 ((IntKind.wrap .i64 (32 * s2)) + s10) ∧
  (IntKind.wrap .i64 ((IntKind.wrap .i64 (32 * s2)) + s10)) < ((s1n : Nat) : Int) ∧
  opnA s1 fun ad1 =>
  opnI .u8 (w.cell? (ad1.add (Int.toNat (IntKind.wrap .i64 ((IntKind.wrap .i64 (32 * s2)) + s10)) * 1))) fun x2 =>
  (0 : Int) ≤ s10 ∧
  s10 < ((32 : Nat) : Int) ∧
  stC (s9.add (Int.toNat s10 * 1)) (.int .u8 x2) w fun w3 =>
  N_l10_up.j4 Q s1 s1n s1c s2 s8 s9 (IntKind.wrap .i64 (s10 + 1)) w3)
  (opnRow w s9 (32 * 1) fun x4 =>
  stRow s8 x4 (32 * 1) w fun w5 =>
  opnRow w5 s8 (32 * 1) fun x6 =>
  Q (.agg x6) w5)) :
N_l10_up.j4 Q s1 s1n s1c s2 s8 s9 s10 w := Nd_fold K_l10_up (by kernel_rfl) h
theorem C_l10_up_eq (Q : Value → World → Prop) (a0 : Int) (a1 : Option Addr) (a1n : Nat) (a1c : Nat) (a2 : Int) (a3 : Int) (w : World) (h :
  alZ PP 29 w fun p1 w2 =>
  cond (a3 == 0)
  (alZ PP 29 w2 fun p3 w4 =>
  N_l10_up.j4 Q a1 a1n a1c a2 p1 p3 0 w4)
  (nn (IntKind.wrap .u64 (IntKind.wrap .i64 (a3 - 1))) (
  C_l10_up #[.int .i64 a0, .slice a1 a1n a1c, .int .i64 a2, .int .i64 (IntKind.wrap .i64 (a3 - 1))] w2 fun v5 w6 =>
  opnG (some v5) fun x7 =>
  alZ PP 29 w6 fun p8 w9 =>
  stRow p8 x7 (32 * 1) w9 fun w10 =>
  C_l10_up #[.int .i64 a0, .slice a1 a1n a1c, .int .i64 (IntKind.wrap .i64 (a2 + (shlI .i64 1 (IntKind.wrap .u64 (IntKind.wrap .i64 (a3 - 1)))))), .int .i64 (IntKind.wrap .i64 (a3 - 1))] w10 fun v11 w12 =>
  opnG (some v11) fun x13 =>
  alZ PP 29 w12 fun p14 w15 =>
  stRow p14 x13 (32 * 1) w15 fun w16 =>
  opnRow w16 p8 (32 * 1) fun x17 =>
  opnRow w16 p14 (32 * 1) fun x18 =>
  C_tlog_NodeHash #[.int .i64 a0, .agg x17, .agg x18] w16 fun v19 w20 =>
  opnG (some v19) fun x21 =>
  stRow p1 x21 (32 * 1) w20 fun w22 =>
  opnRow w22 p1 (32 * 1) fun x23 =>
  Q (.agg x23) w22))) :
C_l10_up #[.int .i64 a0, .slice a1 a1n a1c, .int .i64 a2, .int .i64 a3] w Q := C_fold K_l10_up (by kernel_rfl) h
/-! ### ledger/tlog.Count -/
noncomputable def B_tlog_Count : Code := match Tryd.f86.body with | some c => c | _ => .skip
noncomputable def X_tlog_Count : Cx := { P := PP, fn := 86, N := 12, tab := tab, results := [.tmp 2, .tmp 3], iter := fun _ => (.none, .none), dyn := fun _ => false, live := fun r => cond (Nat.beq r 2) (some []) (none) }
theorem K_tlog_Count : OkF X_tlog_Count B_tlog_Count Tryd.f86 := ⟨⟨tab_ok, mix_ok⟩, Tryd.func86, by kernel_rfl, by kernel_rfl, by kernel_rfl, by kernel_rfl⟩
noncomputable def N_tlog_Count.j2 (Q : Value → World → Prop) (w : World) : Prop := Nd X_tlog_Count Q [] [.code (B_tlog_Count.r.l.r.l.l), .code (B_tlog_Count.r.l.r.l.r), .code (B_tlog_Count.r.r)] w
theorem N_tlog_Count.j2_eq (Q : Value → World → Prop) (w : World) (h :
  Q (.tuple #[.int .i64 0, .int .i64 1]) w) :
N_tlog_Count.j2 Q w := Nd_fold K_tlog_Count (by kernel_rfl) h
theorem C_tlog_Count_eq (Q : Value → World → Prop) (a0 : Int) (w : World) (h :
  cond (decide (a0 < 0))
  (N_tlog_Count.j2 Q w)
  (cond (decide (a0 > 281474976710656))
  (N_tlog_Count.j2 Q w)
  (C_tlog_count #[.int .i64 a0] w fun v1 w2 =>
  opnI .i64 (some v1) fun x3 =>
  Q (.tuple #[.int .i64 x3, .int .i64 0]) w2))) :
C_tlog_Count #[.int .i64 a0] w Q := C_fold K_tlog_Count (by kernel_rfl) h
/-! ### ledger/tile.need -/
noncomputable def B_tile_need : Code := match Tryd.f87.body with | some c => c | _ => .skip
noncomputable def X_tile_need : Cx := { P := PP, fn := 87, N := 44, tab := tab, results := [], iter := fun _ => (.none, .none), dyn := fun _ => false, live := fun r => cond (Nat.beq r 0) (some [0, 1, 2, 3]) (cond (Nat.beq r 3) (some [0, 1, 2, 10, 23, 24]) (none)) }
theorem K_tile_need : OkF X_tile_need B_tile_need Tryd.f87 := ⟨⟨tab_ok, mix_ok⟩, Tryd.func87, by kernel_rfl, by kernel_rfl, by kernel_rfl, by kernel_rfl⟩
noncomputable def N_tile_need.j0 (Q : Value → World → Prop) (s0 : Option Nat) (s1 : Int) (s2 : Int) (s3 : Int) (w : World) : Prop := Nd X_tile_need Q [(0, 0, .map s0), (1, 1, .int .i64 s1), (2, 2, .int .i64 s2), (3, 3, .int .i64 s3)] [.code (B_tile_need.l.r.l.l.l.l), .code (B_tile_need.l.r.l.l.l.r), .inBlock 1, .inLoop (B_tile_need.l.r.l.l), .inBlock 0, .inScope (B_tile_need.l)] w
noncomputable def N_tile_need.j3 (Q : Value → World → Prop) (s0 : Option Nat) (s1 : Int) (s2 : Int) (s10 : Addr) (s23 : Int) (s24 : Int) (w : World) : Prop := Nd X_tile_need Q [(0, 0, .map s0), (1, 1, .int .i64 s1), (2, 2, .int .i64 s2), (10, 10, .pointer (some s10)), (23, 23, .int .i64 s23), (24, 24, .int .i64 s24)] [.code (B_tile_need.l.r.l.l.l.r.r.l.r.l.l.l), .code (B_tile_need.l.r.l.l.l.r.r.l.r.l.l.r), .inLoop (B_tile_need.l.r.l.l.l.r.r.l.r.l.l), .inBlock 2, .code (B_tile_need.l.r.l.l.l.r.r.r), .inBlock 1, .inLoop (B_tile_need.l.r.l.l), .inBlock 0, .inScope (B_tile_need.l)] w
theorem N_tile_need.j0_eq (Q : Value → World → Prop) (s0 : Option Nat) (s1 : Int) (s2 : Int) (s3 : Int) (w : World) (h :
  C_tile_seatOf #[.int .i64 s1, .int .i64 s3] w fun v1 w2 =>
  opnT (some v1) fun x3 =>
  x3.size = 2 ∧
  opnG (x3[0]?) fun x4 =>
  x4.size = 7 ∧
  opnI .i64 (x4[0]?) fun x5 =>
  opnI .i64 (x4[1]?) fun x6 =>
  opnI .i64 (x4[2]?) fun x7 =>
  opnI .i64 (x4[3]?) fun x8 =>
  opnB (x4[4]?) fun x9 =>
  opnI .i64 (x4[5]?) fun x10 =>
  opnI .i64 (x4[6]?) fun x11 =>
  opnB (x3[1]?) fun x12 =>
  alC #[.int .i64 0, .int .i64 0, .int .i64 0, .int .i64 0, .bool false, .int .i64 0, .int .i64 0] 90 w2 fun p13 w14 =>
  Array.size (#[.int .i64 x5, .int .i64 x6, .int .i64 x7, .int .i64 x8, .bool x9, .int .i64 x10, .int .i64 x11] : Array Value) = 7 ∧
  stC (p13.add 0) (.int .i64 x5) w14 fun w15 =>
  stC (p13.add 1) (.int .i64 x6) w15 fun w16 =>
  stC (p13.add 2) (.int .i64 x7) w16 fun w17 =>
  stC (p13.add 3) (.int .i64 x8) w17 fun w18 =>
  stC (p13.add 4) (.bool x9) w18 fun w19 =>
  stC (p13.add 5) (.int .i64 x10) w19 fun w20 =>
  stC (p13.add 6) (.int .i64 x11) w20 fun w21 =>
  opnI .i64 (w21.cell? ((p13.add 0).add 0)) fun x22 =>
  opnI .i64 (w21.cell? ((p13.add 0).add 1)) fun x23 =>
  opnI .i64 (w21.cell? ((p13.add 0).add 2)) fun x24 =>
  opnI .i64 (w21.cell? ((p13.add 0).add 3)) fun x25 =>
  opnB (w21.cell? ((p13.add 0).add 4)) fun x26 =>
  C_tile_wide #[.agg #[.int .i64 x22, .int .i64 x23, .int .i64 x24, .int .i64 x25, .bool x26], .int .i64 s2] w21 fun v27 w28 =>
  opnG (some v27) fun x29 =>
  x29.size = 5 ∧
  opnI .i64 (x29[0]?) fun x30 =>
  opnI .i64 (x29[1]?) fun x31 =>
  opnI .i64 (x29[2]?) fun x32 =>
  opnI .i64 (x29[3]?) fun x33 =>
  opnB (x29[4]?) fun x34 =>
  alC #[.int .i64 0, .int .i64 0, .int .i64 0, .int .i64 0, .bool false] 24 w28 fun p35 w36 =>
  Array.size (#[.int .i64 x30, .int .i64 x31, .int .i64 x32, .int .i64 x33, .bool x34] : Array Value) = 5 ∧
  stC (p35.add 0) (.int .i64 x30) w36 fun w37 =>
  stC (p35.add 1) (.int .i64 x31) w37 fun w38 =>
  stC (p35.add 2) (.int .i64 x32) w38 fun w39 =>
  stC (p35.add 3) (.int .i64 x33) w39 fun w40 =>
  stC (p35.add 4) (.bool x34) w40 fun w41 =>
  opnI .i64 (w41.cell? (p35.add 0)) fun x42 =>
  opnI .i64 (w41.cell? (p35.add 1)) fun x43 =>
  opnI .i64 (w41.cell? (p35.add 2)) fun x44 =>
  opnI .i64 (w41.cell? (p35.add 3)) fun x45 =>
  opnB (w41.cell? (p35.add 4)) fun x46 =>
  semR PP (Instr.lookup 103 (.map s0) (.agg #[.int .i64 x42, .int .i64 x43, .int .i64 x44, .int .i64 x45, .bool x46]) false) w41 fun x47 =>
  opnI .i64 (some x47) fun x48 =>
  N_tile_need.j3 Q s0 s1 s2 p35 x48 0 w41) :
N_tile_need.j0 Q s0 s1 s2 s3 w := Nd_fold K_tile_need (by kernel_rfl) h
theorem N_tile_need.j3_eq (Q : Value → World → Prop) (s0 : Option Nat) (s1 : Int) (s2 : Int) (s10 : Addr) (s23 : Int) (s24 : Int) (w : World) (h :
  cond (decide (s24 < s23))
  (Q (.tuple #[]) w)
  (opnI .i64 (w.cell? (s10.add 0)) fun x1 =>
  opnI .i64 (w.cell? (s10.add 1)) fun x2 =>
  opnI .i64 (w.cell? (s10.add 2)) fun x3 =>
  opnI .i64 (w.cell? (s10.add 3)) fun x4 =>
  opnB (w.cell? (s10.add 4)) fun x5 =>
  semU PP (Instr.mapUpdate 103 (.map s0) (.agg #[.int .i64 x1, .int .i64 x2, .int .i64 x3, .int .i64 x4, .bool x5]) (.int .i64 1)) w fun w6 =>
  drw w6 fun w7 =>
  opnI .i64 (w7.cell? (s10.add 3)) fun x8 =>
  C_tile_full #[.int .i64 s1] w7 fun v9 w10 =>
  opnI .i64 (some v9) fun x11 =>
  (opnI .i64 (w10.cell? (s10.add 3)) fun x12 =>
  ((.int .i64 x12) : Value) = .int .i64 x8) ∧
  cond (decide (x8 < x11))
  (Q (.tuple #[]) w10)
  (opnI .i64 (w10.cell? (s10.add 1)) fun x13 =>
  cond (decide ((IntKind.wrap .i64 (s1 * (IntKind.wrap .i64 (x13 + 1)))) > 48))
  (Q (.tuple #[]) w10)
  (opnI .i64 (w10.cell? (s10.add 0)) fun x14 =>
  opnI .i64 (w10.cell? (s10.add 1)) fun x15 =>
  opnI .i64 (w10.cell? (s10.add 2)) fun x16 =>
  opnI .i64 (w10.cell? (s10.add 3)) fun x17 =>
  opnB (w10.cell? (s10.add 4)) fun x18 =>
  C_tile_topOf #[.agg #[.int .i64 x14, .int .i64 x15, .int .i64 x16, .int .i64 x17, .bool x18]] w10 fun v19 w20 =>
  opnI .i64 (some v19) fun x21 =>
  N_tile_need.j0 Q s0 s1 s2 x21 w20)))) :
N_tile_need.j3 Q s0 s1 s2 s10 s23 s24 w := Nd_fold K_tile_need (by kernel_rfl) h
theorem C_tile_need_eq (Q : Value → World → Prop) (a0 : Option Nat) (a1 : Int) (a2 : Int) (a3 : Int) (w : World) (h :
  N_tile_need.j0 Q a0 a1 a2 a3 w) :
C_tile_need #[.map a0, .int .i64 a1, .int .i64 a2, .int .i64 a3] w Q := C_fold K_tile_need (by kernel_rfl) h
/-! ### ledger/tile.wide -/
noncomputable def B_tile_wide : Code := match Tryd.f93.body with | some c => c | _ => .skip
noncomputable def X_tile_wide : Cx := { P := PP, fn := 93, N := 15, tab := tab, results := [.cell 4 24], iter := fun _ => (.none, .none), dyn := fun _ => false, live := fun _ => none }
theorem K_tile_wide : OkF X_tile_wide B_tile_wide Tryd.f93 := ⟨⟨tab_ok, mix_ok⟩, Tryd.func93, by kernel_rfl, by kernel_rfl, by kernel_rfl, by kernel_rfl⟩
theorem C_tile_wide_eq (Q : Value → World → Prop) (a0_0 : Int) (a0_1 : Int) (a0_2 : Int) (a0_3 : Int) (a0_4 : Bool) (a1 : Int) (w : World) (h :
  alC #[.int .i64 a0_0, .int .i64 a0_1, .int .i64 a0_2, .int .i64 a0_3, .bool a0_4] 24 w fun p1 w2 =>
  alC #[.int .i64 0, .int .i64 0, .int .i64 0, .int .i64 0, .bool false] 24 w2 fun p3 w4 =>
  opnI .i64 (w4.cell? (p1.add 0)) fun x5 =>
  opnI .i64 (w4.cell? (p1.add 1)) fun x6 =>
  opnI .i64 (w4.cell? (p1.add 2)) fun x7 =>
  C_tile_widthOf #[.int .i64 x5, .int .i64 x6, .int .i64 x7, .int .i64 a1] w4 fun v8 w9 =>
  opnI .i64 (some v8) fun x10 =>
  stC (p1.add 3) (.int .i64 x10) w9 fun w11 =>
  opnI .i64 (w11.cell? (p1.add 0)) fun x12 =>
  opnI .i64 (w11.cell? (p1.add 1)) fun x13 =>
  opnI .i64 (w11.cell? (p1.add 2)) fun x14 =>
  opnI .i64 (w11.cell? (p1.add 3)) fun x15 =>
  opnB (w11.cell? (p1.add 4)) fun x16 =>
  Array.size (#[.int .i64 x12, .int .i64 x13, .int .i64 x14, .int .i64 x15, .bool x16] : Array Value) = 5 ∧
  stC (p3.add 0) (.int .i64 x12) w11 fun w17 =>
  stC (p3.add 1) (.int .i64 x13) w17 fun w18 =>
  stC (p3.add 2) (.int .i64 x14) w18 fun w19 =>
  stC (p3.add 3) (.int .i64 x15) w19 fun w20 =>
  stC (p3.add 4) (.bool x16) w20 fun w21 =>
  opnI .i64 (w21.cell? (p3.add 0)) fun x22 =>
  opnI .i64 (w21.cell? (p3.add 1)) fun x23 =>
  opnI .i64 (w21.cell? (p3.add 2)) fun x24 =>
  opnI .i64 (w21.cell? (p3.add 3)) fun x25 =>
  opnB (w21.cell? (p3.add 4)) fun x26 =>
  Q (.agg #[.int .i64 x22, .int .i64 x23, .int .i64 x24, .int .i64 x25, .bool x26]) w21) :
C_tile_wide #[.agg #[.int .i64 a0_0, .int .i64 a0_1, .int .i64 a0_2, .int .i64 a0_3, .bool a0_4], .int .i64 a1] w Q := C_fold K_tile_wide (by kernel_rfl) h
end Go.Proofs.YtccjncflbbhldaaDoor
/-! ## PlPlace -/
set_option maxRecDepth 10000
namespace Go.Proofs.YtccjncflbbhldaaDoor.Pl
open Go.Sh

theorem u64_and (a b : Nat) (ha : a < 18446744073709551616) (hb : b < 18446744073709551616) : bits .and .u64 (a : Int) (b : Int) = ((a &&& b : Nat) : Int) := by
  have hx : a &&& b < 2 ^ 64 := Nat.and_lt_two_pow _ (by omega)
  have e : ∀ n : Nat, n < 18446744073709551616 → (BitVec.ofInt 64 (n : Int)).toNat = n := fun n hn => by
    rw [BitVec.ofInt_natCast, BitVec.toNat_ofNat]; exact Nat.mod_eq_of_lt (by omega)
  show IntKind.u64.wrap ((BitVec.ofInt 64 (a : Int) &&& BitVec.ofInt 64 (b : Int)).toNat : Int) = _
  rw [BitVec.toNat_and, e a ha, e b hb, IntKind.wrap_u64]
  omega
theorem i64_and (a b : Nat) (ha : a < 9223372036854775808) (hb : b < 9223372036854775808) : bits .and .i64 (a : Int) (b : Int) = ((a &&& b : Nat) : Int) := by
  have hx : a &&& b < 2 ^ 63 := Nat.and_lt_two_pow _ (by omega)
  have e : ∀ n : Nat, n < 9223372036854775808 → (BitVec.ofInt 64 (n : Int)).toNat = n := fun n hn => by
    rw [BitVec.ofInt_natCast, BitVec.toNat_ofNat]; exact Nat.mod_eq_of_lt (by omega)
  show IntKind.i64.wrap ((BitVec.ofInt 64 (a : Int) &&& BitVec.ofInt 64 (b : Int)).toNat : Int) = _
  rw [BitVec.toNat_and, e a ha, e b hb, IntKind.wrap_i64]
  omega
theorem shr_u64 (x k : Nat) (hk : k ≤ 64) : shrI .u64 (x : Int) (k : Int) = ((x / 2 ^ k : Nat) : Int) := by
  simp only [shrI, IntKind.bits, Int.toNat_natCast]
  rw [Nat.min_eq_left hk, Int.fdiv_eq_ediv_of_nonneg _ (by exact_mod_cast Nat.zero_le _)]
  norm_cast
theorem wrap_u (n : Nat) (h : n < 18446744073709551616) : IntKind.wrap .u64 (n : Int) = (n : Int) := by rw [IntKind.wrap_u64]; omega
theorem tdiv_nat (a b : Nat) : Int.tdiv (a : Int) (b : Int) = ((a / b : Nat) : Int) := by rw [Int.tdiv_eq_ediv_of_nonneg (by omega)]; rfl
theorem tmod_nat (a b : Nat) : Int.tmod (a : Int) (b : Int) = ((a % b : Nat) : Int) := by rw [Int.tmod_eq_emod_of_nonneg (by omega)]; rfl
theorem wrap_n (n : Nat) (h : n < 9223372036854775808) : IntKind.wrap .i64 (n : Int) = (n : Int) := wrap_id (by omega) (by omega)

theorem ones_word {Q : Value → World → Prop} {x : Nat} {w : World} (hx : x < 18446744073709551616) (hQ : Q (.int .i64 ((pc x : Nat) : Int)) w) : C_math_bits_OnesCount64 #[.int .u64 (x : Int)] w Q := by
  refine C_math_bits_OnesCount64_eq _ _ _ ?_
  obtain ⟨b1, b2, b3, b4⟩ := swar hx
  have e1 : IntKind.wrap .u64 ((bits .and .u64 (shrI .u64 (x : Int) 1) 6148914691236517205) + (bits .and .u64 (x : Int) 6148914691236517205)) = ((swar1 x : Nat) : Int) := by
    have h1 := shr_u64 x 1 (by decide)
    have h2 := u64_and (x / 2 ^ 1) 6148914691236517205 (by omega) (by decide)
    have h3 := u64_and x 6148914691236517205 hx (by decide)
    rw [show (1 : Int) = ((1 : Nat) : Int) from rfl, h1, show (6148914691236517205 : Int) = ((6148914691236517205 : Nat) : Int) from rfl, h2, h3, ← Int.natCast_add]
    exact wrap_u _ b1
  rw [e1]
  generalize swar1 x = y at *
  have e2 : IntKind.wrap .u64 ((bits .and .u64 (shrI .u64 (y : Int) 2) 3689348814741910323) + (bits .and .u64 (y : Int) 3689348814741910323)) = ((swar2 y : Nat) : Int) := by
    have h1 := shr_u64 y 2 (by decide)
    have h2 := u64_and (y / 2 ^ 2) 3689348814741910323 (by omega) (by decide)
    have h3 := u64_and y 3689348814741910323 b1 (by decide)
    rw [show (2 : Int) = ((2 : Nat) : Int) from rfl, h1, show (3689348814741910323 : Int) = ((3689348814741910323 : Nat) : Int) from rfl, h2, h3, ← Int.natCast_add]
    exact wrap_u _ (by show swar2 y < _; omega)
  rw [e2]
  generalize swar2 y = z at *
  have e3 : bits .and .u64 (IntKind.wrap .u64 ((shrI .u64 (z : Int) 4) + (z : Int))) 1085102592571150095 = ((swar3 z : Nat) : Int) := by
    have h1 := shr_u64 z 4 (by decide)
    have h2 := u64_and (z / 2 ^ 4 + z) 1085102592571150095 (by omega) (by decide)
    rw [show (4 : Int) = ((4 : Nat) : Int) from rfl, h1, ← Int.natCast_add, wrap_u _ (by omega), show (1085102592571150095 : Int) = ((1085102592571150095 : Nat) : Int) from rfl, h2]
    rfl
  rw [e3]
  generalize swar3 z = v at *
  have e4 : IntKind.wrap .u64 ((v : Int) + (shrI .u64 (v : Int) 8)) = ((v + v / 256 : Nat) : Int) := by
    have h1 := shr_u64 v 8 (by decide)
    rw [show (8 : Int) = ((8 : Nat) : Int) from rfl, h1, ← Int.natCast_add]
    exact wrap_u _ (by omega)
  rw [e4]
  have hA : v + v / 256 < 700000000000000000 := by omega
  generalize hAe : v + v / 256 = A at *
  have e5 : IntKind.wrap .u64 ((A : Int) + (shrI .u64 (A : Int) 16)) = ((A + A / 65536 : Nat) : Int) := by
    have h1 := shr_u64 A 16 (by decide)
    rw [show (16 : Int) = ((16 : Nat) : Int) from rfl, h1, ← Int.natCast_add]
    exact wrap_u _ (by omega)
  rw [e5]
  have hB : A + A / 65536 < 800000000000000000 := by omega
  generalize hBe : A + A / 65536 = B at *
  have e6 : IntKind.wrap .u64 ((B : Int) + (shrI .u64 (B : Int) 32)) = ((B + B / 4294967296 : Nat) : Int) := by
    have h1 := shr_u64 B 32 (by decide)
    rw [show (32 : Int) = ((32 : Nat) : Int) from rfl, h1, ← Int.natCast_add]
    exact wrap_u _ (by omega)
  rw [e6, wrap_n _ (by omega)]
  have h7 := i64_and (B + B / 4294967296) 127 (by omega) (by decide)
  rw [show (127 : Int) = ((127 : Nat) : Int) from rfl, h7]
  have e8 : (B + B / 4294967296) &&& 127 = pc x := by rw [← b4]; simp only [swar4, hAe, hBe]
  rw [e8]
  exact hQ

theorem count_word {Q : Value → World → Prop} {n : Nat} {w : World} (hn : n ≤ 562949953421312) (hQ : Q (.int .i64 ((laid n : Nat) : Int)) w) : C_tlog_count #[.int .i64 (n : Int)] w Q := by
  refine C_tlog_count_eq _ _ _ ?_
  have h1 := laid_pc (n := n) (by omega)
  rw [wrap_u n (by omega)]
  refine ones_word (by omega) (opnI_s ?_)
  rw [wrap_id (n := 2 * (n : Int)) (by omega) (by omega), wrap_id (by omega) (by omega), show 2 * (n : Int) - ((pc n : Nat) : Int) = ((laid n : Nat) : Int) by omega]
  exact hQ
theorem filled_word {Q : Value → World → Prop} {c : Nat} {w : World} (hc : c ≤ 562949953421311) (hQ : Q (.int .i64 ((recOf c : Nat) : Int)) w) : C_tlog_filled #[.int .i64 (c : Int)] w Q := by
  refine C_tlog_filled_eq _ _ _ ⟨by decide, ?_⟩
  have go : ∀ (k n : Nat), n + k = 281474976710656 → laid n ≤ c → N_tlog_filled.j2 Q (c : Int) (n : Int) w := by
    intro k
    induction k with
    | zero =>
      intro n hn hl
      have hge : (281474976710656 : Int) ≤ (n : Int) := by omega
      apply N_tlog_filled.j2_eq
      rw [decide_eq_false (by omega), cond_false]
      refine N_tlog_filled.j4_eq (h := ?_)
      rw [recOf_eq (c := c) (n := n) (IsRec.mk (by omega) hl fun _ => by omega)] at hQ
      exact hQ
    | succ k ih =>
      intro n hn hl
      have hge : (n : Int) < 281474976710656 := by omega
      apply N_tlog_filled.j2_eq
      rw [decide_eq_true hge, cond_true]
      rw [wrap_nat (by omega)]
      refine count_word (by omega) (opnI_s ?_)
      by_cases hle : laid (n + 1) ≤ c
      · exact c_le (by omega) (ih (n + 1) (by omega) hle)
      · refine c_nle (by omega) (N_tlog_filled.j4_eq (h := ?_))
        rw [recOf_eq (c := c) (n := n) (IsRec.mk (by omega) hl fun _ => by omega)] at hQ
        exact hQ
  have h2 := tdiv_nat c 2
  rw [show (2 : Int) = ((2 : Nat) : Int) from rfl, h2, wrap_n _ (by omega)]
  have := laid_le (c / 2)
  exact go (281474976710656 - c / 2) (c / 2) (by omega) (by omega)
theorem place_word {Q : Value → World → Prop} {level n : Nat} {w : World} (h48 : level ≤ 48) (h : (n + 1) * 2 ^ level ≤ 281474976710656) (hQ : Q (.int .i64 ((placeOf level n : Nat) : Int)) w) : C_tlog_place #[.int .i64 (level : Int), .int .i64 (n : Int)] w Q := by
  refine C_tlog_place_eq _ _ _ _ (nn_nat ?_)
  have hp : 0 < (n + 1) * 2 ^ level := Nat.mul_pos (by omega) (pow_pos2 _)
  have hn : n + 1 ≤ (n + 1) * 2 ^ level := Nat.le_mul_of_pos_right _ (pow_pos2 _)
  have hl := place_lt h
  rw [wrap_nat (by omega), shl_nat _ _ (by omega) (by omega), wrap_id (by omega) (by omega), show (((n + 1) * 2 ^ level : Nat) : Int) - 1 = (((n + 1) * 2 ^ level - 1 : Nat) : Int) by omega]
  refine count_word (by omega) (opnI_s ?_)
  rw [← Int.natCast_add, wrap_n _ (by unfold placeOf at hl; omega)]
  exact hQ
/-- Index -/
def idxOk (level n : Int) : Prop := 0 ≤ level ∧ level ≤ 48 ∧ 0 ≤ n ∧ (n.toNat + 1) * 2 ^ level.toNat ≤ 281474976710656
theorem idx_shift {level n : Nat} (h48 : level ≤ 48) : 281474976710656 / 2 ^ level ≤ n ↔ ¬ (n + 1) * 2 ^ level ≤ 281474976710656 := by
  have hp := pow_pos2 level
  rw [← Nat.le_div_iff_mul_le hp]; omega
theorem index_word {Q : Value → World → Prop} {level n : Int} {w : World} (hok : idxOk level n → Q (.tuple #[.int .i64 ((placeOf level.toNat n.toNat : Nat) : Int), .int .i64 0]) w) (hno : ¬ idxOk level n → Q (.tuple #[.int .i64 0, .int .i64 1]) w) : C_tlog_Index #[.int .i64 level, .int .i64 n] w Q := by
  refine C_tlog_Index_eq _ _ _ _ ?_
  by_cases h1 : level < 0
  · exact c_lt h1 (N_tlog_Index.j2_eq (h := hno (by unfold idxOk; omega)))
  refine c_nlt (by omega) ?_
  by_cases h2 : level > 48
  · exact c_gt h2 (N_tlog_Index.j2_eq (h := hno (by unfold idxOk; omega)))
  refine c_ngt (by omega) ?_
  by_cases h3 : n < 0
  · exact c_lt h3 (N_tlog_Index.j2_eq (h := hno (by unfold idxOk; omega)))
  refine c_nlt (by omega) ?_
  obtain ⟨l, rfl⟩ := Int.eq_ofNat_of_zero_le (by omega : 0 ≤ level)
  obtain ⟨n, rfl⟩ := Int.eq_ofNat_of_zero_le (by omega : 0 ≤ n)
  refine nn_nat ?_
  have hs := shr_nat 281474976710656 l (by omega)
  rw [show (281474976710656 : Int) = ((281474976710656 : Nat) : Int) from rfl, hs]
  by_cases h4 : (n + 1) * 2 ^ l ≤ 281474976710656
  · have h5 := mt (idx_shift (n := n) (show l ≤ 48 by omega)).1 (by simpa using h4)
    refine c_nge (by omega) (place_word (by omega) h4 (opnI_s ?_))
    have := hok ⟨by omega, by omega, by omega, by simpa using h4⟩
    simp only [Int.toNat_natCast] at this
    exact this
  · have h5 := (idx_shift (n := n) (show l ≤ 48 by omega)).2 h4
    exact c_ge (by omega) (N_tlog_Index.j2_eq (h := hno (fun g => h4 (by simpa only [Int.toNat_natCast] using g.2.2.2))))
/-- SplitIndex -/
theorem split_word {Q : Value → World → Prop} {c : Int} {w : World} (hok : ∀ c' : Nat, c = c' → c' < 562949953421311 → ∀ w', Chg None w w' → Q (.tuple #[.int .i64 ((levOf c' : Nat) : Int), .int .i64 ((nodOf c' : Nat) : Int), .int .i64 0]) w') (hno : ¬ (0 ≤ c ∧ c < 562949953421311) → Q (.tuple #[.int .i64 0, .int .i64 0, .int .i64 1]) w) : C_tlog_SplitIndex #[.int .i64 c] w Q := by
  refine C_tlog_SplitIndex_eq _ _ _ ?_
  by_cases h1 : c < 0
  · exact c_lt h1 (N_tlog_SplitIndex.j2_eq (h := hno (by omega)))
  refine c_nlt (by omega) ?_
  have h281 : (281474976710656 : Int) = ((281474976710656 : Nat) : Int) := rfl
  rw [h281]
  refine count_word (by omega) (opnI_s ?_)
  rw [laid_max]
  obtain ⟨c, rfl⟩ := Int.eq_ofNat_of_zero_le (by omega : 0 ≤ c)
  by_cases h2 : 562949953421311 ≤ c
  · exact c_ge (by omega) (N_tlog_SplitIndex.j2_eq (h := hno (by omega)))
  refine c_nge (by omega) (filled_word (by omega) (opnI_s ?_))
  have hr := rec_lt (c := c) (by omega)
  refine count_word (by omega) (opnI_s ?_)
  rw [drw_s]
  have h3 := (recOf_is c).2.1
  have hl := lev_le (c := c) (by omega)
  obtain ⟨h4, h5⟩ := split_pos (c := c) (by omega)
  have e1 : IntKind.wrap .i64 ((c : Int) - ((laid (recOf c) : Nat) : Int)) = ((levOf c : Nat) : Int) := by
    rw [wrap_id (by omega) (by omega)]; unfold levOf; omega
  rw [e1, wrap_nat (by omega)]
  refine nn_nat ?_
  rw [shr_nat _ _ (by omega)]
  have hle : (recOf c + 1) / 2 ^ levOf c ≤ recOf c + 1 := Nat.div_le_self _ _
  rw [wrap_id (by omega) (by omega), show (((recOf c + 1) / 2 ^ levOf c : Nat) : Int) - 1 = ((nodOf c : Nat) : Int) by unfold nodOf; omega]
  exact hok c rfl (by omega) _ (Chg.drew0 w)
theorem tcount_word {Q : Value → World → Prop} {n : Int} {w : World} (hok : 0 ≤ n → n ≤ 281474976710656 → Q (.tuple #[.int .i64 ((laid n.toNat : Nat) : Int), .int .i64 0]) w) (hno : ¬ (0 ≤ n ∧ n ≤ 281474976710656) → Q (.tuple #[.int .i64 0, .int .i64 1]) w) : C_tlog_Count #[.int .i64 n] w Q := by
  refine C_tlog_Count_eq _ _ _ ?_
  by_cases h1 : n < 0
  · exact c_lt h1 (N_tlog_Count.j2_eq (h := hno (by omega)))
  refine c_nlt (by omega) ?_
  by_cases h2 : n > 281474976710656
  · exact c_gt h2 (N_tlog_Count.j2_eq (h := hno (by omega)))
  refine c_ngt (by omega) ?_
  obtain ⟨n, rfl⟩ := Int.eq_ofNat_of_zero_le (by omega : 0 ≤ n)
  exact count_word (by omega) (opnI_s (hok (by omega) (by omega)))

/-! ### the document's -/
theorem rlaid_word {Q : Value → World → Prop} {n : Nat} {w : World} (hn : n ≤ 562949953421312) (hQ : Q (.int .i64 ((laid n : Nat) : Int)) w) : C_r08_laid #[.int .i64 (n : Int)] w Q := by
  refine C_r08_laid_eq _ _ _ ?_
  have go : ∀ (n s : Nat), s + laid n ≤ 1125899906842624 → s + laid n = s + laid n → (Q (.int .i64 ((s + laid n : Nat) : Int)) w) → N_r08_laid.j2 Q (n : Int) (s : Int) w := by
    intro n
    induction n using Nat.strongRecOn with
    | _ n ih =>
      intro s hs _ hq
      by_cases h0 : n = 0
      · subst h0
        rw [laid_zero] at hq
        exact N_r08_laid.j2_eq (h := c_ngt (by omega) hq)
      · have e := laid_eq n
        refine N_r08_laid.j2_eq (h := c_gt (by omega) ⟨by decide, ?_⟩)
        have h2 := tdiv_nat n 2
        have hg := laid_ge n
        rw [show (2 : Int) = ((2 : Nat) : Int) from rfl, h2, wrap_n _ (by omega), ← Int.natCast_add, wrap_n _ (by omega)]
        refine ih (n / 2) (by omega) (s + n) (by omega) rfl ?_
        rw [show s + n + laid (n / 2) = s + laid n by omega]
        exact hq
  have := laid_le n
  exact go n 0 (by omega) rfl (by rw [Nat.zero_add]; exact hQ)
theorem rpower_word {Q : Value → World → Prop} {n : Nat} {w : World} (hn : n ≤ 62) (hQ : Q (.int .i64 ((2 ^ n : Nat) : Int)) w) : C_r08_power #[.int .i64 (n : Int)] w Q := by
  refine C_r08_power_eq _ _ _ ?_
  have go : ∀ (k i : Nat), i + k = n → N_r08_power.j3 Q (n : Int) ((2 ^ i : Nat) : Int) (i : Int) w := by
    intro k
    induction k with
    | zero => intro i hi; refine N_r08_power.j3_eq (h := c_nlt (by omega) ?_); rw [show i = n by omega]; exact hQ
    | succ k ih =>
      intro i hi
      refine N_r08_power.j3_eq (h := c_lt (by omega) ?_)
      have hle : 2 ^ i ≤ 2 ^ 61 := Nat.pow_le_pow_right (by decide) (by omega)
      have := ih (i + 1) (by omega)
      rw [Nat.pow_succ] at this
      generalize 2 ^ i = P at *
      rw [wrap_nat (by omega), wrap_id (by omega) (by omega), show 2 * (P : Int) = ((P * 2 : Nat) : Int) by omega]
      exact this
  exact go n 0 (by omega)
theorem rrecord_word {Q : Value → World → Prop} {c : Nat} {w : World} (hQ : Q (.int .i64 ((recOf c : Nat) : Int)) w) : C_r08_record #[.int .i64 (c : Int)] w Q := by
  refine C_r08_record_eq _ _ _ ?_
  have go : ∀ (k lo hi : Nat), hi - lo ≤ k → lo ≤ hi → hi ≤ 281474976710656 → laid lo ≤ c → (hi < 281474976710656 → c < laid (hi + 1)) → N_r08_record.j3 Q (c : Int) (lo : Int) (hi : Int) w := by
    intro k
    induction k with
    | zero =>
      intro lo hi hk h1 h2 h3 h4
      obtain rfl : lo = hi := by omega
      refine N_r08_record.j3_eq (h := c_nlt (by omega) ?_)
      rw [recOf_eq (c := c) (n := lo) (IsRec.mk h2 h3 h4)] at hQ
      exact hQ
    | succ k ih =>
      intro lo hi hk h1 h2 h3 h4
      by_cases he : lo = hi
      · subst he
        refine N_r08_record.j3_eq (h := c_nlt (by omega) ?_)
        rw [recOf_eq (c := c) (n := lo) (IsRec.mk h2 h3 h4)] at hQ
        exact hQ
      refine N_r08_record.j3_eq (h := c_lt (by omega) ⟨by decide, ?_⟩)
      have hd := tdiv_nat (lo + hi + 1) 2
      rw [← Int.natCast_add, wrap_n _ (by omega), wrap_nat (by omega), show (2 : Int) = ((2 : Nat) : Int) from rfl, hd, wrap_n _ (by omega)]
      generalize hm : (lo + hi + 1) / 2 = m
      refine rlaid_word (by omega) (opnI_s ?_)
      by_cases hle : laid m ≤ c
      · exact c_le (by omega) (ih m hi (by omega) (by omega) h2 hle h4)
      · refine c_nle (by omega) ?_
        rw [wrap_id (by omega) (by omega), show (m : Int) - 1 = ((m - 1 : Nat) : Int) by omega]
        exact ih lo (m - 1) (by omega) (by omega) (by omega) h3 fun _ => by rw [show m - 1 + 1 = m by omega]; omega
  exact go 281474976710656 0 281474976710656 (by omega) (by omega) (by omega) (by rw [laid_zero]; exact Nat.zero_le _) (by omega)
theorem rindex_word {Q : Value → World → Prop} {level n : Int} {w : World} (hok : idxOk level n → Q (.tuple #[.int .i64 ((placeOf level.toNat n.toNat : Nat) : Int), .int .i64 0]) w) (hno : ¬ idxOk level n → Q (.tuple #[.int .i64 0, .int .i64 1]) w) : C_r08_Index #[.int .i64 level, .int .i64 n] w Q := by
  refine C_r08_Index_eq _ _ _ _ ?_
  by_cases h1 : level < 0
  · exact c_lt h1 (N_r08_Index.j2_eq (h := hno (by unfold idxOk; omega)))
  refine c_nlt (by omega) ?_
  by_cases h2 : level > 48
  · exact c_gt h2 (N_r08_Index.j2_eq (h := hno (by unfold idxOk; omega)))
  refine c_ngt (by omega) ?_
  by_cases h3 : n < 0
  · exact c_lt h3 (N_r08_Index.j2_eq (h := hno (by unfold idxOk; omega)))
  refine c_nlt (by omega) ?_
  obtain ⟨l, rfl⟩ := Int.eq_ofNat_of_zero_le (by omega : 0 ≤ level)
  obtain ⟨n, rfl⟩ := Int.eq_ofNat_of_zero_le (by omega : 0 ≤ n)
  have hp := pow_pos2 l
  have hn1 : n + 1 ≤ (n + 1) * 2 ^ l := Nat.le_mul_of_pos_right _ hp
  by_cases h5 : 281474976710656 ≤ n
  · exact c_ge (by omega) (N_r08_Index.j2_eq (h := hno (fun g => by have := g.2.2.2; simp only [Int.toNat_natCast] at this; omega)))
  refine c_nge (by omega) (rpower_word (by omega) (opnI_s ⟨by omega, ?_⟩))
  have hd := tdiv_nat 281474976710656 (2 ^ l)
  have hle : 281474976710656 / 2 ^ l ≤ 281474976710656 := Nat.div_le_self _ _
  rw [show (281474976710656 : Int) = ((281474976710656 : Nat) : Int) from rfl, hd, wrap_n _ (by omega), wrap_nat (by omega)]
  by_cases h4 : (n + 1) * 2 ^ l ≤ 281474976710656
  · have h6 := (Nat.le_div_iff_mul_le hp).2 h4
    refine c_ngt (by omega) ?_
    rw [show (((n + 1 : Nat) : Int) * ((2 ^ l : Nat) : Int)) = (((n + 1) * 2 ^ l : Nat) : Int) by norm_cast, wrap_n _ (by omega), wrap_id (by omega) (by omega), show (((n + 1) * 2 ^ l : Nat) : Int) - 1 = (((n + 1) * 2 ^ l - 1 : Nat) : Int) by omega]
    refine rlaid_word (by omega) (opnI_s ?_)
    have hl := place_lt h4
    rw [← Int.natCast_add, wrap_n _ (by unfold placeOf at hl; omega)]
    have := hok ⟨by omega, by omega, by omega, by simpa using h4⟩
    simp only [Int.toNat_natCast] at this
    exact this
  · have h6 := mt (Nat.le_div_iff_mul_le hp).1 h4
    exact c_gt (by omega) (hno (fun g => h4 (by simpa only [Int.toNat_natCast] using g.2.2.2)))
theorem rsplit_word {Q : Value → World → Prop} {c : Int} {w : World} (hok : ∀ c' : Nat, c = c' → c' < 562949953421311 → ∀ w', Chg None w w' → Q (.tuple #[.int .i64 ((levOf c' : Nat) : Int), .int .i64 ((nodOf c' : Nat) : Int), .int .i64 0]) w') (hno : ¬ (0 ≤ c ∧ c < 562949953421311) → Q (.tuple #[.int .i64 0, .int .i64 0, .int .i64 1]) w) : C_r08_SplitIndex #[.int .i64 c] w Q := by
  refine C_r08_SplitIndex_eq _ _ _ ?_
  by_cases h1 : c < 0
  · exact c_lt h1 (N_r08_SplitIndex.j2_eq (h := hno (by omega)))
  refine c_nlt (by omega) ?_
  by_cases h2 : 562949953421311 ≤ c
  · exact c_ge (by omega) (N_r08_SplitIndex.j2_eq (h := hno (by omega)))
  refine c_nge (by omega) ?_
  obtain ⟨c, rfl⟩ := Int.eq_ofNat_of_zero_le (by omega : 0 ≤ c)
  refine rrecord_word (opnI_s ?_)
  have hr := rec_lt (c := c) (by omega)
  refine rlaid_word (by omega) (opnI_s ?_)
  rw [drw_s]
  have h3 := (recOf_is c).2.1
  have hl := lev_le (c := c) (by omega)
  obtain ⟨h4, h5⟩ := split_pos (c := c) (by omega)
  have e1 : IntKind.wrap .i64 ((c : Int) - ((laid (recOf c) : Nat) : Int)) = ((levOf c : Nat) : Int) := by
    rw [wrap_id (by omega) (by omega)]; unfold levOf; omega
  rw [e1, wrap_nat (by omega)]
  have hp := pow_pos2 (levOf c)
  refine rpower_word (by omega) (opnI_s ⟨by omega, ?_⟩)
  have hle : (recOf c + 1) / 2 ^ levOf c ≤ recOf c + 1 := Nat.div_le_self _ _
  rw [tdiv_nat, wrap_n _ (by omega), wrap_id (by omega) (by omega), show (((recOf c + 1) / 2 ^ levOf c : Nat) : Int) - 1 = ((nodOf c : Nat) : Int) by unfold nodOf; omega]
  exact hok c rfl (by omega) _ (Chg.drew0 w)
end Go.Proofs.YtccjncflbbhldaaDoor.Pl
/-! ## ShGr0 -/
set_option maxRecDepth 100000
namespace Go.Proofs.YtccjncflbbhldaaDoor
open Go.Sh
/-! ### ledger/ledgerlaw10.TileReads -/
noncomputable def B_l10_TileReads : Code := match Tryd.f5.body with | some c => c | _ => .skip
noncomputable def X_l10_TileReads : Cx := { P := PP, fn := 5, N := 134, tab := tab, results := [.tmp 2], iter := fun _ => (.none, .none), dyn := fun _ => false, live := fun r => cond (Nat.beq r 8) (some []) (cond (Nat.beq r 13) (some [1, 3, 4, 5, 6, 7, 9, 10, 11, 13, 14, 15, 16]) (cond (Nat.beq r 22) (some []) (cond (Nat.beq r 24) (some [6, 9, 19, 21]) (none)))) }
theorem K_l10_TileReads : OkF X_l10_TileReads B_l10_TileReads Tryd.f5 := ⟨⟨tab_ok, mix_ok⟩, Tryd.func5, by kernel_rfl, by kernel_rfl, by kernel_rfl, by kernel_rfl⟩
noncomputable def N_l10_TileReads.j8 (Q : Value → World → Prop) (w : World) : Prop := Nd X_l10_TileReads Q [] [.code (B_l10_TileReads.r.r.r.r.r.r.r.l.r.l.l), .code (B_l10_TileReads.r.r.r.r.r.r.r.l.r.l.r), .code (B_l10_TileReads.r.r.r.r.r.r.r.r)] w
noncomputable def N_l10_TileReads.j13 (Q : Value → World → Prop) (s1 : Addr) (s3 : Int) (s4 : Int) (s5 : Int) (s6 : Option Addr) (s6n : Nat) (s6c : Nat) (s7 : Addr) (s9 : Option Addr) (s9n : Nat) (s9c : Nat) (s10 : Option Addr) (s10n : Nat) (s10c : Nat) (s11 : Option Addr) (s11n : Nat) (s11c : Nat) (s13 : Int) (s14 : Option Addr) (s14n : Nat) (s14c : Nat) (s15 : Option Addr) (s15n : Nat) (s15c : Nat) (s16 : Int) (w : World) : Prop := Nd X_l10_TileReads Q [(1, 1, .pointer (some s1)), (3, 3, .int .i64 s3), (4, 4, .int .i64 s4), (5, 5, .int .i64 s5), (6, 6, .slice s6 s6n s6c), (7, 7, .pointer (some s7)), (9, 9, .slice s9 s9n s9c), (10, 10, .slice s10 s10n s10c), (11, 11, .slice s11 s11n s11c), (13, 13, .int .i64 s13), (14, 14, .slice s14 s14n s14c), (15, 15, .slice s15 s15n s15c), (16, 16, .int .i64 s16)] [.code (B_l10_TileReads.r.r.r.r.r.r.r.r.r.r.r.l.r.l.l.l.l), .code (B_l10_TileReads.r.r.r.r.r.r.r.r.r.r.r.l.r.l.l.l.r), .code (B_l10_TileReads.r.r.r.r.r.r.r.r.r.r.r.l.r.l.l.r), .inLoop (B_l10_TileReads.r.r.r.r.r.r.r.r.r.r.r.l.r.l.l), .inBlock 0, .code (B_l10_TileReads.r.r.r.r.r.r.r.r.r.r.r.r)] w
noncomputable def N_l10_TileReads.j22 (Q : Value → World → Prop) (w : World) : Prop := Nd X_l10_TileReads Q [] [.code (B_l10_TileReads.r.r.r.r.r.r.r.r.r.r.r.r.r.r.r.l.r.l.l), .code (B_l10_TileReads.r.r.r.r.r.r.r.r.r.r.r.r.r.r.r.l.r.l.r), .code (B_l10_TileReads.r.r.r.r.r.r.r.r.r.r.r.r.r.r.r.r)] w
noncomputable def N_l10_TileReads.j24 (Q : Value → World → Prop) (s6 : Option Addr) (s6n : Nat) (s6c : Nat) (s9 : Option Addr) (s9n : Nat) (s9c : Nat) (s19 : Option Addr) (s19n : Nat) (s19c : Nat) (s21 : Int) (w : World) : Prop := Nd X_l10_TileReads Q [(6, 6, .slice s6 s6n s6c), (9, 9, .slice s9 s9n s9c), (19, 19, .slice s19 s19n s19c), (21, 21, .int .i64 s21)] [.code (B_l10_TileReads.r.r.r.r.r.r.r.r.r.r.r.r.r.r.r.r.l.r.l.l.l.l), .code (B_l10_TileReads.r.r.r.r.r.r.r.r.r.r.r.r.r.r.r.r.l.r.l.l.l.r), .code (B_l10_TileReads.r.r.r.r.r.r.r.r.r.r.r.r.r.r.r.r.l.r.l.l.r), .inLoop (B_l10_TileReads.r.r.r.r.r.r.r.r.r.r.r.r.r.r.r.r.l.r.l.l), .inBlock 2, .code (B_l10_TileReads.r.r.r.r.r.r.r.r.r.r.r.r.r.r.r.r.r)] w
theorem N_l10_TileReads.j8_eq (Q : Value → World → Prop) (w : World) (h :
  Q (.bool false) w) :
N_l10_TileReads.j8 Q w := Nd_fold K_l10_TileReads (by kernel_rfl) h
theorem N_l10_TileReads.j13_eq (Q : Value → World → Prop) (s1 : Addr) (s3 : Int) (s4 : Int) (s5 : Int) (s6 : Option Addr) (s6n : Nat) (s6c : Nat) (s7 : Addr) (s9 : Option Addr) (s9n : Nat) (s9c : Nat) (s10 : Option Addr) (s10n : Nat) (s10c : Nat) (s11 : Option Addr) (s11n : Nat) (s11c : Nat) (s13 : Int) (s14 : Option Addr) (s14n : Nat) (s14c : Nat) (s15 : Option Addr) (s15n : Nat) (s15c : Nat) (s16 : Int) (w : World) (h :
  cond (decide (s16 < s13))
  (opnI .i64 (w.cell? (s1.add 3)) fun x1 =>
  C_l10_within #[.int .i64 x1, .int .i64 s13] w fun v2 w3 =>
  opnI .i64 (some v2) fun x4 =>
  C_l10_within #[.int .i64 (IntKind.wrap .i64 (s16 + x4)), .int .i64 s13] w3 fun v5 w6 =>
  opnI .i64 (some v5) fun x7 =>
  (0 : Int) ≤ x7 ∧
  x7 < ((s10n : Nat) : Int) ∧
  opnA s10 fun ad8 =>
  opnI .i64 (w6.cell? ((ad8.add (Int.toNat x7 * 5)).add 0)) fun x9 =>
  opnI .i64 (w6.cell? ((ad8.add (Int.toNat x7 * 5)).add 1)) fun x10 =>
  opnI .i64 (w6.cell? ((ad8.add (Int.toNat x7 * 5)).add 2)) fun x11 =>
  opnI .i64 (w6.cell? ((ad8.add (Int.toNat x7 * 5)).add 3)) fun x12 =>
  opnB (w6.cell? ((ad8.add (Int.toNat x7 * 5)).add 4)) fun x13 =>
  alC #[.int .i64 x9, .int .i64 x10, .int .i64 x11, .int .i64 x12, .bool x13, .int .i64 s4, .int .i64 s16, .int .i64 (-1), .int .i64 1, .bool false] 24 w6 fun p14 w15 =>
  sem PP (Builtin.append_ #[64, 64] 64 #[.slice s14 s14n s14c, .slice (some p14) 2 2]) w15 fun v16 w17 =>
  opnL (some v16) fun x18 x18n x18c =>
  (0 : Int) ≤ x7 ∧
  x7 < ((s11n : Nat) : Int) ∧
  opnA s11 fun ad19 =>
  opnL (w17.cell? (ad19.add (Int.toNat x7 * 1))) fun x20 x20n x20c =>
  alC #[.int .u8 111, .int .u8 116, .int .u8 104, .int .u8 101, .int .u8 114] 5 w17 fun p21 w22 =>
  sem PP (convert 25 25 (.slice (some p21) 5 5)) w22 fun v23 w24 =>
  opnL (some v23) fun x25 x25n x25c =>
  alC #[.slice x20 x20n x20c, .slice x25 x25n x25c] 25 w24 fun p26 w27 =>
  sem PP (Builtin.append_ #[41, 41] 41 #[.slice s15 s15n s15c, .slice (some p26) 2 2]) w27 fun v28 w29 =>
  opnL (some v28) fun x30 x30n x30c =>
  N_l10_TileReads.j13 Q s1 s3 s4 s5 s6 s6n s6c s7 s9 s9n s9c s10 s10n s10c s11 s11n s11c s13 x18 x18n x18c x30 x30n x30c (IntKind.wrap .i64 (s16 + 1)) w29)
  (sem PP (Builtin.append_ #[51, 51] 51 #[.slice none 0 0, .slice s9 s9n s9c]) w fun v31 w32 =>
  opnL (some v31) fun x33 x33n x33c =>
  opnRow w32 s7 (32 * 1) fun x34 =>
  C_tile_Read #[.int .i64 s5, .int .i64 s4, .int .i64 s3, .agg x34, .slice s14 s14n s14c, .slice s15 s15n s15c, .slice x33 x33n x33c] w32 fun v35 w36 =>
  opnT (some v35) fun x37 =>
  x37.size = 2 ∧
  opnL (x37[0]?) fun x38 x38n x38c =>
  opnI .i64 (x37[1]?) fun x39 =>
  C_l10_num #[.int .i64 x39] w36 fun v40 w41 =>
  opnI .i64 (some v40) fun x42 =>
  cond (x42 != 0)
  (N_l10_TileReads.j22 Q w41)
  (cond (((x38n : Nat) : Int) != ((s9n : Nat) : Int))
  (N_l10_TileReads.j22 Q w41)
  (N_l10_TileReads.j24 Q s6 s6n s6c s9 s9n s9c x38 x38n x38c 0 w41)))) :
N_l10_TileReads.j13 Q s1 s3 s4 s5 s6 s6n s6c s7 s9 s9n s9c s10 s10n s10c s11 s11n s11c s13 s14 s14n s14c s15 s15n s15c s16 w := Nd_fold K_l10_TileReads (by kernel_rfl) h
theorem N_l10_TileReads.j22_eq (Q : Value → World → Prop) (w : World) (h :
  Q (.bool false) w) :
N_l10_TileReads.j22 Q w := Nd_fold K_l10_TileReads (by kernel_rfl) h
theorem N_l10_TileReads.j24_eq (Q : Value → World → Prop) (s6 : Option Addr) (s6n : Nat) (s6c : Nat) (s9 : Option Addr) (s9n : Nat) (s9c : Nat) (s19 : Option Addr) (s19n : Nat) (s19c : Nat) (s21 : Int) (w : World) (h :
  cond (decide (s21 < ((s9n : Nat) : Int)))
  (drw w fun w1 =>
  (0 : Int) ≤ s21 ∧
  s21 < ((s19n : Nat) : Int) ∧
  opnA s19 fun ad2 =>
  (0 : Int) ≤ s21 ∧
  s21 < ((s9n : Nat) : Int) ∧
  opnA s9 fun ad3 =>
  opnRow w1 (ad2.add (Int.toNat s21 * 32)) (32 * 1) fun x4 =>
  opnI .i64 (w1.cell? (ad3.add (Int.toNat s21 * 1))) fun x5 =>
  (0 : Int) ≤ x5 ∧
  x5 < ((s6n : Nat) : Int) ∧
  opnA s6 fun ad6 =>
  opnRow w1 (ad6.add (Int.toNat x5 * 32)) (32 * 1) fun x7 =>
  semR PP (do eqGuard .neq 29 (.tmp 125) (.tmp 132) (.agg x4) (.agg x7); binOp .neq 29 (.agg x4) (.agg x7)) w1 fun x8 =>
  opnB (some x8) fun x9 =>
  cond x9
  (Q (.bool false) w1)
  (N_l10_TileReads.j24 Q s6 s6n s6c s9 s9n s9c s19 s19n s19c (IntKind.wrap .i64 (s21 + 1)) w1))
  (Q (.bool true) w)) :
N_l10_TileReads.j24 Q s6 s6n s6c s9 s9n s9c s19 s19n s19c s21 w := Nd_fold K_l10_TileReads (by kernel_rfl) h
theorem C_l10_TileReads_eq (Q : Value → World → Prop) (a0_0 : Int) (a0_1 : Int) (a0_2 : Int) (a0_3 : Int) (a0_4 : Option Addr) (a0_4n : Nat) (a0_4c : Nat) (w : World) (h :
  alC #[.int .i64 a0_0, .int .i64 a0_1, .int .i64 a0_2, .int .i64 a0_3, .slice a0_4 a0_4n a0_4c] 53 w fun p1 w2 =>
  opnI .i64 (w2.cell? (p1.add 1)) fun x3 =>
  C_l10_within #[.int .i64 x3, .int .i64 300] w2 fun v4 w5 =>
  opnI .i64 (some v4) fun x6 =>
  opnI .i64 (w5.cell? (p1.add 2)) fun x7 =>
  C_l10_within #[.int .i64 x7, .int .i64 8] w5 fun v8 w9 =>
  opnI .i64 (some v8) fun x10 =>
  opnI .i64 (w9.cell? (p1.add 0)) fun x11 =>
  C_l10_tree #[.int .i64 x11, .int .i64 x6, .int .u8 1] w9 fun v12 w13 =>
  opnT (some v12) fun x14 =>
  x14.size = 3 ∧
  opnL (x14[0]?) fun x15 x15n x15c =>
  opnG (x14[1]?) fun x16 =>
  opnB (x14[2]?) fun x17 =>
  alZ PP 29 w13 fun p18 w19 =>
  stRow p18 x16 (32 * 1) w19 fun w20 =>
  opnL (w20.cell? (p1.add 4)) fun x21 x21n x21c =>
  C_l10_asked #[.slice x21 x21n x21c, .int .i64 ((x15n : Nat) : Int)] w20 fun v22 w23 =>
  opnL (some v22) fun x24 x24n x24c =>
  C_l10_fetched #[.int .i64 (IntKind.wrap .i64 (x10 + 1)), .int .i64 x6, .slice x15 x15n x15c, .slice x24 x24n x24c] w23 fun v25 w26 =>
  opnT (some v25) fun x27 =>
  x27.size = 3 ∧
  opnL (x27[0]?) fun x28 x28n x28c =>
  opnL (x27[1]?) fun x29 x29n x29c =>
  opnB (x27[2]?) fun x30 =>
  cond (!x17)
  (N_l10_TileReads.j8 Q w26)
  (cond (!x30)
  (N_l10_TileReads.j8 Q w26)
  (N_l10_TileReads.j13 Q p1 x6 (IntKind.wrap .i64 (x10 + 1)) x11 x15 x15n x15c p18 x24 x24n x24c x28 x28n x28c x29 x29n x29c ((x28n : Nat) : Int) none 0 0 none 0 0 0 w26))) :
C_l10_TileReads #[.agg #[.int .i64 a0_0, .int .i64 a0_1, .int .i64 a0_2, .int .i64 a0_3, .slice a0_4 a0_4n a0_4c]] w Q := C_fold K_l10_TileReads (by kernel_rfl) h
/-! ### ledger/ledgerlaw10.TileSpoilt -/
noncomputable def B_l10_TileSpoilt : Code := match Tryd.f6.body with | some c => c | _ => .skip
noncomputable def X_l10_TileSpoilt : Cx := { P := PP, fn := 6, N := 226, tab := tab, results := [.tmp 2], iter := fun _ => (.none, .none), dyn := fun _ => false, live := fun r => cond (Nat.beq r 7) (some []) (cond (Nat.beq r 16) (some []) (cond (Nat.beq r 17) (some [1, 3, 4, 6, 8, 9, 10, 12, 13]) (cond (Nat.beq r 18) (some [1, 3, 4, 6, 8, 9, 10, 12, 13]) (cond (Nat.beq r 19) (some [1, 3, 4, 6, 8, 9, 10, 12, 13, 17]) (cond (Nat.beq r 20) (some []) (cond (Nat.beq r 21) (some [1, 3, 4, 6, 8, 9, 10, 12, 13]) (cond (Nat.beq r 22) (some [1, 3, 4, 6, 8, 9, 10, 12]) (cond (Nat.beq r 23) (some [1, 3, 4, 6, 8, 9, 10, 12, 18]) (cond (Nat.beq r 24) (some [1, 3, 4, 6, 8, 9, 10, 12, 18]) (cond (Nat.beq r 25) (some [1, 3, 4, 6, 8, 9, 10, 12, 17]) (cond (Nat.beq r 26) (some []) (cond (Nat.beq r 27) (some [1, 3, 4, 6, 8, 9, 10, 12]) (cond (Nat.beq r 28) (some [1, 3, 4, 6, 8, 9, 10, 12, 19]) (cond (Nat.beq r 29) (some [1, 3, 4, 6, 8, 9, 10, 12, 19]) (cond (Nat.beq r 30) (some [1, 3, 4, 6, 8, 9, 10, 12, 17, 19]) (cond (Nat.beq r 31) (some [1, 3, 4, 6, 8, 9, 10, 17]) (cond (Nat.beq r 32) (some [17, 21]) (none)))))))))))))))))) }
theorem K_l10_TileSpoilt : OkF X_l10_TileSpoilt B_l10_TileSpoilt Tryd.f6 := ⟨⟨tab_ok, mix_ok⟩, Tryd.func6, by kernel_rfl, by kernel_rfl, by kernel_rfl, by kernel_rfl⟩
noncomputable def N_l10_TileSpoilt.j7 (Q : Value → World → Prop) (w : World) : Prop := Nd X_l10_TileSpoilt Q [] [.code (B_l10_TileSpoilt.r.r.r.r.r.r.l.r.l.l), .code (B_l10_TileSpoilt.r.r.r.r.r.r.l.r.l.r), .code (B_l10_TileSpoilt.r.r.r.r.r.r.r)] w
noncomputable def N_l10_TileSpoilt.j16 (Q : Value → World → Prop) (w : World) : Prop := Nd X_l10_TileSpoilt Q [] [.code (B_l10_TileSpoilt.r.r.r.r.r.r.r.r.r.r.r.r.r.r.l.r.l.l), .code (B_l10_TileSpoilt.r.r.r.r.r.r.r.r.r.r.r.r.r.r.l.r.l.r), .code (B_l10_TileSpoilt.r.r.r.r.r.r.r.r.r.r.r.r.r.r.r)] w
noncomputable def N_l10_TileSpoilt.j17 (Q : Value → World → Prop) (s1 : Addr) (s3 : Int) (s4 : Int) (s6 : Addr) (s8 : Option Addr) (s8n : Nat) (s8c : Nat) (s9 : Option Addr) (s9n : Nat) (s9c : Nat) (s10 : Option Addr) (s10n : Nat) (s10c : Nat) (s12 : Int) (s13 : Option Addr) (s13n : Nat) (s13c : Nat) (w : World) : Prop := Nd X_l10_TileSpoilt Q [(1, 1, .pointer (some s1)), (3, 3, .int .i64 s3), (4, 4, .int .i64 s4), (6, 6, .pointer (some s6)), (8, 8, .slice s8 s8n s8c), (9, 9, .slice s9 s9n s9c), (10, 10, .slice s10 s10n s10c), (12, 12, .int .i64 s12), (13, 13, .slice s13 s13n s13c)] [.code (B_l10_TileSpoilt.r.r.r.r.r.r.r.r.r.r.r.r.r.r.r.l), .code (B_l10_TileSpoilt.r.r.r.r.r.r.r.r.r.r.r.r.r.r.r.r)] w
noncomputable def N_l10_TileSpoilt.j18 (Q : Value → World → Prop) (s1 : Addr) (s3 : Int) (s4 : Int) (s6 : Addr) (s8 : Option Addr) (s8n : Nat) (s8c : Nat) (s9 : Option Addr) (s9n : Nat) (s9c : Nat) (s10 : Option Addr) (s10n : Nat) (s10c : Nat) (s12 : Int) (s13 : Option Addr) (s13n : Nat) (s13c : Nat) (w : World) : Prop := Nd X_l10_TileSpoilt Q [(1, 1, .pointer (some s1)), (3, 3, .int .i64 s3), (4, 4, .int .i64 s4), (6, 6, .pointer (some s6)), (8, 8, .slice s8 s8n s8c), (9, 9, .slice s9 s9n s9c), (10, 10, .slice s10 s10n s10c), (12, 12, .int .i64 s12), (13, 13, .slice s13 s13n s13c)] [.code (B_l10_TileSpoilt.r.r.r.r.r.r.r.r.r.r.r.r.r.r.r.r.l), .code (B_l10_TileSpoilt.r.r.r.r.r.r.r.r.r.r.r.r.r.r.r.r.r)] w
noncomputable def N_l10_TileSpoilt.j19 (Q : Value → World → Prop) (s1 : Addr) (s3 : Int) (s4 : Int) (s6 : Addr) (s8 : Option Addr) (s8n : Nat) (s8c : Nat) (s9 : Option Addr) (s9n : Nat) (s9c : Nat) (s10 : Option Addr) (s10n : Nat) (s10c : Nat) (s12 : Int) (s13 : Option Addr) (s13n : Nat) (s13c : Nat) (s17 : Int) (w : World) : Prop := Nd X_l10_TileSpoilt Q [(1, 1, .pointer (some s1)), (3, 3, .int .i64 s3), (4, 4, .int .i64 s4), (6, 6, .pointer (some s6)), (8, 8, .slice s8 s8n s8c), (9, 9, .slice s9 s9n s9c), (10, 10, .slice s10 s10n s10c), (12, 12, .int .i64 s12), (13, 13, .slice s13 s13n s13c), (17, 17, .int .i64 s17)] [.code (B_l10_TileSpoilt.r.r.r.r.r.r.r.r.r.r.r.r.r.r.r.r.r.l.l), .code (B_l10_TileSpoilt.r.r.r.r.r.r.r.r.r.r.r.r.r.r.r.r.r.l.r), .code (B_l10_TileSpoilt.r.r.r.r.r.r.r.r.r.r.r.r.r.r.r.r.r.r)] w
noncomputable def N_l10_TileSpoilt.j20 (Q : Value → World → Prop) (w : World) : Prop := Nd X_l10_TileSpoilt Q [] [.code (B_l10_TileSpoilt.r.r.r.r.r.r.r.r.r.r.r.r.r.r.r.r.r.l.r.l.l), .code (B_l10_TileSpoilt.r.r.r.r.r.r.r.r.r.r.r.r.r.r.r.r.r.l.r.l.r), .code (B_l10_TileSpoilt.r.r.r.r.r.r.r.r.r.r.r.r.r.r.r.r.r.r)] w
noncomputable def N_l10_TileSpoilt.j21 (Q : Value → World → Prop) (s1 : Addr) (s3 : Int) (s4 : Int) (s6 : Addr) (s8 : Option Addr) (s8n : Nat) (s8c : Nat) (s9 : Option Addr) (s9n : Nat) (s9c : Nat) (s10 : Option Addr) (s10n : Nat) (s10c : Nat) (s12 : Int) (s13 : Option Addr) (s13n : Nat) (s13c : Nat) (w : World) : Prop := Nd X_l10_TileSpoilt Q [(1, 1, .pointer (some s1)), (3, 3, .int .i64 s3), (4, 4, .int .i64 s4), (6, 6, .pointer (some s6)), (8, 8, .slice s8 s8n s8c), (9, 9, .slice s9 s9n s9c), (10, 10, .slice s10 s10n s10c), (12, 12, .int .i64 s12), (13, 13, .slice s13 s13n s13c)] [.code (B_l10_TileSpoilt.r.r.r.r.r.r.r.r.r.r.r.r.r.r.r.r.r.r.l), .code (B_l10_TileSpoilt.r.r.r.r.r.r.r.r.r.r.r.r.r.r.r.r.r.r.r)] w
noncomputable def N_l10_TileSpoilt.j22 (Q : Value → World → Prop) (s1 : Addr) (s3 : Int) (s4 : Int) (s6 : Addr) (s8 : Option Addr) (s8n : Nat) (s8c : Nat) (s9 : Option Addr) (s9n : Nat) (s9c : Nat) (s10 : Option Addr) (s10n : Nat) (s10c : Nat) (s12 : Int) (w : World) : Prop := Nd X_l10_TileSpoilt Q [(1, 1, .pointer (some s1)), (3, 3, .int .i64 s3), (4, 4, .int .i64 s4), (6, 6, .pointer (some s6)), (8, 8, .slice s8 s8n s8c), (9, 9, .slice s9 s9n s9c), (10, 10, .slice s10 s10n s10c), (12, 12, .int .i64 s12)] [.code (B_l10_TileSpoilt.r.r.r.r.r.r.r.r.r.r.r.r.r.r.r.r.r.r.r.l), .code (B_l10_TileSpoilt.r.r.r.r.r.r.r.r.r.r.r.r.r.r.r.r.r.r.r.r)] w
noncomputable def N_l10_TileSpoilt.j23 (Q : Value → World → Prop) (s1 : Addr) (s3 : Int) (s4 : Int) (s6 : Addr) (s8 : Option Addr) (s8n : Nat) (s8c : Nat) (s9 : Option Addr) (s9n : Nat) (s9c : Nat) (s10 : Option Addr) (s10n : Nat) (s10c : Nat) (s12 : Int) (s18 : Addr) (w : World) : Prop := Nd X_l10_TileSpoilt Q [(1, 1, .pointer (some s1)), (3, 3, .int .i64 s3), (4, 4, .int .i64 s4), (6, 6, .pointer (some s6)), (8, 8, .slice s8 s8n s8c), (9, 9, .slice s9 s9n s9c), (10, 10, .slice s10 s10n s10c), (12, 12, .int .i64 s12), (18, 18, .pointer (some s18))] [.code (B_l10_TileSpoilt.r.r.r.r.r.r.r.r.r.r.r.r.r.r.r.r.r.r.r.r.l), .code (B_l10_TileSpoilt.r.r.r.r.r.r.r.r.r.r.r.r.r.r.r.r.r.r.r.r.r)] w
noncomputable def N_l10_TileSpoilt.j24 (Q : Value → World → Prop) (s1 : Addr) (s3 : Int) (s4 : Int) (s6 : Addr) (s8 : Option Addr) (s8n : Nat) (s8c : Nat) (s9 : Option Addr) (s9n : Nat) (s9c : Nat) (s10 : Option Addr) (s10n : Nat) (s10c : Nat) (s12 : Int) (s18 : Addr) (w : World) : Prop := Nd X_l10_TileSpoilt Q [(1, 1, .pointer (some s1)), (3, 3, .int .i64 s3), (4, 4, .int .i64 s4), (6, 6, .pointer (some s6)), (8, 8, .slice s8 s8n s8c), (9, 9, .slice s9 s9n s9c), (10, 10, .slice s10 s10n s10c), (12, 12, .int .i64 s12), (18, 18, .pointer (some s18))] [.code (B_l10_TileSpoilt.r.r.r.r.r.r.r.r.r.r.r.r.r.r.r.r.r.r.r.r.r.l), .code (B_l10_TileSpoilt.r.r.r.r.r.r.r.r.r.r.r.r.r.r.r.r.r.r.r.r.r.r)] w
noncomputable def N_l10_TileSpoilt.j25 (Q : Value → World → Prop) (s1 : Addr) (s3 : Int) (s4 : Int) (s6 : Addr) (s8 : Option Addr) (s8n : Nat) (s8c : Nat) (s9 : Option Addr) (s9n : Nat) (s9c : Nat) (s10 : Option Addr) (s10n : Nat) (s10c : Nat) (s12 : Int) (s17 : Int) (w : World) : Prop := Nd X_l10_TileSpoilt Q [(1, 1, .pointer (some s1)), (3, 3, .int .i64 s3), (4, 4, .int .i64 s4), (6, 6, .pointer (some s6)), (8, 8, .slice s8 s8n s8c), (9, 9, .slice s9 s9n s9c), (10, 10, .slice s10 s10n s10c), (12, 12, .int .i64 s12), (17, 17, .int .i64 s17)] [.code (B_l10_TileSpoilt.r.r.r.r.r.r.r.r.r.r.r.r.r.r.r.r.r.r.r.r.r.r.l.l), .code (B_l10_TileSpoilt.r.r.r.r.r.r.r.r.r.r.r.r.r.r.r.r.r.r.r.r.r.r.l.r), .code (B_l10_TileSpoilt.r.r.r.r.r.r.r.r.r.r.r.r.r.r.r.r.r.r.r.r.r.r.r)] w
noncomputable def N_l10_TileSpoilt.j26 (Q : Value → World → Prop) (w : World) : Prop := Nd X_l10_TileSpoilt Q [] [.code (B_l10_TileSpoilt.r.r.r.r.r.r.r.r.r.r.r.r.r.r.r.r.r.r.r.r.r.r.l.r.l.l), .code (B_l10_TileSpoilt.r.r.r.r.r.r.r.r.r.r.r.r.r.r.r.r.r.r.r.r.r.r.l.r.l.r), .code (B_l10_TileSpoilt.r.r.r.r.r.r.r.r.r.r.r.r.r.r.r.r.r.r.r.r.r.r.r)] w
noncomputable def N_l10_TileSpoilt.j27 (Q : Value → World → Prop) (s1 : Addr) (s3 : Int) (s4 : Int) (s6 : Addr) (s8 : Option Addr) (s8n : Nat) (s8c : Nat) (s9 : Option Addr) (s9n : Nat) (s9c : Nat) (s10 : Option Addr) (s10n : Nat) (s10c : Nat) (s12 : Int) (w : World) : Prop := Nd X_l10_TileSpoilt Q [(1, 1, .pointer (some s1)), (3, 3, .int .i64 s3), (4, 4, .int .i64 s4), (6, 6, .pointer (some s6)), (8, 8, .slice s8 s8n s8c), (9, 9, .slice s9 s9n s9c), (10, 10, .slice s10 s10n s10c), (12, 12, .int .i64 s12)] [.code (B_l10_TileSpoilt.r.r.r.r.r.r.r.r.r.r.r.r.r.r.r.r.r.r.r.r.r.r.r.l), .code (B_l10_TileSpoilt.r.r.r.r.r.r.r.r.r.r.r.r.r.r.r.r.r.r.r.r.r.r.r.r)] w
noncomputable def N_l10_TileSpoilt.j28 (Q : Value → World → Prop) (s1 : Addr) (s3 : Int) (s4 : Int) (s6 : Addr) (s8 : Option Addr) (s8n : Nat) (s8c : Nat) (s9 : Option Addr) (s9n : Nat) (s9c : Nat) (s10 : Option Addr) (s10n : Nat) (s10c : Nat) (s12 : Int) (s19 : Addr) (w : World) : Prop := Nd X_l10_TileSpoilt Q [(1, 1, .pointer (some s1)), (3, 3, .int .i64 s3), (4, 4, .int .i64 s4), (6, 6, .pointer (some s6)), (8, 8, .slice s8 s8n s8c), (9, 9, .slice s9 s9n s9c), (10, 10, .slice s10 s10n s10c), (12, 12, .int .i64 s12), (19, 19, .pointer (some s19))] [.code (B_l10_TileSpoilt.r.r.r.r.r.r.r.r.r.r.r.r.r.r.r.r.r.r.r.r.r.r.r.r.l), .code (B_l10_TileSpoilt.r.r.r.r.r.r.r.r.r.r.r.r.r.r.r.r.r.r.r.r.r.r.r.r.r)] w
noncomputable def N_l10_TileSpoilt.j29 (Q : Value → World → Prop) (s1 : Addr) (s3 : Int) (s4 : Int) (s6 : Addr) (s8 : Option Addr) (s8n : Nat) (s8c : Nat) (s9 : Option Addr) (s9n : Nat) (s9c : Nat) (s10 : Option Addr) (s10n : Nat) (s10c : Nat) (s12 : Int) (s19 : Addr) (w : World) : Prop := Nd X_l10_TileSpoilt Q [(1, 1, .pointer (some s1)), (3, 3, .int .i64 s3), (4, 4, .int .i64 s4), (6, 6, .pointer (some s6)), (8, 8, .slice s8 s8n s8c), (9, 9, .slice s9 s9n s9c), (10, 10, .slice s10 s10n s10c), (12, 12, .int .i64 s12), (19, 19, .pointer (some s19))] [.code (B_l10_TileSpoilt.r.r.r.r.r.r.r.r.r.r.r.r.r.r.r.r.r.r.r.r.r.r.r.r.r.l), .code (B_l10_TileSpoilt.r.r.r.r.r.r.r.r.r.r.r.r.r.r.r.r.r.r.r.r.r.r.r.r.r.r)] w
noncomputable def N_l10_TileSpoilt.j30 (Q : Value → World → Prop) (s1 : Addr) (s3 : Int) (s4 : Int) (s6 : Addr) (s8 : Option Addr) (s8n : Nat) (s8c : Nat) (s9 : Option Addr) (s9n : Nat) (s9c : Nat) (s10 : Option Addr) (s10n : Nat) (s10c : Nat) (s12 : Int) (s17 : Int) (s19 : Addr) (w : World) : Prop := Nd X_l10_TileSpoilt Q [(1, 1, .pointer (some s1)), (3, 3, .int .i64 s3), (4, 4, .int .i64 s4), (6, 6, .pointer (some s6)), (8, 8, .slice s8 s8n s8c), (9, 9, .slice s9 s9n s9c), (10, 10, .slice s10 s10n s10c), (12, 12, .int .i64 s12), (17, 17, .int .i64 s17), (19, 19, .pointer (some s19))] [.code (B_l10_TileSpoilt.r.r.r.r.r.r.r.r.r.r.r.r.r.r.r.r.r.r.r.r.r.r.r.r.r.r.l), .code (B_l10_TileSpoilt.r.r.r.r.r.r.r.r.r.r.r.r.r.r.r.r.r.r.r.r.r.r.r.r.r.r.r)] w
noncomputable def N_l10_TileSpoilt.j31 (Q : Value → World → Prop) (s1 : Addr) (s3 : Int) (s4 : Int) (s6 : Addr) (s8 : Option Addr) (s8n : Nat) (s8c : Nat) (s9 : Option Addr) (s9n : Nat) (s9c : Nat) (s10 : Option Addr) (s10n : Nat) (s10c : Nat) (s17 : Int) (w : World) : Prop := Nd X_l10_TileSpoilt Q [(1, 1, .pointer (some s1)), (3, 3, .int .i64 s3), (4, 4, .int .i64 s4), (6, 6, .pointer (some s6)), (8, 8, .slice s8 s8n s8c), (9, 9, .slice s9 s9n s9c), (10, 10, .slice s10 s10n s10c), (17, 17, .int .i64 s17)] [.code (B_l10_TileSpoilt.r.r.r.r.r.r.r.r.r.r.r.r.r.r.r.r.r.r.r.r.r.r.r.r.r.r.r.l), .code (B_l10_TileSpoilt.r.r.r.r.r.r.r.r.r.r.r.r.r.r.r.r.r.r.r.r.r.r.r.r.r.r.r.r)] w
noncomputable def N_l10_TileSpoilt.j32 (Q : Value → World → Prop) (s17 : Int) (s21 : Int) (w : World) : Prop := Nd X_l10_TileSpoilt Q [(17, 17, .int .i64 s17), (21, 21, .int .i64 s21)] [.code (B_l10_TileSpoilt.r.r.r.r.r.r.r.r.r.r.r.r.r.r.r.r.r.r.r.r.r.r.r.r.r.r.r.r.l), .code (B_l10_TileSpoilt.r.r.r.r.r.r.r.r.r.r.r.r.r.r.r.r.r.r.r.r.r.r.r.r.r.r.r.r.r)] w
theorem N_l10_TileSpoilt.j7_eq (Q : Value → World → Prop) (w : World) (h :
  Q (.bool false) w) :
N_l10_TileSpoilt.j7 Q w := Nd_fold K_l10_TileSpoilt (by kernel_rfl) h
theorem N_l10_TileSpoilt.j16_eq (Q : Value → World → Prop) (w : World) (h :
  Q (.bool false) w) :
N_l10_TileSpoilt.j16 Q w := Nd_fold K_l10_TileSpoilt (by kernel_rfl) h
theorem N_l10_TileSpoilt.j17_eq (Q : Value → World → Prop) (s1 : Addr) (s3 : Int) (s4 : Int) (s6 : Addr) (s8 : Option Addr) (s8n : Nat) (s8c : Nat) (s9 : Option Addr) (s9n : Nat) (s9c : Nat) (s10 : Option Addr) (s10n : Nat) (s10c : Nat) (s12 : Int) (s13 : Option Addr) (s13n : Nat) (s13c : Nat) (w : World) (h :
  (0 : Int) ≤ (IntKind.wrap .i64 (((s13n : Nat) : Int) - 1)) ∧
  (IntKind.wrap .i64 (((s13n : Nat) : Int) - 1)) ≤ ((s13c : Nat) : Int) ∧
  (0 : Int) ≤ s12 ∧
  s12 < ((s10n : Nat) : Int) ∧
  opnA s10 fun ad1 =>
  stC (ad1.add (Int.toNat s12 * 1)) (.slice (slA s13 0 s13c 1) ((Int.toNat (IntKind.wrap .i64 (((s13n : Nat) : Int) - 1))) - 0) (s13c - 0)) w fun w2 =>
  N_l10_TileSpoilt.j18 Q s1 s3 s4 s6 s8 s8n s8c s9 s9n s9c s10 s10n s10c s12 s13 s13n s13c w2) :
N_l10_TileSpoilt.j17 Q s1 s3 s4 s6 s8 s8n s8c s9 s9n s9c s10 s10n s10c s12 s13 s13n s13c w := Nd_fold K_l10_TileSpoilt (by kernel_rfl) h
theorem N_l10_TileSpoilt.j18_eq (Q : Value → World → Prop) (s1 : Addr) (s3 : Int) (s4 : Int) (s6 : Addr) (s8 : Option Addr) (s8n : Nat) (s8c : Nat) (s9 : Option Addr) (s9n : Nat) (s9c : Nat) (s10 : Option Addr) (s10n : Nat) (s10c : Nat) (s12 : Int) (s13 : Option Addr) (s13n : Nat) (s13c : Nat) (w : World) (h :
  opnI .i64 (w.cell? (s1.add 0)) fun x1 =>
  opnRow w s6 (32 * 1) fun x2 =>
  C_tile_Read #[.int .i64 x1, .int .i64 s4, .int .i64 s3, .agg x2, .slice s9 s9n s9c, .slice s10 s10n s10c, .slice s8 s8n s8c] w fun v3 w4 =>
  opnT (some v3) fun x5 =>
  x5.size = 2 ∧
  opnL (x5[0]?) fun x6 x6n x6c =>
  opnI .i64 (x5[1]?) fun x7 =>
  N_l10_TileSpoilt.j19 Q s1 s3 s4 s6 s8 s8n s8c s9 s9n s9c s10 s10n s10c s12 s13 s13n s13c x7 w4) :
N_l10_TileSpoilt.j18 Q s1 s3 s4 s6 s8 s8n s8c s9 s9n s9c s10 s10n s10c s12 s13 s13n s13c w := Nd_fold K_l10_TileSpoilt (by kernel_rfl) h
theorem N_l10_TileSpoilt.j19_eq (Q : Value → World → Prop) (s1 : Addr) (s3 : Int) (s4 : Int) (s6 : Addr) (s8 : Option Addr) (s8n : Nat) (s8c : Nat) (s9 : Option Addr) (s9n : Nat) (s9c : Nat) (s10 : Option Addr) (s10n : Nat) (s10c : Nat) (s12 : Int) (s13 : Option Addr) (s13n : Nat) (s13c : Nat) (s17 : Int) (w : World) (h :
  C_l10_num #[.int .i64 s17] w fun v1 w2 =>
  opnI .i64 (some v1) fun x3 =>
  cond (x3 != 102)
  (N_l10_TileSpoilt.j20 Q w2)
  (N_l10_TileSpoilt.j21 Q s1 s3 s4 s6 s8 s8n s8c s9 s9n s9c s10 s10n s10c s12 s13 s13n s13c w2)) :
N_l10_TileSpoilt.j19 Q s1 s3 s4 s6 s8 s8n s8c s9 s9n s9c s10 s10n s10c s12 s13 s13n s13c s17 w := Nd_fold K_l10_TileSpoilt (by kernel_rfl) h
theorem N_l10_TileSpoilt.j20_eq (Q : Value → World → Prop) (w : World) (h :
  Q (.bool false) w) :
N_l10_TileSpoilt.j20 Q w := Nd_fold K_l10_TileSpoilt (by kernel_rfl) h
theorem N_l10_TileSpoilt.j21_eq (Q : Value → World → Prop) (s1 : Addr) (s3 : Int) (s4 : Int) (s6 : Addr) (s8 : Option Addr) (s8n : Nat) (s8c : Nat) (s9 : Option Addr) (s9n : Nat) (s9c : Nat) (s10 : Option Addr) (s10n : Nat) (s10c : Nat) (s12 : Int) (s13 : Option Addr) (s13n : Nat) (s13c : Nat) (w : World) (h :
  (0 : Int) ≤ s12 ∧
  s12 < ((s10n : Nat) : Int) ∧
  opnA s10 fun ad1 =>
  stC (ad1.add (Int.toNat s12 * 1)) (.slice s13 s13n s13c) w fun w2 =>
  N_l10_TileSpoilt.j22 Q s1 s3 s4 s6 s8 s8n s8c s9 s9n s9c s10 s10n s10c s12 w2) :
N_l10_TileSpoilt.j21 Q s1 s3 s4 s6 s8 s8n s8c s9 s9n s9c s10 s10n s10c s12 s13 s13n s13c w := Nd_fold K_l10_TileSpoilt (by kernel_rfl) h
theorem N_l10_TileSpoilt.j22_eq (Q : Value → World → Prop) (s1 : Addr) (s3 : Int) (s4 : Int) (s6 : Addr) (s8 : Option Addr) (s8n : Nat) (s8c : Nat) (s9 : Option Addr) (s9n : Nat) (s9c : Nat) (s10 : Option Addr) (s10n : Nat) (s10c : Nat) (s12 : Int) (w : World) (h :
  opnRow w s6 (32 * 1) fun x1 =>
  alZ PP 29 w fun p2 w3 =>
  stRow p2 x1 (32 * 1) w3 fun w4 =>
  N_l10_TileSpoilt.j23 Q s1 s3 s4 s6 s8 s8n s8c s9 s9n s9c s10 s10n s10c s12 p2 w4) :
N_l10_TileSpoilt.j22 Q s1 s3 s4 s6 s8 s8n s8c s9 s9n s9c s10 s10n s10c s12 w := Nd_fold K_l10_TileSpoilt (by kernel_rfl) h
theorem N_l10_TileSpoilt.j23_eq (Q : Value → World → Prop) (s1 : Addr) (s3 : Int) (s4 : Int) (s6 : Addr) (s8 : Option Addr) (s8n : Nat) (s8c : Nat) (s9 : Option Addr) (s9n : Nat) (s9c : Nat) (s10 : Option Addr) (s10n : Nat) (s10c : Nat) (s12 : Int) (s18 : Addr) (w : World) (h :
  (0 : Int) ≤ 0 ∧
  0 < ((32 : Nat) : Int) ∧
  opnI .u8 (w.cell? (s18.add (Int.toNat 0 * 1))) fun x1 =>
  (0 : Int) ≤ 0 ∧
  0 < ((32 : Nat) : Int) ∧
  stC (s18.add (Int.toNat 0 * 1)) (.int .u8 (bits .xor .u8 x1 1)) w fun w2 =>
  N_l10_TileSpoilt.j24 Q s1 s3 s4 s6 s8 s8n s8c s9 s9n s9c s10 s10n s10c s12 s18 w2) :
N_l10_TileSpoilt.j23 Q s1 s3 s4 s6 s8 s8n s8c s9 s9n s9c s10 s10n s10c s12 s18 w := Nd_fold K_l10_TileSpoilt (by kernel_rfl) h
theorem N_l10_TileSpoilt.j24_eq (Q : Value → World → Prop) (s1 : Addr) (s3 : Int) (s4 : Int) (s6 : Addr) (s8 : Option Addr) (s8n : Nat) (s8c : Nat) (s9 : Option Addr) (s9n : Nat) (s9c : Nat) (s10 : Option Addr) (s10n : Nat) (s10c : Nat) (s12 : Int) (s18 : Addr) (w : World) (h :
  opnI .i64 (w.cell? (s1.add 0)) fun x1 =>
  opnRow w s18 (32 * 1) fun x2 =>
  C_tile_Read #[.int .i64 x1, .int .i64 s4, .int .i64 s3, .agg x2, .slice s9 s9n s9c, .slice s10 s10n s10c, .slice s8 s8n s8c] w fun v3 w4 =>
  opnT (some v3) fun x5 =>
  x5.size = 2 ∧
  opnL (x5[0]?) fun x6 x6n x6c =>
  opnI .i64 (x5[1]?) fun x7 =>
  N_l10_TileSpoilt.j25 Q s1 s3 s4 s6 s8 s8n s8c s9 s9n s9c s10 s10n s10c s12 x7 w4) :
N_l10_TileSpoilt.j24 Q s1 s3 s4 s6 s8 s8n s8c s9 s9n s9c s10 s10n s10c s12 s18 w := Nd_fold K_l10_TileSpoilt (by kernel_rfl) h
theorem N_l10_TileSpoilt.j25_eq (Q : Value → World → Prop) (s1 : Addr) (s3 : Int) (s4 : Int) (s6 : Addr) (s8 : Option Addr) (s8n : Nat) (s8c : Nat) (s9 : Option Addr) (s9n : Nat) (s9c : Nat) (s10 : Option Addr) (s10n : Nat) (s10c : Nat) (s12 : Int) (s17 : Int) (w : World) (h :
  C_l10_num #[.int .i64 s17] w fun v1 w2 =>
  opnI .i64 (some v1) fun x3 =>
  cond (x3 != 104)
  (N_l10_TileSpoilt.j26 Q w2)
  (N_l10_TileSpoilt.j27 Q s1 s3 s4 s6 s8 s8n s8c s9 s9n s9c s10 s10n s10c s12 w2)) :
N_l10_TileSpoilt.j25 Q s1 s3 s4 s6 s8 s8n s8c s9 s9n s9c s10 s10n s10c s12 s17 w := Nd_fold K_l10_TileSpoilt (by kernel_rfl) h
theorem N_l10_TileSpoilt.j26_eq (Q : Value → World → Prop) (w : World) (h :
  Q (.bool false) w) :
N_l10_TileSpoilt.j26 Q w := Nd_fold K_l10_TileSpoilt (by kernel_rfl) h
theorem N_l10_TileSpoilt.j27_eq (Q : Value → World → Prop) (s1 : Addr) (s3 : Int) (s4 : Int) (s6 : Addr) (s8 : Option Addr) (s8n : Nat) (s8c : Nat) (s9 : Option Addr) (s9n : Nat) (s9c : Nat) (s10 : Option Addr) (s10n : Nat) (s10c : Nat) (s12 : Int) (w : World) (h :
  (0 : Int) ≤ s12 ∧
  s12 < ((s9n : Nat) : Int) ∧
  opnA s9 fun ad1 =>
  opnI .i64 (w.cell? ((ad1.add (Int.toNat s12 * 5)).add 0)) fun x2 =>
  opnI .i64 (w.cell? ((ad1.add (Int.toNat s12 * 5)).add 1)) fun x3 =>
  opnI .i64 (w.cell? ((ad1.add (Int.toNat s12 * 5)).add 2)) fun x4 =>
  opnI .i64 (w.cell? ((ad1.add (Int.toNat s12 * 5)).add 3)) fun x5 =>
  opnB (w.cell? ((ad1.add (Int.toNat s12 * 5)).add 4)) fun x6 =>
  alC #[.int .i64 0, .int .i64 0, .int .i64 0, .int .i64 0, .bool false] 24 w fun p7 w8 =>
  Array.size (#[.int .i64 x2, .int .i64 x3, .int .i64 x4, .int .i64 x5, .bool x6] : Array Value) = 5 ∧
  stC (p7.add 0) (.int .i64 x2) w8 fun w9 =>
  stC (p7.add 1) (.int .i64 x3) w9 fun w10 =>
  stC (p7.add 2) (.int .i64 x4) w10 fun w11 =>
  stC (p7.add 3) (.int .i64 x5) w11 fun w12 =>
  stC (p7.add 4) (.bool x6) w12 fun w13 =>
  N_l10_TileSpoilt.j28 Q s1 s3 s4 s6 s8 s8n s8c s9 s9n s9c s10 s10n s10c s12 p7 w13) :
N_l10_TileSpoilt.j27 Q s1 s3 s4 s6 s8 s8n s8c s9 s9n s9c s10 s10n s10c s12 w := Nd_fold K_l10_TileSpoilt (by kernel_rfl) h
theorem N_l10_TileSpoilt.j28_eq (Q : Value → World → Prop) (s1 : Addr) (s3 : Int) (s4 : Int) (s6 : Addr) (s8 : Option Addr) (s8n : Nat) (s8c : Nat) (s9 : Option Addr) (s9n : Nat) (s9c : Nat) (s10 : Option Addr) (s10n : Nat) (s10c : Nat) (s12 : Int) (s19 : Addr) (w : World) (h :
  (0 : Int) ≤ s12 ∧
  s12 < ((s9n : Nat) : Int) ∧
  opnA s9 fun ad1 =>
  stC ((ad1.add (Int.toNat s12 * 5)).add 4) (.bool true) w fun w2 =>
  N_l10_TileSpoilt.j29 Q s1 s3 s4 s6 s8 s8n s8c s9 s9n s9c s10 s10n s10c s12 s19 w2) :
N_l10_TileSpoilt.j28 Q s1 s3 s4 s6 s8 s8n s8c s9 s9n s9c s10 s10n s10c s12 s19 w := Nd_fold K_l10_TileSpoilt (by kernel_rfl) h
theorem N_l10_TileSpoilt.j29_eq (Q : Value → World → Prop) (s1 : Addr) (s3 : Int) (s4 : Int) (s6 : Addr) (s8 : Option Addr) (s8n : Nat) (s8c : Nat) (s9 : Option Addr) (s9n : Nat) (s9c : Nat) (s10 : Option Addr) (s10n : Nat) (s10c : Nat) (s12 : Int) (s19 : Addr) (w : World) (h :
  opnI .i64 (w.cell? (s1.add 0)) fun x1 =>
  opnRow w s6 (32 * 1) fun x2 =>
  C_tile_Read #[.int .i64 x1, .int .i64 s4, .int .i64 s3, .agg x2, .slice s9 s9n s9c, .slice s10 s10n s10c, .slice s8 s8n s8c] w fun v3 w4 =>
  opnT (some v3) fun x5 =>
  x5.size = 2 ∧
  opnL (x5[0]?) fun x6 x6n x6c =>
  opnI .i64 (x5[1]?) fun x7 =>
  N_l10_TileSpoilt.j30 Q s1 s3 s4 s6 s8 s8n s8c s9 s9n s9c s10 s10n s10c s12 x7 s19 w4) :
N_l10_TileSpoilt.j29 Q s1 s3 s4 s6 s8 s8n s8c s9 s9n s9c s10 s10n s10c s12 s19 w := Nd_fold K_l10_TileSpoilt (by kernel_rfl) h
theorem N_l10_TileSpoilt.j30_eq (Q : Value → World → Prop) (s1 : Addr) (s3 : Int) (s4 : Int) (s6 : Addr) (s8 : Option Addr) (s8n : Nat) (s8c : Nat) (s9 : Option Addr) (s9n : Nat) (s9c : Nat) (s10 : Option Addr) (s10n : Nat) (s10c : Nat) (s12 : Int) (s17 : Int) (s19 : Addr) (w : World) (h :
  opnI .i64 (w.cell? (s19.add 0)) fun x1 =>
  opnI .i64 (w.cell? (s19.add 1)) fun x2 =>
  opnI .i64 (w.cell? (s19.add 2)) fun x3 =>
  opnI .i64 (w.cell? (s19.add 3)) fun x4 =>
  opnB (w.cell? (s19.add 4)) fun x5 =>
  (0 : Int) ≤ s12 ∧
  s12 < ((s9n : Nat) : Int) ∧
  opnA s9 fun ad6 =>
  Array.size (#[.int .i64 x1, .int .i64 x2, .int .i64 x3, .int .i64 x4, .bool x5] : Array Value) = 5 ∧
  stC ((ad6.add (Int.toNat s12 * 5)).add 0) (.int .i64 x1) w fun w7 =>
  stC ((ad6.add (Int.toNat s12 * 5)).add 1) (.int .i64 x2) w7 fun w8 =>
  stC ((ad6.add (Int.toNat s12 * 5)).add 2) (.int .i64 x3) w8 fun w9 =>
  stC ((ad6.add (Int.toNat s12 * 5)).add 3) (.int .i64 x4) w9 fun w10 =>
  stC ((ad6.add (Int.toNat s12 * 5)).add 4) (.bool x5) w10 fun w11 =>
  N_l10_TileSpoilt.j31 Q s1 s3 s4 s6 s8 s8n s8c s9 s9n s9c s10 s10n s10c s17 w11) :
N_l10_TileSpoilt.j30 Q s1 s3 s4 s6 s8 s8n s8c s9 s9n s9c s10 s10n s10c s12 s17 s19 w := Nd_fold K_l10_TileSpoilt (by kernel_rfl) h
theorem N_l10_TileSpoilt.j31_eq (Q : Value → World → Prop) (s1 : Addr) (s3 : Int) (s4 : Int) (s6 : Addr) (s8 : Option Addr) (s8n : Nat) (s8c : Nat) (s9 : Option Addr) (s9n : Nat) (s9c : Nat) (s10 : Option Addr) (s10n : Nat) (s10c : Nat) (s17 : Int) (w : World) (h :
  opnI .i64 (w.cell? (s1.add 0)) fun x1 =>
  opnRow w s6 (32 * 1) fun x2 =>
  C_tile_Read #[.int .i64 x1, .int .i64 s4, .int .i64 s3, .agg x2, .slice s9 s9n s9c, .slice s10 s10n s10c, .slice s8 s8n s8c] w fun v3 w4 =>
  opnT (some v3) fun x5 =>
  x5.size = 2 ∧
  opnL (x5[0]?) fun x6 x6n x6c =>
  opnI .i64 (x5[1]?) fun x7 =>
  N_l10_TileSpoilt.j32 Q s17 x7 w4) :
N_l10_TileSpoilt.j31 Q s1 s3 s4 s6 s8 s8n s8c s9 s9n s9c s10 s10n s10c s17 w := Nd_fold K_l10_TileSpoilt (by kernel_rfl) h
theorem N_l10_TileSpoilt.j32_eq (Q : Value → World → Prop) (s17 : Int) (s21 : Int) (w : World) (h :
  C_l10_num #[.int .i64 s17] w fun v1 w2 =>
  opnI .i64 (some v1) fun x3 =>
  cond (x3 == 103)
  (C_l10_num #[.int .i64 s21] w2 fun v4 w5 =>
  opnI .i64 (some v4) fun x6 =>
  cond (x6 == 0)
  (Q (.bool true) w5)
  (Q (.bool false) w5))
  (Q (.bool false) w2)) :
N_l10_TileSpoilt.j32 Q s17 s21 w := Nd_fold K_l10_TileSpoilt (by kernel_rfl) h
theorem C_l10_TileSpoilt_eq (Q : Value → World → Prop) (a0_0 : Int) (a0_1 : Int) (a0_2 : Int) (a0_3 : Int) (a0_4 : Option Addr) (a0_4n : Nat) (a0_4c : Nat) (w : World) (h :
  alC #[.int .i64 a0_0, .int .i64 a0_1, .int .i64 a0_2, .int .i64 a0_3, .slice a0_4 a0_4n a0_4c] 53 w fun p1 w2 =>
  opnI .i64 (w2.cell? (p1.add 1)) fun x3 =>
  C_l10_within #[.int .i64 x3, .int .i64 300] w2 fun v4 w5 =>
  opnI .i64 (some v4) fun x6 =>
  opnI .i64 (w5.cell? (p1.add 2)) fun x7 =>
  C_l10_within #[.int .i64 x7, .int .i64 8] w5 fun v8 w9 =>
  opnI .i64 (some v8) fun x10 =>
  opnI .i64 (w9.cell? (p1.add 0)) fun x11 =>
  C_l10_tree #[.int .i64 x11, .int .i64 (IntKind.wrap .i64 (x6 + 1)), .int .u8 2] w9 fun v12 w13 =>
  opnT (some v12) fun x14 =>
  x14.size = 3 ∧
  opnL (x14[0]?) fun x15 x15n x15c =>
  opnG (x14[1]?) fun x16 =>
  opnB (x14[2]?) fun x17 =>
  alZ PP 29 w13 fun p18 w19 =>
  stRow p18 x16 (32 * 1) w19 fun w20 =>
  opnL (w20.cell? (p1.add 4)) fun x21 x21n x21c =>
  C_l10_asked #[.slice x21 x21n x21c, .int .i64 ((x15n : Nat) : Int)] w20 fun v22 w23 =>
  opnL (some v22) fun x24 x24n x24c =>
  C_l10_fetched #[.int .i64 (IntKind.wrap .i64 (x10 + 1)), .int .i64 (IntKind.wrap .i64 (x6 + 1)), .slice x15 x15n x15c, .slice x24 x24n x24c] w23 fun v25 w26 =>
  opnT (some v25) fun x27 =>
  x27.size = 3 ∧
  opnL (x27[0]?) fun x28 x28n x28c =>
  opnL (x27[1]?) fun x29 x29n x29c =>
  opnB (x27[2]?) fun x30 =>
  cond (!x17)
  (N_l10_TileSpoilt.j7 Q w26)
  (cond (!x30)
  (N_l10_TileSpoilt.j7 Q w26)
  (opnI .i64 (w26.cell? (p1.add 3)) fun x31 =>
  C_l10_within #[.int .i64 x31, .int .i64 ((x28n : Nat) : Int)] w26 fun v32 w33 =>
  opnI .i64 (some v32) fun x34 =>
  (0 : Int) ≤ x34 ∧
  x34 < ((x29n : Nat) : Int) ∧
  opnA x29 fun ad35 =>
  opnL (w33.cell? (ad35.add (Int.toNat x34 * 1))) fun x36 x36n x36c =>
  opnI .i64 (w33.cell? (p1.add 3)) fun x37 =>
  64 ≠ (0 : Int) ∧
  C_l10_within #[.int .i64 (IntKind.wrap .i64 (Int.tdiv x37 64)), .int .i64 ((x36n : Nat) : Int)] w33 fun v38 w39 =>
  opnI .i64 (some v38) fun x40 =>
  semR PP (convert 25 9 (.slice x36 x36n x36c)) w39 fun x41 =>
  opnS (some x41) fun x42 =>
  sem PP (convert 9 25 (.string x42)) w39 fun v43 w44 =>
  opnL (some v43) fun x45 x45n x45c =>
  drw w44 fun w46 =>
  (0 : Int) ≤ x40 ∧
  x40 < ((x45n : Nat) : Int) ∧
  opnA x45 fun ad47 =>
  opnI .u8 (w46.cell? (ad47.add (Int.toNat x40 * 1))) fun x48 =>
  opnI .i64 (w46.cell? (p1.add 3)) fun x49 =>
  C_l10_within #[.int .i64 x49, .int .i64 255] w46 fun v50 w51 =>
  opnI .i64 (some v50) fun x52 =>
  (opnI .u8 (w51.cell? (ad47.add (Int.toNat x40 * 1))) fun x53 =>
  ((.int .u8 x53) : Value) = .int .u8 x48) ∧
  (0 : Int) ≤ x40 ∧
  x40 < ((x45n : Nat) : Int) ∧
  opnA x45 fun ad54 =>
  stC (ad54.add (Int.toNat x40 * 1)) (.int .u8 (bits .xor .u8 x48 (IntKind.wrap .u8 (IntKind.wrap .i64 (1 + x52))))) w51 fun w55 =>
  (0 : Int) ≤ x34 ∧
  x34 < ((x29n : Nat) : Int) ∧
  opnA x29 fun ad56 =>
  stC (ad56.add (Int.toNat x34 * 1)) (.slice x45 x45n x45c) w55 fun w57 =>
  opnI .i64 (w57.cell? (p1.add 0)) fun x58 =>
  opnRow w57 p18 (32 * 1) fun x59 =>
  C_tile_Read #[.int .i64 x58, .int .i64 (IntKind.wrap .i64 (x10 + 1)), .int .i64 (IntKind.wrap .i64 (x6 + 1)), .agg x59, .slice x28 x28n x28c, .slice x29 x29n x29c, .slice x24 x24n x24c] w57 fun v60 w61 =>
  opnT (some v60) fun x62 =>
  x62.size = 2 ∧
  opnL (x62[0]?) fun x63 x63n x63c =>
  opnI .i64 (x62[1]?) fun x64 =>
  drw w61 fun w65 =>
  C_l10_num #[.int .i64 x64] w65 fun v66 w67 =>
  opnI .i64 (some v66) fun x68 =>
  cond (x68 != 104)
  (C_l10_num #[.int .i64 x64] w67 fun v69 w70 =>
  opnI .i64 (some v69) fun x71 =>
  cond (x71 != 0)
  (N_l10_TileSpoilt.j16 Q w70)
  ((0 : Int) ≤ x34 ∧
  x34 < ((x28n : Nat) : Int) ∧
  opnA x28 fun ad72 =>
  32 ≠ (0 : Int) ∧
  opnI .i64 (w70.cell? (p1.add 0)) fun x73 =>
  opnRow w70 p18 (32 * 1) fun x74 =>
  opnI .i64 (w70.cell? ((ad72.add (Int.toNat x34 * 5)).add 0)) fun x75 =>
  opnI .i64 (w70.cell? ((ad72.add (Int.toNat x34 * 5)).add 1)) fun x76 =>
  opnI .i64 (w70.cell? ((ad72.add (Int.toNat x34 * 5)).add 2)) fun x77 =>
  opnI .i64 (w70.cell? ((ad72.add (Int.toNat x34 * 5)).add 3)) fun x78 =>
  opnB (w70.cell? ((ad72.add (Int.toNat x34 * 5)).add 4)) fun x79 =>
  C_l10_certain #[.int .i64 x73, .int .i64 (IntKind.wrap .i64 (x6 + 1)), .agg x74, .slice x15 x15n x15c, .agg #[.int .i64 x75, .int .i64 x76, .int .i64 x77, .int .i64 x78, .bool x79], .slice x36 x36n x36c, .slice x45 x45n x45c, .int .i64 (IntKind.wrap .i64 (Int.tdiv x40 32))] w70 fun v80 w81 =>
  opnB (some v80) fun x82 =>
  cond x82
  (N_l10_TileSpoilt.j16 Q w81)
  (N_l10_TileSpoilt.j17 Q p1 (IntKind.wrap .i64 (x6 + 1)) (IntKind.wrap .i64 (x10 + 1)) p18 x24 x24n x24c x28 x28n x28c x29 x29n x29c x34 x36 x36n x36c w81)))
  (N_l10_TileSpoilt.j17 Q p1 (IntKind.wrap .i64 (x6 + 1)) (IntKind.wrap .i64 (x10 + 1)) p18 x24 x24n x24c x28 x28n x28c x29 x29n x29c x34 x36 x36n x36c w67)))) :
C_l10_TileSpoilt #[.agg #[.int .i64 a0_0, .int .i64 a0_1, .int .i64 a0_2, .int .i64 a0_3, .slice a0_4 a0_4n a0_4c]] w Q := C_fold K_l10_TileSpoilt (by kernel_rfl) h
/-! ### ledger/ledgerlaw10.asked -/
noncomputable def B_l10_asked : Code := match Tryd.f26.body with | some c => c | _ => .skip
noncomputable def X_l10_asked : Cx := { P := PP, fn := 26, N := 35, tab := tab, results := [.tmp 4], iter := fun _ => (.none, .none), dyn := fun _ => false, live := fun r => cond (Nat.beq r 3) (some [0, 1, 5, 6]) (cond (Nat.beq r 6) (some [5]) (none)) }
theorem K_l10_asked : OkF X_l10_asked B_l10_asked Tryd.f26 := ⟨⟨tab_ok, mix_ok⟩, Tryd.func26, by kernel_rfl, by kernel_rfl, by kernel_rfl, by kernel_rfl⟩
noncomputable def N_l10_asked.j3 (Q : Value → World → Prop) (s0 : Option Addr) (s0n : Nat) (s0c : Nat) (s1 : Int) (s5 : Option Addr) (s5n : Nat) (s5c : Nat) (s6 : Int) (w : World) : Prop := Nd X_l10_asked Q [(0, 0, .slice s0 s0n s0c), (1, 1, .int .i64 s1), (5, 5, .slice s5 s5n s5c), (6, 6, .int .i64 s6)] [.code (B_l10_asked.r.r.l.r.l.l.l.l), .code (B_l10_asked.r.r.l.r.l.l.l.r), .code (B_l10_asked.r.r.l.r.l.l.r), .inLoop (B_l10_asked.r.r.l.r.l.l), .inBlock 0, .code (B_l10_asked.r.r.r)] w
noncomputable def N_l10_asked.j6 (Q : Value → World → Prop) (s5 : Option Addr) (s5n : Nat) (s5c : Nat) (w : World) : Prop := Nd X_l10_asked Q [(5, 5, .slice s5 s5n s5c)] [.code (B_l10_asked.r.r.r.l), .code (B_l10_asked.r.r.r.r)] w
theorem N_l10_asked.j3_eq (Q : Value → World → Prop) (s0 : Option Addr) (s0n : Nat) (s0c : Nat) (s1 : Int) (s5 : Option Addr) (s5n : Nat) (s5c : Nat) (s6 : Int) (w : World) (h :
  cond (decide (s6 < ((s0n : Nat) : Int)))
  (cond (decide (s6 < 200))
  (cond (decide (s1 > 0))
  ((0 : Int) ≤ s6 ∧
  s6 < ((s0n : Nat) : Int) ∧
  opnA s0 fun ad1 =>
  opnI .i64 (w.cell? (ad1.add (Int.toNat s6 * 1))) fun x2 =>
  s1 ≠ (0 : Int) ∧
  s1 ≠ (0 : Int) ∧
  alC #[.int .i64 (Int.tmod (IntKind.wrap .i64 ((Int.tmod x2 s1) + s1)) s1)] 2 w fun p3 w4 =>
  sem PP (Builtin.append_ #[51, 51] 51 #[.slice s5 s5n s5c, .slice (some p3) 1 1]) w4 fun v5 w6 =>
  opnL (some v5) fun x7 x7n x7c =>
  N_l10_asked.j3 Q s0 s0n s0c s1 x7 x7n x7c (IntKind.wrap .i64 (s6 + 1)) w6)
  (N_l10_asked.j6 Q s5 s5n s5c w))
  (N_l10_asked.j6 Q s5 s5n s5c w))
  (N_l10_asked.j6 Q s5 s5n s5c w)) :
N_l10_asked.j3 Q s0 s0n s0c s1 s5 s5n s5c s6 w := Nd_fold K_l10_asked (by kernel_rfl) h
theorem N_l10_asked.j6_eq (Q : Value → World → Prop) (s5 : Option Addr) (s5n : Nat) (s5c : Nat) (w : World) (h :
  Q (.slice s5 s5n s5c) w) :
N_l10_asked.j6 Q s5 s5n s5c w := Nd_fold K_l10_asked (by kernel_rfl) h
theorem C_l10_asked_eq (Q : Value → World → Prop) (a0 : Option Addr) (a0n : Nat) (a0c : Nat) (a1 : Int) (w : World) (h :
  N_l10_asked.j3 Q a0 a0n a0c a1 none 0 0 0 w) :
C_l10_asked #[.slice a0 a0n a0c, .int .i64 a1] w Q := C_fold K_l10_asked (by kernel_rfl) h
/-! ### ledger/ledgerlaw10.fetched -/
noncomputable def B_l10_fetched : Code := match Tryd.f27.body with | some c => c | _ => .skip
noncomputable def X_l10_fetched : Cx := { P := PP, fn := 27, N := 71, tab := tab, results := [.tmp 8, .tmp 9, .tmp 10], iter := fun _ => (.none, .none), dyn := fun _ => false, live := fun r => cond (Nat.beq r 4) (some [1, 2, 11, 12, 13, 14]) (cond (Nat.beq r 8) (some []) (none)) }
theorem K_l10_fetched : OkF X_l10_fetched B_l10_fetched Tryd.f27 := ⟨⟨tab_ok, mix_ok⟩, Tryd.func27, by kernel_rfl, by kernel_rfl, by kernel_rfl, by kernel_rfl⟩
noncomputable def N_l10_fetched.j4 (Q : Value → World → Prop) (s1 : Int) (s2 : Option Addr) (s2n : Nat) (s2c : Nat) (s11 : Option Addr) (s11n : Nat) (s11c : Nat) (s12 : Int) (s13 : Option Addr) (s13n : Nat) (s13c : Nat) (s14 : Int) (w : World) : Prop := Nd X_l10_fetched Q [(1, 1, .int .i64 s1), (2, 2, .slice s2 s2n s2c), (11, 11, .slice s11 s11n s11c), (12, 12, .int .i64 s12), (13, 13, .slice s13 s13n s13c), (14, 14, .int .i64 s14)] [.code (B_l10_fetched.r.r.r.l.r.l.l.l.l), .code (B_l10_fetched.r.r.r.l.r.l.l.l.r), .code (B_l10_fetched.r.r.r.l.r.l.l.r), .inLoop (B_l10_fetched.r.r.r.l.r.l.l), .inBlock 0, .code (B_l10_fetched.r.r.r.r)] w
noncomputable def N_l10_fetched.j8 (Q : Value → World → Prop) (w : World) : Prop := Nd X_l10_fetched Q [] [.code (B_l10_fetched.r.r.r.l.r.l.l.r.l.l.r.l.r.l.l), .code (B_l10_fetched.r.r.r.l.r.l.l.r.l.l.r.l.r.l.r), .code (B_l10_fetched.r.r.r.l.r.l.l.r.l.l.r.r), .inBlock 1, .code (B_l10_fetched.r.r.r.l.r.l.l.r.r), .inLoop (B_l10_fetched.r.r.r.l.r.l.l), .inBlock 0, .code (B_l10_fetched.r.r.r.r)] w
theorem N_l10_fetched.j4_eq (Q : Value → World → Prop) (s1 : Int) (s2 : Option Addr) (s2n : Nat) (s2c : Nat) (s11 : Option Addr) (s11n : Nat) (s11c : Nat) (s12 : Int) (s13 : Option Addr) (s13n : Nat) (s13c : Nat) (s14 : Int) (w : World) (h :
  cond (decide (s14 < ((s11n : Nat) : Int)))
  ((0 : Int) ≤ s14 ∧
  s14 < ((s11n : Nat) : Int) ∧
  opnA s11 fun ad1 =>
  opnI .i64 (w.cell? ((ad1.add (Int.toNat s14 * 5)).add 0)) fun x2 =>
  opnI .i64 (w.cell? ((ad1.add (Int.toNat s14 * 5)).add 1)) fun x3 =>
  opnI .i64 (w.cell? ((ad1.add (Int.toNat s14 * 5)).add 2)) fun x4 =>
  opnI .i64 (w.cell? ((ad1.add (Int.toNat s14 * 5)).add 3)) fun x5 =>
  opnB (w.cell? ((ad1.add (Int.toNat s14 * 5)).add 4)) fun x6 =>
  C_tile_FromTree #[.slice s2 s2n s2c, .agg #[.int .i64 x2, .int .i64 x3, .int .i64 x4, .int .i64 x5, .bool x6]] w fun v7 w8 =>
  opnT (some v7) fun x9 =>
  x9.size = 2 ∧
  opnL (x9[0]?) fun x10 x10n x10c =>
  opnI .i64 (x9[1]?) fun x11 =>
  C_l10_num #[.int .i64 x11] w8 fun v12 w13 =>
  opnI .i64 (some v12) fun x14 =>
  cond (x14 != 0)
  (N_l10_fetched.j8 Q w13)
  ((0 : Int) ≤ s14 ∧
  s14 < ((s11n : Nat) : Int) ∧
  opnA s11 fun ad15 =>
  opnI .i64 (w13.cell? ((ad15.add (Int.toNat s14 * 5)).add 3)) fun x16 =>
  cond (((x10n : Nat) : Int) != (IntKind.wrap .i64 (32 * x16)))
  (N_l10_fetched.j8 Q w13)
  (alC #[.slice x10 x10n x10c] 25 w13 fun p17 w18 =>
  sem PP (Builtin.append_ #[41, 41] 41 #[.slice s13 s13n s13c, .slice (some p17) 1 1]) w18 fun v19 w20 =>
  opnL (some v19) fun x21 x21n x21c =>
  N_l10_fetched.j4 Q s1 s2 s2n s2c s11 s11n s11c s12 x21 x21n x21c (IntKind.wrap .i64 (s14 + 1)) w20)))
  (C_l10_num #[.int .i64 s12] w fun v22 w23 =>
  opnI .i64 (some v22) fun x24 =>
  cond (x24 == 0)
  (cond (s1 == 0)
  (Q (.tuple #[.slice s11 s11n s11c, .slice s13 s13n s13c, .bool true]) w23)
  (Q (.tuple #[.slice s11 s11n s11c, .slice s13 s13n s13c, .bool (decide (((s11n : Nat) : Int) > 0))]) w23))
  (Q (.tuple #[.slice s11 s11n s11c, .slice s13 s13n s13c, .bool false]) w23))) :
N_l10_fetched.j4 Q s1 s2 s2n s2c s11 s11n s11c s12 s13 s13n s13c s14 w := Nd_fold K_l10_fetched (by kernel_rfl) h
theorem N_l10_fetched.j8_eq (Q : Value → World → Prop) (w : World) (h :
  Q (.tuple #[.slice none 0 0, .slice none 0 0, .bool false]) w) :
N_l10_fetched.j8 Q w := Nd_fold K_l10_fetched (by kernel_rfl) h
theorem C_l10_fetched_eq (Q : Value → World → Prop) (a0 : Int) (a1 : Int) (a2 : Option Addr) (a2n : Nat) (a2c : Nat) (a3 : Option Addr) (a3n : Nat) (a3c : Nat) (w : World) (h :
  C_tile_Plan #[.int .i64 a0, .int .i64 a1, .slice a3 a3n a3c] w fun v1 w2 =>
  opnT (some v1) fun x3 =>
  x3.size = 2 ∧
  opnL (x3[0]?) fun x4 x4n x4c =>
  opnI .i64 (x3[1]?) fun x5 =>
  N_l10_fetched.j4 Q a1 a2 a2n a2c x4 x4n x4c x5 none 0 0 0 w2) :
C_l10_fetched #[.int .i64 a0, .int .i64 a1, .slice a2 a2n a2c, .slice a3 a3n a3c] w Q := C_fold K_l10_fetched (by kernel_rfl) h
/-! ### ledger/tile.Read -/
noncomputable def B_tile_Read : Code := match Tryd.f28.body with | some c => c | _ => .skip
noncomputable def X_tile_Read : Cx := { P := PP, fn := 28, N := 148, tab := tab, results := [.tmp 14, .tmp 15], iter := fun _ => (.none, .none), dyn := fun _ => false, live := fun r => cond (Nat.beq r 10) (some [0, 1, 2, 5, 6, 10, 16, 18, 48, 49, 50]) (cond (Nat.beq r 14) (some [0, 1, 2, 5, 6, 10, 16, 18, 48, 49, 50]) (cond (Nat.beq r 17) (some [0, 1, 2, 5, 6, 10, 16, 18, 21, 69, 70, 71]) (cond (Nat.beq r 30) (some [0, 1, 6, 21, 111, 112, 113]) (cond (Nat.beq r 34) (some [0, 1, 6, 21, 111, 112, 113]) (none))))) }
theorem K_tile_Read : OkF X_tile_Read B_tile_Read Tryd.f28 := ⟨⟨tab_ok, mix_ok⟩, Tryd.func28, by kernel_rfl, by kernel_rfl, by kernel_rfl, by kernel_rfl⟩
noncomputable def N_tile_Read.j10 (Q : Value → World → Prop) (s0 : Int) (s1 : Int) (s2 : Int) (s5 : Option Addr) (s5n : Nat) (s5c : Nat) (s6 : Option Addr) (s6n : Nat) (s6c : Nat) (s10 : Addr) (s16 : Option Addr) (s16n : Nat) (s16c : Nat) (s18 : Option Nat) (s48 : Option Addr) (s48n : Nat) (s48c : Nat) (s49 : Int) (s50 : Int) (w : World) : Prop := Nd X_tile_Read Q [(0, 0, .int .i64 s0), (1, 1, .int .i64 s1), (2, 2, .int .i64 s2), (5, 5, .slice s5 s5n s5c), (6, 6, .slice s6 s6n s6c), (10, 10, .pointer (some s10)), (16, 16, .slice s16 s16n s16c), (18, 18, .map s18), (48, 48, .slice s48 s48n s48c), (49, 49, .int .i64 s49), (50, 50, .int .i64 s50)] [.code (B_tile_Read.r.r.r.r.r.r.l.r.l.l.l), .code (B_tile_Read.r.r.r.r.r.r.l.r.l.l.r), .inLoop (B_tile_Read.r.r.r.r.r.r.l.r.l.l), .inBlock 0, .code (B_tile_Read.r.r.r.r.r.r.r)] w
noncomputable def N_tile_Read.j14 (Q : Value → World → Prop) (s0 : Int) (s1 : Int) (s2 : Int) (s5 : Option Addr) (s5n : Nat) (s5c : Nat) (s6 : Option Addr) (s6n : Nat) (s6c : Nat) (s10 : Addr) (s16 : Option Addr) (s16n : Nat) (s16c : Nat) (s18 : Option Nat) (s48 : Option Addr) (s48n : Nat) (s48c : Nat) (s49 : Int) (s50 : Int) (w : World) : Prop := Nd X_tile_Read Q [(0, 0, .int .i64 s0), (1, 1, .int .i64 s1), (2, 2, .int .i64 s2), (5, 5, .slice s5 s5n s5c), (6, 6, .slice s6 s6n s6c), (10, 10, .pointer (some s10)), (16, 16, .slice s16 s16n s16c), (18, 18, .map s18), (48, 48, .slice s48 s48n s48c), (49, 49, .int .i64 s49), (50, 50, .int .i64 s50)] [.code (B_tile_Read.r.r.r.r.r.r.l.r.l.l.r.r.r), .inLoop (B_tile_Read.r.r.r.r.r.r.l.r.l.l), .inBlock 0, .code (B_tile_Read.r.r.r.r.r.r.r)] w
noncomputable def N_tile_Read.j17 (Q : Value → World → Prop) (s0 : Int) (s1 : Int) (s2 : Int) (s5 : Option Addr) (s5n : Nat) (s5c : Nat) (s6 : Option Addr) (s6n : Nat) (s6c : Nat) (s10 : Addr) (s16 : Option Addr) (s16n : Nat) (s16c : Nat) (s18 : Option Nat) (s21 : Addr) (s69 : Option Addr) (s69n : Nat) (s69c : Nat) (s70 : Int) (s71 : Int) (w : World) : Prop := Nd X_tile_Read Q [(0, 0, .int .i64 s0), (1, 1, .int .i64 s1), (2, 2, .int .i64 s2), (5, 5, .slice s5 s5n s5c), (6, 6, .slice s6 s6n s6c), (10, 10, .pointer (some s10)), (16, 16, .slice s16 s16n s16c), (18, 18, .map s18), (21, 21, .pointer (some s21)), (69, 69, .slice s69 s69n s69c), (70, 70, .int .i64 s70), (71, 71, .int .i64 s71)] [.code (B_tile_Read.r.r.r.r.r.r.r.r.l.r.l.l.l), .code (B_tile_Read.r.r.r.r.r.r.r.r.l.r.l.l.r), .inLoop (B_tile_Read.r.r.r.r.r.r.r.r.l.r.l.l), .inBlock 2, .code (B_tile_Read.r.r.r.r.r.r.r.r.r)] w
noncomputable def N_tile_Read.j30 (Q : Value → World → Prop) (s0 : Int) (s1 : Int) (s6 : Option Addr) (s6n : Nat) (s6c : Nat) (s21 : Addr) (s111 : Option Addr) (s111n : Nat) (s111c : Nat) (s112 : Int) (s113 : Int) (w : World) : Prop := Nd X_tile_Read Q [(0, 0, .int .i64 s0), (1, 1, .int .i64 s1), (6, 6, .slice s6 s6n s6c), (21, 21, .pointer (some s21)), (111, 111, .slice s111 s111n s111c), (112, 112, .int .i64 s112), (113, 113, .int .i64 s113)] [.code (B_tile_Read.r.r.r.r.r.r.r.r.r.r.r.l.r.l.l.l), .code (B_tile_Read.r.r.r.r.r.r.r.r.r.r.r.l.r.l.l.r), .inLoop (B_tile_Read.r.r.r.r.r.r.r.r.r.r.r.l.r.l.l), .inBlock 4, .code (B_tile_Read.r.r.r.r.r.r.r.r.r.r.r.r)] w
noncomputable def N_tile_Read.j34 (Q : Value → World → Prop) (s0 : Int) (s1 : Int) (s6 : Option Addr) (s6n : Nat) (s6c : Nat) (s21 : Addr) (s111 : Option Addr) (s111n : Nat) (s111c : Nat) (s112 : Int) (s113 : Int) (w : World) : Prop := Nd X_tile_Read Q [(0, 0, .int .i64 s0), (1, 1, .int .i64 s1), (6, 6, .slice s6 s6n s6c), (21, 21, .pointer (some s21)), (111, 111, .slice s111 s111n s111c), (112, 112, .int .i64 s112), (113, 113, .int .i64 s113)] [.code (B_tile_Read.r.r.r.r.r.r.r.r.r.r.r.l.r.l.l.r.r.r), .inLoop (B_tile_Read.r.r.r.r.r.r.r.r.r.r.r.l.r.l.l), .inBlock 4, .code (B_tile_Read.r.r.r.r.r.r.r.r.r.r.r.r)] w
theorem N_tile_Read.j10_eq (Q : Value → World → Prop) (s0 : Int) (s1 : Int) (s2 : Int) (s5 : Option Addr) (s5n : Nat) (s5c : Nat) (s6 : Option Addr) (s6n : Nat) (s6c : Nat) (s10 : Addr) (s16 : Option Addr) (s16n : Nat) (s16c : Nat) (s18 : Option Nat) (s48 : Option Addr) (s48n : Nat) (s48c : Nat) (s49 : Int) (s50 : Int) (w : World) (h :
  cond (decide (s50 < s49))
  ((0 : Int) ≤ s50 ∧
  s50 < ((s48n : Nat) : Int) ∧
  opnA s48 fun ad1 =>
  opnI .i64 (w.cell? ((ad1.add (Int.toNat s50 * 5)).add 0)) fun x2 =>
  opnI .i64 (w.cell? ((ad1.add (Int.toNat s50 * 5)).add 1)) fun x3 =>
  opnI .i64 (w.cell? ((ad1.add (Int.toNat s50 * 5)).add 2)) fun x4 =>
  opnI .i64 (w.cell? ((ad1.add (Int.toNat s50 * 5)).add 3)) fun x5 =>
  opnB (w.cell? ((ad1.add (Int.toNat s50 * 5)).add 4)) fun x6 =>
  alC #[.int .i64 0, .int .i64 0, .int .i64 0, .int .i64 0, .bool false] 24 w fun p7 w8 =>
  Array.size (#[.int .i64 x2, .int .i64 x3, .int .i64 x4, .int .i64 x5, .bool x6] : Array Value) = 5 ∧
  stC (p7.add 0) (.int .i64 x2) w8 fun w9 =>
  stC (p7.add 1) (.int .i64 x3) w9 fun w10 =>
  stC (p7.add 2) (.int .i64 x4) w10 fun w11 =>
  stC (p7.add 3) (.int .i64 x5) w11 fun w12 =>
  stC (p7.add 4) (.bool x6) w12 fun w13 =>
  opnI .i64 (w13.cell? (p7.add 0)) fun x14 =>
  opnI .i64 (w13.cell? (p7.add 1)) fun x15 =>
  opnI .i64 (w13.cell? (p7.add 2)) fun x16 =>
  opnI .i64 (w13.cell? (p7.add 3)) fun x17 =>
  opnB (w13.cell? (p7.add 4)) fun x18 =>
  semR PP (Instr.lookup 103 (.map s18) (.agg #[.int .i64 x14, .int .i64 x15, .int .i64 x16, .int .i64 x17, .bool x18]) false) w13 fun x19 =>
  opnI .i64 (some x19) fun x20 =>
  cond (x20 == 0)
  (opnI .i64 (w13.cell? (p7.add 0)) fun x21 =>
  opnI .i64 (w13.cell? (p7.add 1)) fun x22 =>
  opnI .i64 (w13.cell? (p7.add 2)) fun x23 =>
  opnI .i64 (w13.cell? (p7.add 3)) fun x24 =>
  opnB (w13.cell? (p7.add 4)) fun x25 =>
  semU PP (Instr.mapUpdate 103 (.map s18) (.agg #[.int .i64 x21, .int .i64 x22, .int .i64 x23, .int .i64 x24, .bool x25]) (.int .i64 (IntKind.wrap .i64 (s50 + 1)))) w13 fun w26 =>
  N_tile_Read.j14 Q s0 s1 s2 s5 s5n s5c s6 s6n s6c s10 s16 s16n s16c s18 s48 s48n s48c s49 s50 w26)
  (N_tile_Read.j14 Q s0 s1 s2 s5 s5n s5c s6 s6n s6c s10 s16 s16n s16c s18 s48 s48n s48c s49 s50 w13))
  (alM w fun r27 w28 =>
  alC #[.int .i64 0, .int .i64 0, .int .i64 0, .map none] 106 w28 fun p29 w30 =>
  Array.size (#[.int .i64 s0, .int .i64 s1, .int .i64 s2, .map (some r27)] : Array Value) = 4 ∧
  stC (p29.add 0) (.int .i64 s0) w30 fun w31 =>
  stC (p29.add 1) (.int .i64 s1) w31 fun w32 =>
  stC (p29.add 2) (.int .i64 s2) w32 fun w33 =>
  stC (p29.add 3) (.map (some r27)) w33 fun w34 =>
  N_tile_Read.j17 Q s0 s1 s2 s5 s5n s5c s6 s6n s6c s10 s16 s16n s16c s18 p29 s16 s16n s16c ((s16n : Nat) : Int) 0 w34)) :
N_tile_Read.j10 Q s0 s1 s2 s5 s5n s5c s6 s6n s6c s10 s16 s16n s16c s18 s48 s48n s48c s49 s50 w := Nd_fold K_tile_Read (by kernel_rfl) h
theorem N_tile_Read.j14_eq (Q : Value → World → Prop) (s0 : Int) (s1 : Int) (s2 : Int) (s5 : Option Addr) (s5n : Nat) (s5c : Nat) (s6 : Option Addr) (s6n : Nat) (s6c : Nat) (s10 : Addr) (s16 : Option Addr) (s16n : Nat) (s16c : Nat) (s18 : Option Nat) (s48 : Option Addr) (s48n : Nat) (s48c : Nat) (s49 : Int) (s50 : Int) (w : World) (h :
  N_tile_Read.j10 Q s0 s1 s2 s5 s5n s5c s6 s6n s6c s10 s16 s16n s16c s18 s48 s48n s48c s49 (IntKind.wrap .i64 (s50 + 1)) w) :
N_tile_Read.j14 Q s0 s1 s2 s5 s5n s5c s6 s6n s6c s10 s16 s16n s16c s18 s48 s48n s48c s49 s50 w := Nd_fold K_tile_Read (by kernel_rfl) h
theorem N_tile_Read.j17_eq (Q : Value → World → Prop) (s0 : Int) (s1 : Int) (s2 : Int) (s5 : Option Addr) (s5n : Nat) (s5c : Nat) (s6 : Option Addr) (s6n : Nat) (s6c : Nat) (s10 : Addr) (s16 : Option Addr) (s16n : Nat) (s16c : Nat) (s18 : Option Nat) (s21 : Addr) (s69 : Option Addr) (s69n : Nat) (s69c : Nat) (s70 : Int) (s71 : Int) (w : World) (h :
  cond (decide (s71 < s70))
  ((0 : Int) ≤ s71 ∧
  s71 < ((s69n : Nat) : Int) ∧
  opnA s69 fun ad1 =>
  opnI .i64 (w.cell? ((ad1.add (Int.toNat s71 * 5)).add 0)) fun x2 =>
  opnI .i64 (w.cell? ((ad1.add (Int.toNat s71 * 5)).add 1)) fun x3 =>
  opnI .i64 (w.cell? ((ad1.add (Int.toNat s71 * 5)).add 2)) fun x4 =>
  opnI .i64 (w.cell? ((ad1.add (Int.toNat s71 * 5)).add 3)) fun x5 =>
  opnB (w.cell? ((ad1.add (Int.toNat s71 * 5)).add 4)) fun x6 =>
  alC #[.int .i64 0, .int .i64 0, .int .i64 0, .int .i64 0, .bool false] 24 w fun p7 w8 =>
  Array.size (#[.int .i64 x2, .int .i64 x3, .int .i64 x4, .int .i64 x5, .bool x6] : Array Value) = 5 ∧
  stC (p7.add 0) (.int .i64 x2) w8 fun w9 =>
  stC (p7.add 1) (.int .i64 x3) w9 fun w10 =>
  stC (p7.add 2) (.int .i64 x4) w10 fun w11 =>
  stC (p7.add 3) (.int .i64 x5) w11 fun w12 =>
  stC (p7.add 4) (.bool x6) w12 fun w13 =>
  opnI .i64 (w13.cell? (p7.add 0)) fun x14 =>
  opnI .i64 (w13.cell? (p7.add 1)) fun x15 =>
  opnI .i64 (w13.cell? (p7.add 2)) fun x16 =>
  opnI .i64 (w13.cell? (p7.add 3)) fun x17 =>
  opnB (w13.cell? (p7.add 4)) fun x18 =>
  semR PP (Instr.lookup 103 (.map s18) (.agg #[.int .i64 x14, .int .i64 x15, .int .i64 x16, .int .i64 x17, .bool x18]) false) w13 fun x19 =>
  opnI .i64 (some x19) fun x20 =>
  cond (x20 == 0)
  (Q (.tuple #[.slice none 0 0, .int .i64 103]) w13)
  (drw w13 fun w21 =>
  (0 : Int) ≤ IntKind.wrap .i64 (x20 - 1) ∧
  (IntKind.wrap .i64 (x20 - 1)) < ((s5n : Nat) : Int) ∧
  opnA s5 fun ad22 =>
  opnL (w21.cell? (ad22.add (Int.toNat (IntKind.wrap .i64 (x20 - 1)) * 1))) fun x23 x23n x23c =>
  opnI .i64 (w21.cell? (p7.add 3)) fun x24 =>
  cond (((x23n : Nat) : Int) != (IntKind.wrap .i64 (32 * x24)))
  (Q (.tuple #[.slice none 0 0, .int .i64 102]) w21)
  (drw w21 fun w25 =>
  (0 : Int) ≤ IntKind.wrap .i64 (x20 - 1) ∧
  (IntKind.wrap .i64 (x20 - 1)) < ((s5n : Nat) : Int) ∧
  opnA s5 fun ad26 =>
  opnM (w25.cell? (s21.add 3)) fun x27 =>
  opnI .i64 (w25.cell? (p7.add 0)) fun x28 =>
  opnI .i64 (w25.cell? (p7.add 1)) fun x29 =>
  opnI .i64 (w25.cell? (p7.add 2)) fun x30 =>
  opnI .i64 (w25.cell? (p7.add 3)) fun x31 =>
  opnB (w25.cell? (p7.add 4)) fun x32 =>
  opnL (w25.cell? (ad26.add (Int.toNat (IntKind.wrap .i64 (x20 - 1)) * 1))) fun x33 x33n x33c =>
  semU PP (Instr.mapUpdate 104 (.map x27) (.agg #[.int .i64 x28, .int .i64 x29, .int .i64 x30, .int .i64 x31, .bool x32]) (.slice x33 x33n x33c)) w25 fun w34 =>
  N_tile_Read.j17 Q s0 s1 s2 s5 s5n s5c s6 s6n s6c s10 s16 s16n s16c s18 s21 s69 s69n s69c s70 (IntKind.wrap .i64 (s71 + 1)) w34)))
  (C_tlog_Peaks #[.int .i64 s2] w fun v35 w36 =>
  opnT (some v35) fun x37 =>
  x37.size = 2 ∧
  opnL (x37[0]?) fun x38 x38n x38c =>
  opnI .i64 (x37[1]?) fun x39 =>
  drw w36 fun w40 =>
  opnI .i64 (w40.cell? (s21.add 0)) fun x41 =>
  opnI .i64 (w40.cell? (s21.add 1)) fun x42 =>
  opnI .i64 (w40.cell? (s21.add 2)) fun x43 =>
  opnM (w40.cell? (s21.add 3)) fun x44 =>
  opnRow w40 s10 (32 * 1) fun x45 =>
  C_tile_shelf_hashes #[.agg #[.int .i64 x41, .int .i64 x42, .int .i64 x43, .map x44], .slice x38 x38n x38c] w40 fun v46 w47 =>
  opnL (some v46) fun x48 x48n x48c =>
  (opnRow w47 s10 (32 * 1) fun x49 =>
  ((.agg x49) : Value) = .agg x45) ∧
  C_tlog_Fold #[.int .i64 s0, .slice x48 x48n x48c] w47 fun v50 w51 =>
  opnG (some v50) fun x52 =>
  (opnRow w51 s10 (32 * 1) fun x53 =>
  ((.agg x53) : Value) = .agg x45) ∧
  semR PP (do eqGuard .neq 29 (.tmp 108) (.tmp 109) (.agg x52) (.agg x45); binOp .neq 29 (.agg x52) (.agg x45)) w51 fun x54 =>
  opnB (some x54) fun x55 =>
  cond x55
  (Q (.tuple #[.slice none 0 0, .int .i64 104]) w51)
  (N_tile_Read.j30 Q s0 s1 s6 s6n s6c s21 s16 s16n s16c ((s16n : Nat) : Int) 0 w51))) :
N_tile_Read.j17 Q s0 s1 s2 s5 s5n s5c s6 s6n s6c s10 s16 s16n s16c s18 s21 s69 s69n s69c s70 s71 w := Nd_fold K_tile_Read (by kernel_rfl) h
theorem N_tile_Read.j30_eq (Q : Value → World → Prop) (s0 : Int) (s1 : Int) (s6 : Option Addr) (s6n : Nat) (s6c : Nat) (s21 : Addr) (s111 : Option Addr) (s111n : Nat) (s111c : Nat) (s112 : Int) (s113 : Int) (w : World) (h :
  cond (decide (s113 < s112))
  ((0 : Int) ≤ s113 ∧
  s113 < ((s111n : Nat) : Int) ∧
  opnA s111 fun ad1 =>
  opnI .i64 (w.cell? ((ad1.add (Int.toNat s113 * 5)).add 0)) fun x2 =>
  opnI .i64 (w.cell? ((ad1.add (Int.toNat s113 * 5)).add 1)) fun x3 =>
  opnI .i64 (w.cell? ((ad1.add (Int.toNat s113 * 5)).add 2)) fun x4 =>
  opnI .i64 (w.cell? ((ad1.add (Int.toNat s113 * 5)).add 3)) fun x5 =>
  opnB (w.cell? ((ad1.add (Int.toNat s113 * 5)).add 4)) fun x6 =>
  alC #[.int .i64 0, .int .i64 0, .int .i64 0, .int .i64 0, .bool false] 24 w fun p7 w8 =>
  Array.size (#[.int .i64 x2, .int .i64 x3, .int .i64 x4, .int .i64 x5, .bool x6] : Array Value) = 5 ∧
  stC (p7.add 0) (.int .i64 x2) w8 fun w9 =>
  stC (p7.add 1) (.int .i64 x3) w9 fun w10 =>
  stC (p7.add 2) (.int .i64 x4) w10 fun w11 =>
  stC (p7.add 3) (.int .i64 x5) w11 fun w12 =>
  stC (p7.add 4) (.bool x6) w12 fun w13 =>
  drw w13 fun w14 =>
  opnI .i64 (w14.cell? (p7.add 3)) fun x15 =>
  C_tile_full #[.int .i64 s1] w14 fun v16 w17 =>
  opnI .i64 (some v16) fun x18 =>
  (opnI .i64 (w17.cell? (p7.add 3)) fun x19 =>
  ((.int .i64 x19) : Value) = .int .i64 x15) ∧
  cond (x15 == x18)
  (opnI .i64 (w17.cell? (p7.add 1)) fun x20 =>
  cond (decide ((IntKind.wrap .i64 (s1 * (IntKind.wrap .i64 (x20 + 1)))) ≤ 48))
  (opnM (w17.cell? (s21.add 3)) fun x21 =>
  opnI .i64 (w17.cell? (p7.add 0)) fun x22 =>
  opnI .i64 (w17.cell? (p7.add 1)) fun x23 =>
  opnI .i64 (w17.cell? (p7.add 2)) fun x24 =>
  opnI .i64 (w17.cell? (p7.add 3)) fun x25 =>
  opnB (w17.cell? (p7.add 4)) fun x26 =>
  semR PP (Instr.lookup 104 (.map x21) (.agg #[.int .i64 x22, .int .i64 x23, .int .i64 x24, .int .i64 x25, .bool x26]) false) w17 fun x27 =>
  opnL (some x27) fun x28 x28n x28c =>
  opnI .i64 (w17.cell? (s21.add 0)) fun x29 =>
  opnI .i64 (w17.cell? (s21.add 1)) fun x30 =>
  opnI .i64 (w17.cell? (s21.add 2)) fun x31 =>
  opnM (w17.cell? (s21.add 3)) fun x32 =>
  opnI .i64 (w17.cell? (p7.add 0)) fun x33 =>
  opnI .i64 (w17.cell? (p7.add 1)) fun x34 =>
  opnI .i64 (w17.cell? (p7.add 2)) fun x35 =>
  opnI .i64 (w17.cell? (p7.add 3)) fun x36 =>
  opnB (w17.cell? (p7.add 4)) fun x37 =>
  C_tile_joined #[.int .i64 s0, .slice x28 x28n x28c, .int .i64 0, .int .i64 s1] w17 fun v38 w39 =>
  opnG (some v38) fun x40 =>
  (opnI .i64 (w39.cell? (p7.add 0)) fun x41 =>
  opnI .i64 (w39.cell? (p7.add 1)) fun x42 =>
  opnI .i64 (w39.cell? (p7.add 2)) fun x43 =>
  opnI .i64 (w39.cell? (p7.add 3)) fun x44 =>
  opnB (w39.cell? (p7.add 4)) fun x45 =>
  ((.agg #[.int .i64 x41, .int .i64 x42, .int .i64 x43, .int .i64 x44, .bool x45]) : Value) = .agg #[.int .i64 x33, .int .i64 x34, .int .i64 x35, .int .i64 x36, .bool x37]) ∧
  (opnI .i64 (w39.cell? (s21.add 0)) fun x46 =>
  opnI .i64 (w39.cell? (s21.add 1)) fun x47 =>
  opnI .i64 (w39.cell? (s21.add 2)) fun x48 =>
  opnM (w39.cell? (s21.add 3)) fun x49 =>
  ((.agg #[.int .i64 x46, .int .i64 x47, .int .i64 x48, .map x49]) : Value) = .agg #[.int .i64 x29, .int .i64 x30, .int .i64 x31, .map x32]) ∧
  C_tile_topOf #[.agg #[.int .i64 x33, .int .i64 x34, .int .i64 x35, .int .i64 x36, .bool x37]] w39 fun v50 w51 =>
  opnI .i64 (some v50) fun x52 =>
  (opnI .i64 (w51.cell? (s21.add 0)) fun x53 =>
  opnI .i64 (w51.cell? (s21.add 1)) fun x54 =>
  opnI .i64 (w51.cell? (s21.add 2)) fun x55 =>
  opnM (w51.cell? (s21.add 3)) fun x56 =>
  ((.agg #[.int .i64 x53, .int .i64 x54, .int .i64 x55, .map x56]) : Value) = .agg #[.int .i64 x29, .int .i64 x30, .int .i64 x31, .map x32]) ∧
  C_tile_shelf_hash #[.agg #[.int .i64 x29, .int .i64 x30, .int .i64 x31, .map x32], .int .i64 x52] w51 fun v57 w58 =>
  opnG (some v57) fun x59 =>
  semR PP (do eqGuard .neq 29 (.tmp 137) (.tmp 141) (.agg x40) (.agg x59); binOp .neq 29 (.agg x40) (.agg x59)) w58 fun x60 =>
  opnB (some x60) fun x61 =>
  cond x61
  (Q (.tuple #[.slice none 0 0, .int .i64 104]) w58)
  (N_tile_Read.j34 Q s0 s1 s6 s6n s6c s21 s111 s111n s111c s112 s113 w58))
  (N_tile_Read.j34 Q s0 s1 s6 s6n s6c s21 s111 s111n s111c s112 s113 w17))
  (N_tile_Read.j34 Q s0 s1 s6 s6n s6c s21 s111 s111n s111c s112 s113 w17))
  (opnI .i64 (w.cell? (s21.add 0)) fun x62 =>
  opnI .i64 (w.cell? (s21.add 1)) fun x63 =>
  opnI .i64 (w.cell? (s21.add 2)) fun x64 =>
  opnM (w.cell? (s21.add 3)) fun x65 =>
  C_tile_shelf_hashes #[.agg #[.int .i64 x62, .int .i64 x63, .int .i64 x64, .map x65], .slice s6 s6n s6c] w fun v66 w67 =>
  opnL (some v66) fun x68 x68n x68c =>
  Q (.tuple #[.slice x68 x68n x68c, .int .i64 0]) w67)) :
N_tile_Read.j30 Q s0 s1 s6 s6n s6c s21 s111 s111n s111c s112 s113 w := Nd_fold K_tile_Read (by kernel_rfl) h
theorem N_tile_Read.j34_eq (Q : Value → World → Prop) (s0 : Int) (s1 : Int) (s6 : Option Addr) (s6n : Nat) (s6c : Nat) (s21 : Addr) (s111 : Option Addr) (s111n : Nat) (s111c : Nat) (s112 : Int) (s113 : Int) (w : World) (h :
  N_tile_Read.j30 Q s0 s1 s6 s6n s6c s21 s111 s111n s111c s112 (IntKind.wrap .i64 (s113 + 1)) w) :
N_tile_Read.j34 Q s0 s1 s6 s6n s6c s21 s111 s111n s111c s112 s113 w := Nd_fold K_tile_Read (by kernel_rfl) h
theorem C_tile_Read_eq (Q : Value → World → Prop) (a0 : Int) (a1 : Int) (a2 : Int) (a3 : Array Value) (a4 : Option Addr) (a4n : Nat) (a4c : Nat) (a5 : Option Addr) (a5n : Nat) (a5c : Nat) (a6 : Option Addr) (a6n : Nat) (a6c : Nat) (w : World) (h :
  alC a3 29 w fun p1 w2 =>
  cond (((a4n : Nat) : Int) != ((a5n : Nat) : Int))
  (Q (.tuple #[.slice none 0 0, .int .i64 54]) w2)
  (cond (decide (((a4n : Nat) : Int) > 4096))
  (Q (.tuple #[.slice none 0 0, .int .i64 2]) w2)
  (C_tile_Plan #[.int .i64 a1, .int .i64 a2, .slice a6 a6n a6c] w2 fun v3 w4 =>
  opnT (some v3) fun x5 =>
  x5.size = 2 ∧
  opnL (x5[0]?) fun x6 x6n x6c =>
  opnI .i64 (x5[1]?) fun x7 =>
  cond (x7 != 0)
  (Q (.tuple #[.slice none 0 0, .int .i64 x7]) w4)
  (alM w4 fun r8 w9 =>
  N_tile_Read.j10 Q a0 a1 a2 a5 a5n a5c a6 a6n a6c p1 x6 x6n x6c (some r8) a4 a4n a4c ((a4n : Nat) : Int) 0 w9)))) :
C_tile_Read #[.int .i64 a0, .int .i64 a1, .int .i64 a2, .agg a3, .slice a4 a4n a4c, .slice a5 a5n a5c, .slice a6 a6n a6c] w Q := C_fold K_tile_Read (by kernel_rfl) h
/-! ### ledger/ledgerlaw10.certain -/
noncomputable def B_l10_certain : Code := match Tryd.f29.body with | some c => c | _ => .skip
noncomputable def X_l10_certain : Cx := { P := PP, fn := 29, N := 111, tab := tab, results := [.tmp 16], iter := fun _ => (.none, .none), dyn := fun _ => false, live := fun r => cond (Nat.beq r 10) (some [0, 3, 10, 19, 20, 22, 24, 25, 26]) (cond (Nat.beq r 11) (some [0, 3, 10, 19, 20, 22, 24, 25, 26]) (none)) }
theorem K_l10_certain : OkF X_l10_certain B_l10_certain Tryd.f29 := ⟨⟨tab_ok, mix_ok⟩, Tryd.func29, by kernel_rfl, by kernel_rfl, by kernel_rfl, by kernel_rfl⟩
noncomputable def N_l10_certain.j10 (Q : Value → World → Prop) (s0 : Int) (s3 : Option Addr) (s3n : Nat) (s3c : Nat) (s10 : Addr) (s19 : Addr) (s20 : Int) (s22 : Option Addr) (s22n : Nat) (s22c : Nat) (s24 : Option Addr) (s24n : Nat) (s24c : Nat) (s25 : Bool) (s26 : Int) (w : World) : Prop := Nd X_l10_certain Q [(0, 0, .int .i64 s0), (3, 3, .slice s3 s3n s3c), (10, 10, .pointer (some s10)), (19, 19, .pointer (some s19)), (20, 20, .int .i64 s20), (22, 22, .slice s22 s22n s22c), (24, 24, .slice s24 s24n s24c), (25, 25, .bool s25), (26, 26, .int .i64 s26)] [.code (B_l10_certain.r.r.r.r.r.r.r.r.l.r.l.l.l.l), .code (B_l10_certain.r.r.r.r.r.r.r.r.l.r.l.l.l.r), .code (B_l10_certain.r.r.r.r.r.r.r.r.l.r.l.l.r), .inLoop (B_l10_certain.r.r.r.r.r.r.r.r.l.r.l.l), .inBlock 0, .code (B_l10_certain.r.r.r.r.r.r.r.r.r)] w
noncomputable def N_l10_certain.j11 (Q : Value → World → Prop) (s0 : Int) (s3 : Option Addr) (s3n : Nat) (s3c : Nat) (s10 : Addr) (s19 : Addr) (s20 : Int) (s22 : Option Addr) (s22n : Nat) (s22c : Nat) (s24 : Option Addr) (s24n : Nat) (s24c : Nat) (s25 : Bool) (s26 : Int) (w : World) : Prop := Nd X_l10_certain Q [(0, 0, .int .i64 s0), (3, 3, .slice s3 s3n s3c), (10, 10, .pointer (some s10)), (19, 19, .pointer (some s19)), (20, 20, .int .i64 s20), (22, 22, .slice s22 s22n s22c), (24, 24, .slice s24 s24n s24c), (25, 25, .bool s25), (26, 26, .int .i64 s26)] [.code (B_l10_certain.r.r.r.r.r.r.r.r.l.r.l.l.r.r), .inLoop (B_l10_certain.r.r.r.r.r.r.r.r.l.r.l.l), .inBlock 0, .code (B_l10_certain.r.r.r.r.r.r.r.r.r)] w
theorem N_l10_certain.j10_eq (Q : Value → World → Prop) (s0 : Int) (s3 : Option Addr) (s3n : Nat) (s3c : Nat) (s10 : Addr) (s19 : Addr) (s20 : Int) (s22 : Option Addr) (s22n : Nat) (s22c : Nat) (s24 : Option Addr) (s24n : Nat) (s24c : Nat) (s25 : Bool) (s26 : Int) (w : World) (h :
  cond (decide (s26 < ((s22n : Nat) : Int)))
  ((0 : Int) ≤ s26 ∧
  s26 < ((s22n : Nat) : Int) ∧
  opnA s22 fun ad1 =>
  opnI .i64 (w.cell? (ad1.add (Int.toNat s26 * 1))) fun x2 =>
  cond (x2 == s20)
  (opnRow w s19 (32 * 1) fun x3 =>
  x3.size = 32 ∧
  alC x3 29 w fun p6 w5 =>
  sem PP (Builtin.append_ #[22, 22] 22 #[.slice s24 s24n s24c, .slice (some p6) 1 1]) w5 fun v7 w8 =>
  opnL (some v7) fun x9 x9n x9c =>
  N_l10_certain.j11 Q s0 s3 s3n s3c s10 s19 s20 s22 s22n s22c x9 x9n x9c true s26 w8)
  ((0 : Int) ≤ s26 ∧
  s26 < ((s22n : Nat) : Int) ∧
  opnA s22 fun ad10 =>
  opnI .i64 (w.cell? (ad10.add (Int.toNat s26 * 1))) fun x11 =>
  (0 : Int) ≤ x11 ∧
  x11 < ((s3n : Nat) : Int) ∧
  opnA s3 fun ad12 =>
  opnRow w (ad12.add (Int.toNat x11 * 32)) (32 * 1) fun x13 =>
  x13.size = 32 ∧
  alC x13 29 w fun p16 w15 =>
  sem PP (Builtin.append_ #[22, 22] 22 #[.slice s24 s24n s24c, .slice (some p16) 1 1]) w15 fun v17 w18 =>
  opnL (some v17) fun x19 x19n x19c =>
  N_l10_certain.j11 Q s0 s3 s3n s3c s10 s19 s20 s22 s22n s22c x19 x19n x19c s25 s26 w18))
  (drw w fun w20 =>
  cond s25
  (opnRow w20 s10 (32 * 1) fun x21 =>
  C_tlog_Fold #[.int .i64 s0, .slice s24 s24n s24c] w20 fun v22 w23 =>
  opnG (some v22) fun x24 =>
  (opnRow w23 s10 (32 * 1) fun x25 =>
  ((.agg x25) : Value) = .agg x21) ∧
  semR PP (do eqGuard .neq 29 (.tmp 107) (.tmp 108) (.agg x24) (.agg x21); binOp .neq 29 (.agg x24) (.agg x21)) w23 fun x26 =>
  opnB (some x26) fun x27 =>
  Q (.bool x27) w23)
  (Q (.bool false) w20))) :
N_l10_certain.j10 Q s0 s3 s3n s3c s10 s19 s20 s22 s22n s22c s24 s24n s24c s25 s26 w := Nd_fold K_l10_certain (by kernel_rfl) h
theorem N_l10_certain.j11_eq (Q : Value → World → Prop) (s0 : Int) (s3 : Option Addr) (s3n : Nat) (s3c : Nat) (s10 : Addr) (s19 : Addr) (s20 : Int) (s22 : Option Addr) (s22n : Nat) (s22c : Nat) (s24 : Option Addr) (s24n : Nat) (s24c : Nat) (s25 : Bool) (s26 : Int) (w : World) (h :
  N_l10_certain.j10 Q s0 s3 s3n s3c s10 s19 s20 s22 s22n s22c s24 s24n s24c s25 (IntKind.wrap .i64 (s26 + 1)) w) :
N_l10_certain.j11 Q s0 s3 s3n s3c s10 s19 s20 s22 s22n s22c s24 s24n s24c s25 s26 w := Nd_fold K_l10_certain (by kernel_rfl) h
theorem C_l10_certain_eq (Q : Value → World → Prop) (a0 : Int) (a1 : Int) (a2 : Array Value) (a3 : Option Addr) (a3n : Nat) (a3c : Nat) (a4_0 : Int) (a4_1 : Int) (a4_2 : Int) (a4_3 : Int) (a4_4 : Bool) (a5 : Option Addr) (a5n : Nat) (a5c : Nat) (a6 : Option Addr) (a6n : Nat) (a6c : Nat) (a7 : Int) (w : World) (h :
  alC a2 29 w fun p1 w2 =>
  alC #[.int .i64 a4_0, .int .i64 a4_1, .int .i64 a4_2, .int .i64 a4_3, .bool a4_4] 24 w2 fun p3 w4 =>
  opnI .i64 (w4.cell? (p3.add 3)) fun x5 =>
  C_l10_heavy #[.int .i64 x5, .int .i64 a7] w4 fun v6 w7 =>
  opnT (some v6) fun x8 =>
  x8.size = 2 ∧
  opnI .i64 (x8[0]?) fun x9 =>
  opnI .i64 (x8[1]?) fun x10 =>
  C_l10_up #[.int .i64 a0, .slice a6 a6n a6c, .int .i64 x9, .int .i64 x10] w7 fun v11 w12 =>
  opnG (some v11) fun x13 =>
  alZ PP 29 w12 fun p14 w15 =>
  stRow p14 x13 (32 * 1) w15 fun w16 =>
  opnI .i64 (w16.cell? (p3.add 0)) fun x17 =>
  cond (x10 == x17)
  (drw w16 fun w18 =>
  opnRow w18 p14 (32 * 1) fun x19 =>
  C_l10_up #[.int .i64 a0, .slice a5 a5n a5c, .int .i64 x9, .int .i64 x10] w18 fun v20 w21 =>
  opnG (some v20) fun x22 =>
  (opnRow w21 p14 (32 * 1) fun x23 =>
  ((.agg x23) : Value) = .agg x19) ∧
  semR PP (do eqGuard .neq 29 (.tmp 43) (.tmp 48) (.agg x19) (.agg x22); binOp .neq 29 (.agg x19) (.agg x22)) w21 fun x24 =>
  opnB (some x24) fun x25 =>
  Q (.bool x25) w21)
  (opnI .i64 (w16.cell? (p3.add 0)) fun x26 =>
  opnI .i64 (w16.cell? (p3.add 1)) fun x27 =>
  opnI .i64 (w16.cell? (p3.add 2)) fun x28 =>
  opnI .i64 (w16.cell? (p3.add 0)) fun x29 =>
  nn (IntKind.wrap .u64 x29) (
  nn (IntKind.wrap .u64 x10) (
  C_tlog_Index #[.int .i64 (IntKind.wrap .i64 ((IntKind.wrap .i64 (x26 * x27)) + x10)), .int .i64 (shrI .i64 (IntKind.wrap .i64 ((shlI .i64 x28 (IntKind.wrap .u64 x29)) + x9)) (IntKind.wrap .u64 x10))] w16 fun v30 w31 =>
  opnT (some v30) fun x32 =>
  x32.size = 2 ∧
  opnI .i64 (x32[0]?) fun x33 =>
  opnI .i64 (x32[1]?) fun x34 =>
  C_tlog_Peaks #[.int .i64 a1] w31 fun v35 w36 =>
  opnT (some v35) fun x37 =>
  x37.size = 2 ∧
  opnL (x37[0]?) fun x38 x38n x38c =>
  opnI .i64 (x37[1]?) fun x39 =>
  N_l10_certain.j10 Q a0 a3 a3n a3c p1 p14 x33 x38 x38n x38c none 0 0 false 0 w36)))) :
C_l10_certain #[.int .i64 a0, .int .i64 a1, .agg a2, .slice a3 a3n a3c, .agg #[.int .i64 a4_0, .int .i64 a4_1, .int .i64 a4_2, .int .i64 a4_3, .bool a4_4], .slice a5 a5n a5c, .slice a6 a6n a6c, .int .i64 a7] w Q := C_fold K_l10_certain (by kernel_rfl) h
/-! ### ledger/tile.Plan -/
noncomputable def B_tile_Plan : Code := match Tryd.f51.body with | some c => c | _ => .skip
noncomputable def X_tile_Plan : Cx := { P := PP, fn := 51, N := 90, tab := tab, results := [.tmp 6, .tmp 7], iter := fun r => cond (Nat.beq r 78) (.strct 5 [.int .i64, .int .i64, .int .i64, .int .i64, .bool] [(0, 3), (1, 3), (2, 2), (3, 3), (4, 4)], .one (.int .i64)) ((.none, .none)), dyn := fun _ => false, live := fun r => cond (Nat.beq r 7) (some [0, 1, 2, 8, 33, 34, 35]) (cond (Nat.beq r 10) (some []) (cond (Nat.beq r 15) (some [0, 1, 12, 55, 56, 57]) (cond (Nat.beq r 18) (some [0, 1, 12, 55, 56, 57, 61, 62, 63]) (cond (Nat.beq r 25) (some [19, 78]) (none))))) }
theorem K_tile_Plan : OkF X_tile_Plan B_tile_Plan Tryd.f51 := ⟨⟨tab_ok, mix_ok⟩, Tryd.func51, by kernel_rfl, by kernel_rfl, by kernel_rfl, by kernel_rfl⟩
noncomputable def N_tile_Plan.j7 (Q : Value → World → Prop) (s0 : Int) (s1 : Int) (s2 : Option Addr) (s2n : Nat) (s2c : Nat) (s8 : Int) (s33 : Option Addr) (s33n : Nat) (s33c : Nat) (s34 : Int) (s35 : Int) (w : World) : Prop := Nd X_tile_Plan Q [(0, 0, .int .i64 s0), (1, 1, .int .i64 s1), (2, 2, .slice s2 s2n s2c), (8, 8, .int .i64 s8), (33, 33, .slice s33 s33n s33c), (34, 34, .int .i64 s34), (35, 35, .int .i64 s35)] [.code (B_tile_Plan.r.r.r.r.l.r.l.l.l), .code (B_tile_Plan.r.r.r.r.l.r.l.l.r), .inLoop (B_tile_Plan.r.r.r.r.l.r.l.l), .inBlock 0, .code (B_tile_Plan.r.r.r.r.r)] w
noncomputable def N_tile_Plan.j10 (Q : Value → World → Prop) (w : World) : Prop := Nd X_tile_Plan Q [] [.code (B_tile_Plan.r.r.r.r.l.r.l.l.r.r.l.l.r.r.l.l), .code (B_tile_Plan.r.r.r.r.l.r.l.l.r.r.l.l.r.r.l.r), .inBlock 1, .code (B_tile_Plan.r.r.r.r.l.r.l.l.r.r.r), .inLoop (B_tile_Plan.r.r.r.r.l.r.l.l), .inBlock 0, .code (B_tile_Plan.r.r.r.r.r)] w
noncomputable def N_tile_Plan.j15 (Q : Value → World → Prop) (s0 : Int) (s1 : Int) (s12 : Option Nat) (s55 : Option Addr) (s55n : Nat) (s55c : Nat) (s56 : Int) (s57 : Int) (w : World) : Prop := Nd X_tile_Plan Q [(0, 0, .int .i64 s0), (1, 1, .int .i64 s1), (12, 12, .map s12), (55, 55, .slice s55 s55n s55c), (56, 56, .int .i64 s56), (57, 57, .int .i64 s57)] [.code (B_tile_Plan.r.r.r.r.r.r.r.l.r.l.l.l), .code (B_tile_Plan.r.r.r.r.r.r.r.l.r.l.l.r), .inLoop (B_tile_Plan.r.r.r.r.r.r.r.l.r.l.l), .inBlock 2, .code (B_tile_Plan.r.r.r.r.r.r.r.r)] w
noncomputable def N_tile_Plan.j18 (Q : Value → World → Prop) (s0 : Int) (s1 : Int) (s12 : Option Nat) (s55 : Option Addr) (s55n : Nat) (s55c : Nat) (s56 : Int) (s57 : Int) (s61 : Option Addr) (s61n : Nat) (s61c : Nat) (s62 : Int) (s63 : Int) (w : World) : Prop := Nd X_tile_Plan Q [(0, 0, .int .i64 s0), (1, 1, .int .i64 s1), (12, 12, .map s12), (55, 55, .slice s55 s55n s55c), (56, 56, .int .i64 s56), (57, 57, .int .i64 s57), (61, 61, .slice s61 s61n s61c), (62, 62, .int .i64 s62), (63, 63, .int .i64 s63)] [.code (B_tile_Plan.r.r.r.r.r.r.r.l.r.l.l.r.r.l.l.r.r.l.l.l), .code (B_tile_Plan.r.r.r.r.r.r.r.l.r.l.l.r.r.l.l.r.r.l.l.r), .inLoop (B_tile_Plan.r.r.r.r.r.r.r.l.r.l.l.r.r.l.l.r.r.l.l), .inBlock 4, .inBlock 3, .code (B_tile_Plan.r.r.r.r.r.r.r.l.r.l.l.r.r.r), .inLoop (B_tile_Plan.r.r.r.r.r.r.r.l.r.l.l), .inBlock 2, .code (B_tile_Plan.r.r.r.r.r.r.r.r)] w
noncomputable def N_tile_Plan.j25 (Q : Value → World → Prop) (s19 : Option Addr) (s19n : Nat) (s19c : Nat) (s78 : Addr) (w : World) : Prop := Nd X_tile_Plan Q [(19, 19, .slice s19 s19n s19c), (78, 78, .pointer (some s78))] [.code (B_tile_Plan.r.r.r.r.r.r.r.r.r.l.r.l.l.l), .code (B_tile_Plan.r.r.r.r.r.r.r.r.r.l.r.l.l.r), .inLoop (B_tile_Plan.r.r.r.r.r.r.r.r.r.l.r.l.l), .inBlock 6, .code (B_tile_Plan.r.r.r.r.r.r.r.r.r.r)] w
theorem N_tile_Plan.j7_eq (Q : Value → World → Prop) (s0 : Int) (s1 : Int) (s2 : Option Addr) (s2n : Nat) (s2c : Nat) (s8 : Int) (s33 : Option Addr) (s33n : Nat) (s33c : Nat) (s34 : Int) (s35 : Int) (w : World) (h :
  cond (decide (s35 < s34))
  ((0 : Int) ≤ s35 ∧
  s35 < ((s33n : Nat) : Int) ∧
  opnA s33 fun ad1 =>
  opnI .i64 (w.cell? (ad1.add (Int.toNat s35 * 1))) fun x2 =>
  cond (decide (x2 < 0))
  (N_tile_Plan.j10 Q w)
  (cond (decide (x2 ≥ s8))
  (N_tile_Plan.j10 Q w)
  (N_tile_Plan.j7 Q s0 s1 s2 s2n s2c s8 s33 s33n s33c s34 (IntKind.wrap .i64 (s35 + 1)) w)))
  (alM w fun r3 w4 =>
  C_tlog_Peaks #[.int .i64 s1] w4 fun v5 w6 =>
  opnT (some v5) fun x7 =>
  x7.size = 2 ∧
  opnL (x7[0]?) fun x8 x8n x8c =>
  opnI .i64 (x7[1]?) fun x9 =>
  alC #[.slice x8 x8n x8c, .slice s2 s2n s2c] 51 w6 fun p10 w11 =>
  N_tile_Plan.j15 Q s0 s1 (some r3) (some p10) 2 2 ((2 : Nat) : Int) 0 w11)) :
N_tile_Plan.j7 Q s0 s1 s2 s2n s2c s8 s33 s33n s33c s34 s35 w := Nd_fold K_tile_Plan (by kernel_rfl) h
theorem N_tile_Plan.j10_eq (Q : Value → World → Prop) (w : World) (h :
  Q (.tuple #[.slice none 0 0, .int .i64 105]) w) :
N_tile_Plan.j10 Q w := Nd_fold K_tile_Plan (by kernel_rfl) h
theorem N_tile_Plan.j15_eq (Q : Value → World → Prop) (s0 : Int) (s1 : Int) (s12 : Option Nat) (s55 : Option Addr) (s55n : Nat) (s55c : Nat) (s56 : Int) (s57 : Int) (w : World) (h :
  cond (decide (s57 < s56))
  ((0 : Int) ≤ s57 ∧
  s57 < ((s55n : Nat) : Int) ∧
  opnA s55 fun ad1 =>
  opnL (w.cell? (ad1.add (Int.toNat s57 * 1))) fun x2 x2n x2c =>
  N_tile_Plan.j18 Q s0 s1 s12 s55 s55n s55c s56 s57 x2 x2n x2c ((x2n : Nat) : Int) 0 w)
  (semR PP (Builtin.len_ #[103] 3 #[.map s12]) w fun x3 =>
  opnI .i64 (some x3) fun x4 =>
  sem PP (Instr.makeSlice 64 (.int .i64 0) (.int .i64 x4)) w fun v5 w6 =>
  opnL (some v5) fun x7 x7n x7c =>
  sem PP (Instr.range 103 (.map s12)) w6 fun v8 w9 =>
  opnP (some v8) fun x10 =>
  opnA x10 fun ad11 =>
  N_tile_Plan.j25 Q x7 x7n x7c ad11 w9)) :
N_tile_Plan.j15 Q s0 s1 s12 s55 s55n s55c s56 s57 w := Nd_fold K_tile_Plan (by kernel_rfl) h
theorem N_tile_Plan.j18_eq (Q : Value → World → Prop) (s0 : Int) (s1 : Int) (s12 : Option Nat) (s55 : Option Addr) (s55n : Nat) (s55c : Nat) (s56 : Int) (s57 : Int) (s61 : Option Addr) (s61n : Nat) (s61c : Nat) (s62 : Int) (s63 : Int) (w : World) (h :
  cond (decide (s63 < s62))
  ((0 : Int) ≤ s63 ∧
  s63 < ((s61n : Nat) : Int) ∧
  opnA s61 fun ad1 =>
  opnI .i64 (w.cell? (ad1.add (Int.toNat s63 * 1))) fun x2 =>
  C_tile_need #[.map s12, .int .i64 s0, .int .i64 s1, .int .i64 x2] w fun v3 w4 =>
  opnT (some v3) fun x5 =>
  x5.size = 0 ∧
  N_tile_Plan.j18 Q s0 s1 s12 s55 s55n s55c s56 s57 s61 s61n s61c s62 (IntKind.wrap .i64 (s63 + 1)) w4)
  (N_tile_Plan.j15 Q s0 s1 s12 s55 s55n s55c s56 (IntKind.wrap .i64 (s57 + 1)) w)) :
N_tile_Plan.j18 Q s0 s1 s12 s55 s55n s55c s56 s57 s61 s61n s61c s62 s63 w := Nd_fold K_tile_Plan (by kernel_rfl) h
theorem N_tile_Plan.j25_eq (Q : Value → World → Prop) (s19 : Option Addr) (s19n : Nat) (s19c : Nat) (s78 : Addr) (w : World) (h :
  sem PP (Instr.next (.pointer (some s78)) false 0) w fun v1 w2 =>
  opnN v1
  (C_slices_SortFunc_tile_Tile_tile_Tile #[.slice s19 s19n s19c, .func (.func 89) #[] #[]] w2 fun v5 w6 =>
  opnT (some v5) fun x7 =>
  x7.size = 0 ∧
  Q (.tuple #[.slice s19 s19n s19c, .int .i64 0]) w6)
  fun k3 x4 =>
  opnG (some k3) fun x8 =>
  x8.size = 5 ∧
  opnI .i64 (x8[0]?) fun x9 =>
  opnI .i64 (x8[1]?) fun x10 =>
  opnI .i64 (x8[2]?) fun x11 =>
  opnI .i64 (x8[3]?) fun x12 =>
  opnB (x8[4]?) fun x13 =>
  opnI .i64 (some x4) fun x14 =>
  sem PP (Instr.entry (.pointer (some s78))) w2 fun v15 w16 =>
  opnT (some v15) fun x17 =>
  x17.size = 2 ∧
  opnG (x17[0]?) fun x18 =>
  x18.size = 5 ∧
  opnI .i64 (x18[0]?) fun x19 =>
  opnI .i64 (x18[1]?) fun x20 =>
  opnI .i64 (x18[2]?) fun x21 =>
  opnI .i64 (x18[3]?) fun x22 =>
  opnB (x18[4]?) fun x23 =>
  opnI .i64 (x17[1]?) fun x24 =>
  alC #[.int .i64 0, .int .i64 0, .int .i64 0, .int .i64 0, .bool false] 24 w16 fun p25 w26 =>
  Array.size (#[.int .i64 x19, .int .i64 x20, .int .i64 x21, .int .i64 x22, .bool x23] : Array Value) = 5 ∧
  stC (p25.add 0) (.int .i64 x19) w26 fun w27 =>
  stC (p25.add 1) (.int .i64 x20) w27 fun w28 =>
  stC (p25.add 2) (.int .i64 x21) w28 fun w29 =>
  stC (p25.add 3) (.int .i64 x22) w29 fun w30 =>
  stC (p25.add 4) (.bool x23) w30 fun w31 =>
  opnI .i64 (w31.cell? (p25.add 0)) fun x32 =>
  opnI .i64 (w31.cell? (p25.add 1)) fun x33 =>
  opnI .i64 (w31.cell? (p25.add 2)) fun x34 =>
  opnI .i64 (w31.cell? (p25.add 3)) fun x35 =>
  opnB (w31.cell? (p25.add 4)) fun x36 =>
  alC #[.int .i64 x32, .int .i64 x33, .int .i64 x34, .int .i64 x35, .bool x36] 24 w31 fun p37 w38 =>
  sem PP (Builtin.append_ #[64, 64] 64 #[.slice s19 s19n s19c, .slice (some p37) 1 1]) w38 fun v39 w40 =>
  opnL (some v39) fun x41 x41n x41c =>
  N_tile_Plan.j25 Q x41 x41n x41c s78 w40) :
N_tile_Plan.j25 Q s19 s19n s19c s78 w := Nd_fold K_tile_Plan (by kernel_rfl) h
theorem C_tile_Plan_eq (Q : Value → World → Prop) (a0 : Int) (a1 : Int) (a2 : Option Addr) (a2n : Nat) (a2c : Nat) (w : World) (h :
  C_tile_sizes #[.int .i64 a0, .int .i64 a1] w fun v1 w2 =>
  opnB (some v1) fun x3 =>
  cond (!x3)
  (Q (.tuple #[.slice none 0 0, .int .i64 1]) w2)
  (cond (decide (((a2n : Nat) : Int) > 1024))
  (Q (.tuple #[.slice none 0 0, .int .i64 2]) w2)
  (C_tlog_Count #[.int .i64 a1] w2 fun v4 w5 =>
  opnT (some v4) fun x6 =>
  x6.size = 2 ∧
  opnI .i64 (x6[0]?) fun x7 =>
  opnI .i64 (x6[1]?) fun x8 =>
  N_tile_Plan.j7 Q a0 a1 a2 a2n a2c x7 a2 a2n a2c ((a2n : Nat) : Int) 0 w5))) :
C_tile_Plan #[.int .i64 a0, .int .i64 a1, .slice a2 a2n a2c] w Q := C_fold K_tile_Plan (by kernel_rfl) h
/-! ### ledger/tlog.Peaks -/
noncomputable def B_tlog_Peaks : Code := match Tryd.f52.body with | some c => c | _ => .skip
noncomputable def X_tlog_Peaks : Cx := { P := PP, fn := 52, N := 12, tab := tab, results := [.tmp 2, .tmp 3], iter := fun _ => (.none, .none), dyn := fun _ => false, live := fun r => cond (Nat.beq r 2) (some []) (none) }
theorem K_tlog_Peaks : OkF X_tlog_Peaks B_tlog_Peaks Tryd.f52 := ⟨⟨tab_ok, mix_ok⟩, Tryd.func52, by kernel_rfl, by kernel_rfl, by kernel_rfl, by kernel_rfl⟩
noncomputable def N_tlog_Peaks.j2 (Q : Value → World → Prop) (w : World) : Prop := Nd X_tlog_Peaks Q [] [.code (B_tlog_Peaks.r.l.r.l.l), .code (B_tlog_Peaks.r.l.r.l.r), .code (B_tlog_Peaks.r.r)] w
theorem N_tlog_Peaks.j2_eq (Q : Value → World → Prop) (w : World) (h :
  Q (.tuple #[.slice none 0 0, .int .i64 1]) w) :
N_tlog_Peaks.j2 Q w := Nd_fold K_tlog_Peaks (by kernel_rfl) h
theorem C_tlog_Peaks_eq (Q : Value → World → Prop) (a0 : Int) (w : World) (h :
  cond (decide (a0 < 0))
  (N_tlog_Peaks.j2 Q w)
  (cond (decide (a0 > 281474976710656))
  (N_tlog_Peaks.j2 Q w)
  (C_tlog_peaks #[.int .i64 a0] w fun v1 w2 =>
  opnL (some v1) fun x3 x3n x3c =>
  Q (.tuple #[.slice x3 x3n x3c, .int .i64 0]) w2))) :
C_tlog_Peaks #[.int .i64 a0] w Q := C_fold K_tlog_Peaks (by kernel_rfl) h
/-! ### ledger/tlog.Fold -/
noncomputable def B_tlog_Fold : Code := match Tryd.f53.body with | some c => c | _ => .skip
noncomputable def X_tlog_Fold : Cx := { P := PP, fn := 53, N := 9, tab := tab, results := [.cell 4 29], iter := fun _ => (.none, .none), dyn := fun _ => false, live := fun _ => none }
theorem K_tlog_Fold : OkF X_tlog_Fold B_tlog_Fold Tryd.f53 := ⟨⟨tab_ok, mix_ok⟩, Tryd.func53, by kernel_rfl, by kernel_rfl, by kernel_rfl, by kernel_rfl⟩
theorem C_tlog_Fold_eq (Q : Value → World → Prop) (a0 : Int) (a1 : Option Addr) (a1n : Nat) (a1c : Nat) (w : World) (h :
  alZ PP 29 w fun p1 w2 =>
  C_tlog_hasherOf #[.int .i64 a0] w2 fun v3 w4 =>
  opnG (some v3) fun x5 =>
  x5.size = 4 ∧
  opnI .i64 (x5[0]?) fun x6 =>
  opnV (x5[1]?) fun x7 =>
  opnV (x5[2]?) fun x8 =>
  opnV (x5[3]?) fun x9 =>
  C_tlog_hasher_root #[.agg #[.int .i64 x6, x7, x8, x9], .slice a1 a1n a1c] w4 fun v10 w11 =>
  opnG (some v10) fun x12 =>
  stRow p1 x12 (32 * 1) w11 fun w13 =>
  opnRow w13 p1 (32 * 1) fun x14 =>
  Q (.agg x14) w13) :
C_tlog_Fold #[.int .i64 a0, .slice a1 a1n a1c] w Q := C_fold K_tlog_Fold (by kernel_rfl) h
/-! ### (ledger/tile.shelf).hashes -/
noncomputable def B_tile_shelf_hashes : Code := match Tryd.f54.body with | some c => c | _ => .skip
noncomputable def X_tile_shelf_hashes : Cx := { P := PP, fn := 54, N := 25, tab := tab, results := [.tmp 4], iter := fun _ => (.none, .none), dyn := fun _ => false, live := fun r => cond (Nat.beq r 3) (some [2, 5, 11, 12, 13]) (none) }
theorem K_tile_shelf_hashes : OkF X_tile_shelf_hashes B_tile_shelf_hashes Tryd.f54 := ⟨⟨tab_ok, mix_ok⟩, Tryd.func54, by kernel_rfl, by kernel_rfl, by kernel_rfl, by kernel_rfl⟩
noncomputable def N_tile_shelf_hashes.j3 (Q : Value → World → Prop) (s2 : Addr) (s5 : Option Addr) (s5n : Nat) (s5c : Nat) (s11 : Option Addr) (s11n : Nat) (s11c : Nat) (s12 : Int) (s13 : Int) (w : World) : Prop := Nd X_tile_shelf_hashes Q [(2, 2, .pointer (some s2)), (5, 5, .slice s5 s5n s5c), (11, 11, .slice s11 s11n s11c), (12, 12, .int .i64 s12), (13, 13, .int .i64 s13)] [.code (B_tile_shelf_hashes.r.r.l.r.l.l.l), .code (B_tile_shelf_hashes.r.r.l.r.l.l.r), .inLoop (B_tile_shelf_hashes.r.r.l.r.l.l), .inBlock 0, .code (B_tile_shelf_hashes.r.r.r)] w
theorem N_tile_shelf_hashes.j3_eq (Q : Value → World → Prop) (s2 : Addr) (s5 : Option Addr) (s5n : Nat) (s5c : Nat) (s11 : Option Addr) (s11n : Nat) (s11c : Nat) (s12 : Int) (s13 : Int) (w : World) (h :
  cond (decide (s13 < s12))
  ((0 : Int) ≤ s13 ∧
  s13 < ((s11n : Nat) : Int) ∧
  opnA s11 fun ad1 =>
  opnI .i64 (w.cell? (ad1.add (Int.toNat s13 * 1))) fun x2 =>
  opnI .i64 (w.cell? (s2.add 0)) fun x3 =>
  opnI .i64 (w.cell? (s2.add 1)) fun x4 =>
  opnI .i64 (w.cell? (s2.add 2)) fun x5 =>
  opnM (w.cell? (s2.add 3)) fun x6 =>
  C_tile_shelf_hash #[.agg #[.int .i64 x3, .int .i64 x4, .int .i64 x5, .map x6], .int .i64 x2] w fun v7 w8 =>
  opnG (some v7) fun x9 =>
  x9.size = 32 ∧
  alC x9 29 w8 fun p12 w11 =>
  sem PP (Builtin.append_ #[22, 22] 22 #[.slice s5 s5n s5c, .slice (some p12) 1 1]) w11 fun v13 w14 =>
  opnL (some v13) fun x15 x15n x15c =>
  N_tile_shelf_hashes.j3 Q s2 x15 x15n x15c s11 s11n s11c s12 (IntKind.wrap .i64 (s13 + 1)) w14)
  (Q (.slice s5 s5n s5c) w)) :
N_tile_shelf_hashes.j3 Q s2 s5 s5n s5c s11 s11n s11c s12 s13 w := Nd_fold K_tile_shelf_hashes (by kernel_rfl) h
theorem C_tile_shelf_hashes_eq (Q : Value → World → Prop) (a0_0 : Int) (a0_1 : Int) (a0_2 : Int) (a0_3 : Option Nat) (a1 : Option Addr) (a1n : Nat) (a1c : Nat) (w : World) (h :
  alC #[.int .i64 a0_0, .int .i64 a0_1, .int .i64 a0_2, .map a0_3] 106 w fun p1 w2 =>
  sem PP (Instr.makeSlice 22 (.int .i64 0) (.int .i64 ((a1n : Nat) : Int))) w2 fun v3 w4 =>
  opnL (some v3) fun x5 x5n x5c =>
  N_tile_shelf_hashes.j3 Q p1 x5 x5n x5c a1 a1n a1c ((a1n : Nat) : Int) 0 w4) :
C_tile_shelf_hashes #[.agg #[.int .i64 a0_0, .int .i64 a0_1, .int .i64 a0_2, .map a0_3], .slice a1 a1n a1c] w Q := C_fold K_tile_shelf_hashes (by kernel_rfl) h
/-! ### (ledger/tile.shelf).hash -/
noncomputable def B_tile_shelf_hash : Code := match Tryd.f55.body with | some c => c | _ => .skip
noncomputable def X_tile_shelf_hash : Cx := { P := PP, fn := 55, N := 29, tab := tab, results := [.cell 4 29], iter := fun _ => (.none, .none), dyn := fun _ => false, live := fun _ => none }
theorem K_tile_shelf_hash : OkF X_tile_shelf_hash B_tile_shelf_hash Tryd.f55 := ⟨⟨tab_ok, mix_ok⟩, Tryd.func55, by kernel_rfl, by kernel_rfl, by kernel_rfl, by kernel_rfl⟩
theorem C_tile_shelf_hash_eq (Q : Value → World → Prop) (a0_0 : Int) (a0_1 : Int) (a0_2 : Int) (a0_3 : Option Nat) (a1 : Int) (w : World) (h :
  alC #[.int .i64 a0_0, .int .i64 a0_1, .int .i64 a0_2, .map a0_3] 106 w fun p1 w2 =>
  alZ PP 29 w2 fun p3 w4 =>
  opnI .i64 (w4.cell? (p1.add 1)) fun x5 =>
  C_tile_seatOf #[.int .i64 x5, .int .i64 a1] w4 fun v6 w7 =>
  opnT (some v6) fun x8 =>
  x8.size = 2 ∧
  opnG (x8[0]?) fun x9 =>
  x9.size = 7 ∧
  opnI .i64 (x9[0]?) fun x10 =>
  opnI .i64 (x9[1]?) fun x11 =>
  opnI .i64 (x9[2]?) fun x12 =>
  opnI .i64 (x9[3]?) fun x13 =>
  opnB (x9[4]?) fun x14 =>
  opnI .i64 (x9[5]?) fun x15 =>
  opnI .i64 (x9[6]?) fun x16 =>
  opnB (x8[1]?) fun x17 =>
  alC #[.int .i64 0, .int .i64 0, .int .i64 0, .int .i64 0, .bool false, .int .i64 0, .int .i64 0] 90 w7 fun p18 w19 =>
  Array.size (#[.int .i64 x10, .int .i64 x11, .int .i64 x12, .int .i64 x13, .bool x14, .int .i64 x15, .int .i64 x16] : Array Value) = 7 ∧
  stC (p18.add 0) (.int .i64 x10) w19 fun w20 =>
  stC (p18.add 1) (.int .i64 x11) w20 fun w21 =>
  stC (p18.add 2) (.int .i64 x12) w21 fun w22 =>
  stC (p18.add 3) (.int .i64 x13) w22 fun w23 =>
  stC (p18.add 4) (.bool x14) w23 fun w24 =>
  stC (p18.add 5) (.int .i64 x15) w24 fun w25 =>
  stC (p18.add 6) (.int .i64 x16) w25 fun w26 =>
  drw w26 fun w27 =>
  opnI .i64 (w27.cell? (p1.add 0)) fun x28 =>
  opnM (w27.cell? (p1.add 3)) fun x29 =>
  opnI .i64 (w27.cell? ((p18.add 0).add 0)) fun x30 =>
  opnI .i64 (w27.cell? ((p18.add 0).add 1)) fun x31 =>
  opnI .i64 (w27.cell? ((p18.add 0).add 2)) fun x32 =>
  opnI .i64 (w27.cell? ((p18.add 0).add 3)) fun x33 =>
  opnB (w27.cell? ((p18.add 0).add 4)) fun x34 =>
  opnI .i64 (w27.cell? (p1.add 2)) fun x35 =>
  opnI .i64 (w27.cell? (p18.add 5)) fun x36 =>
  opnI .i64 (w27.cell? (p18.add 6)) fun x37 =>
  C_tile_wide #[.agg #[.int .i64 x30, .int .i64 x31, .int .i64 x32, .int .i64 x33, .bool x34], .int .i64 x35] w27 fun v38 w39 =>
  opnG (some v38) fun x40 =>
  x40.size = 5 ∧
  opnI .i64 (x40[0]?) fun x41 =>
  opnI .i64 (x40[1]?) fun x42 =>
  opnI .i64 (x40[2]?) fun x43 =>
  opnI .i64 (x40[3]?) fun x44 =>
  opnB (x40[4]?) fun x45 =>
  (opnI .i64 (w39.cell? (p18.add 6)) fun x46 =>
  ((.int .i64 x46) : Value) = .int .i64 x37) ∧
  (opnI .i64 (w39.cell? (p18.add 5)) fun x47 =>
  ((.int .i64 x47) : Value) = .int .i64 x36) ∧
  (opnM (w39.cell? (p1.add 3)) fun x48 =>
  ((.map x48) : Value) = .map x29) ∧
  (opnI .i64 (w39.cell? (p1.add 0)) fun x49 =>
  ((.int .i64 x49) : Value) = .int .i64 x28) ∧
  semR PP (Instr.lookup 104 (.map x29) (.agg #[.int .i64 x41, .int .i64 x42, .int .i64 x43, .int .i64 x44, .bool x45]) false) w39 fun x50 =>
  opnL (some x50) fun x51 x51n x51c =>
  C_tile_joined #[.int .i64 x28, .slice x51 x51n x51c, .int .i64 x36, .int .i64 x37] w39 fun v52 w53 =>
  opnG (some v52) fun x54 =>
  stRow p3 x54 (32 * 1) w53 fun w55 =>
  opnRow w55 p3 (32 * 1) fun x56 =>
  Q (.agg x56) w55) :
C_tile_shelf_hash #[.agg #[.int .i64 a0_0, .int .i64 a0_1, .int .i64 a0_2, .map a0_3], .int .i64 a1] w Q := C_fold K_tile_shelf_hash (by kernel_rfl) h
end Go.Proofs.YtccjncflbbhldaaDoor
/-! ## PlOf -/
set_option maxRecDepth 10000
namespace Go.Proofs.YtccjncflbbhldaaDoor.Pl
open Go.Sh

theorem T51 : SlT PP 51 2 1 8 := ⟨by kernel_rfl, by kernel_rfl⟩
theorem T99 : SlT PP 175 3 1 8 := ⟨by kernel_rfl, by kernel_rfl⟩
def iv (n : Nat) : Value := .int .i64 (n : Int)
abbrev ivs (l : List Nat) : List Value := l.map iv

theorem bit_of (n m : Nat) (hn : n ≤ 281474976710656) (hm : m ≤ 48) : bits .and .i64 (shrI .i64 (n : Int) (m : Int)) 1 = ((n / 2 ^ m % 2 : Nat) : Int) := by
  have hle : n / 2 ^ m ≤ n := Nat.div_le_self _ _
  have h := i64_and (n / 2 ^ m) 1 (by omega) (by decide)
  rw [shr_nat _ _ (by omega), show (1 : Int) = ((1 : Nat) : Int) from rfl, h, Nat.and_one_is_mod]
/-- the records ahead of a top -/
def ahead (n m : Nat) : Nat := n / 2 ^ (m + 1) * 2 ^ (m + 1)
theorem ahead_le (n m : Nat) : ahead n m ≤ n := Nat.div_mul_le_self _ _
theorem ahead_shift (n m : Nat) : ahead n m / 2 ^ m = n / 2 ^ (m + 1) * 2 := by
  unfold ahead
  rw [Nat.pow_succ, ← Nat.mul_assoc, Nat.mul_right_comm, Nat.mul_div_cancel _ (pow_pos2 m)]
theorem div_succ (n m : Nat) : n / 2 ^ (m + 1) = n / 2 ^ m / 2 := by rw [Nat.pow_succ, Nat.div_div_eq_div_mul]
theorem ahead_next (n m : Nat) : ahead n m + (if n / 2 ^ (m + 1) % 2 = 1 then 0 else 0) + (n / 2 ^ m % 2) * 2 ^ m = n / 2 ^ m * 2 ^ m := by
  have h := div_succ n m
  have e := Nat.div_add_mod (n / 2 ^ m) 2
  have h2 : ahead n m = (2 * (n / 2 ^ m / 2)) * 2 ^ m := by
    unfold ahead
    rw [h, Nat.pow_succ, ← Nat.mul_assoc, Nat.mul_right_comm, Nat.mul_comm 2]
  rw [h2]
  simp only [ite_self, Nat.add_zero]
  rw [← Nat.add_mul, e]
theorem ahead_down (n m : Nat) : ahead n (m + 1) + (n / 2 ^ (m + 1) % 2) * 2 ^ (m + 1) = ahead n m := by
  have := ahead_next n (m + 1)
  simp only [ite_self, Nat.add_zero] at this
  rw [this]; rfl
theorem ahead_bit (n m : Nat) : n / 2 ^ m % 2 = 1 ↔ 2 ^ m ≤ n - ahead n m := by
  have h1 := ahead_next n m
  simp only [ite_self, Nat.add_zero] at h1
  have h2 := Nat.div_add_mod n (2 ^ m)
  have h3 := Nat.mod_lt n (pow_pos2 m)
  rw [Nat.mul_comm] at h2
  rcases (by omega : n / 2 ^ m % 2 = 0 ∨ n / 2 ^ m % 2 = 1) with h | h
  · rw [h, Nat.zero_mul, Nat.add_zero] at h1; omega
  · rw [h, Nat.one_mul] at h1; omega
theorem peak_fits {n m : Nat} (hn : n ≤ 281474976710656) (hb : n / 2 ^ m % 2 = 1) : (n / 2 ^ (m + 1) * 2 + 1) * 2 ^ m ≤ 281474976710656 := by
  have h1 := ahead_next n m
  simp only [ite_self, Nat.add_zero] at h1
  have h3 : n / 2 ^ m * 2 ^ m ≤ n := Nat.div_mul_le_self _ _
  have h2 := ahead_shift n m
  rw [hb, Nat.one_mul] at h1
  have e : ahead n m = n / 2 ^ (m + 1) * 2 * 2 ^ m := by unfold ahead; rw [Nat.pow_succ, Nat.mul_comm (2 ^ m), ← Nat.mul_assoc]
  rw [Nat.add_mul, Nat.one_mul, ← e]; omega

theorem push_int {t e : Nat} (T : SlT PP t e 1 8) {w0 w : World} {a : Option Addr} {n c : Nat} {l : List Value} (h : Own w e 1 a n c l) (f : ∀ k, At a k → w0.heap.size ≤ k) (k0 : Chg None w0 w) {v : Int} (hn : (n + 1) * 8 ≤ 140737488355328) {K : Option Addr → Nat → Nat → World → Prop}
    (hK : ∀ a' c' w', Own w' e 1 a' (n + 1) c' (l ++ [.int .i64 v]) → (∀ k, At a' k → w0.heap.size ≤ k) → Chg None w0 w' → K a' (n + 1) c' w') :
    alC #[.int .i64 v] e w fun p w5 => sem PP (Builtin.append_ #[t, t] t #[.slice a n c, .slice (some p) 1 1]) w5 fun v6 w7 => opnL (some v6) fun x xn xc => K x xn xc w7 := by
  unfold alC
  have ka : Chg None w (w.alloc (.cells #[.int .i64 v] e)) := chg_alloc w _
  refine append_own T (w := w.alloc (.cells #[.int .i64 v] e)) (h.chg0 ka) (src_two (vs := [.int .i64 v]) T.ht rfl (by intro u hu; simp at hu; subst hu; rfl)) (by simp only [maxLen]; omega) (by omega) fun a' c' w2 o2 k2 f2 => ?_
  refine hK a' c' w2 o2 ?_ (Chg.fresh (k0.none_trans ka) k2 f)
  rcases f2 with rfl | ⟨b, rfl, hb⟩
  · exact f
  · rintro k ⟨p, hp, rfl⟩; cases hp; exact Nat.le_trans (k0.none_trans ka).size hb

theorem peaks_word {Q : Value → World → Prop} {n : Nat} {w0 : World} (hn : n ≤ 281474976710656) (hQ : ∀ a c w', Own w' 2 1 a (peaksOf n).length c (ivs (peaksOf n)) → (∀ k, At a k → w0.heap.size ≤ k) → Chg None w0 w' → Q (.slice a (peaksOf n).length c) w') : C_tlog_peaks #[.int .i64 (n : Int)] w0 Q := by
  refine C_tlog_peaks_eq _ _ _ ?_
  rw [wrap_u n (by omega)]
  have hpc := laid_pc (n := n) (by omega)
  refine ones_word (by omega) (opnI_s ?_)
  have hpl := pc_le n
  generalize pc n = q at *
  refine make_empty T51 (by omega) (by omega) fun b w1 o1 k1 hb1 => ?_
  rw [opnL_s]
  have go : ∀ (m : Nat) (acc : List Nat) (a : Option Addr) (c : Nat) (w : World), m ≤ 49 → acc ++ peaksTo n m = peaksOf n → Own w 2 1 a acc.length c (ivs acc) → (∀ k, At a k → w0.heap.size ≤ k) → Chg None w0 w → N_tlog_peaks.j4 Q (n : Int) a acc.length c ((n / 2 ^ m * 2 ^ m : Nat) : Int) ((m : Int) - 1) w := by
    intro m
    induction m with
    | zero =>
      intro acc a c w _ hacc o f k
      refine N_tlog_peaks.j4_eq (h := c_nge (by omega) ?_)
      rw [peaksTo, List.append_nil] at hacc
      rw [hacc] at o ⊢
      exact hQ a c w o f k
    | succ m ih =>
      intro acc a c w hm hacc o f k
      have hm1 : ((m + 1 : Nat) : Int) - 1 = (m : Int) := by omega
      have hlen : acc.length ≤ 49 := by have := peaksTo_len n 49; have := congrArg List.length hacc; rw [List.length_append] at this; unfold peaksOf at this; omega
      have hah : n / 2 ^ (m + 1) * 2 ^ (m + 1) = ahead n m := rfl
      have hale := ahead_le n m
      have hstep := ahead_next n m
      simp only [ite_self, Nat.add_zero] at hstep
      have hdl : n / 2 ^ m * 2 ^ m ≤ n := Nat.div_mul_le_self _ _
      rw [hm1, hah]
      refine N_tlog_peaks.j4_eq (h := c_ge (by omega) (nn_nat ?_))
      rw [bit_of n m hn (by omega)]
      have next : ∀ (acc' : List Nat) (a : Option Addr) (c : Nat) (w : World) (z : Int), z = ((n / 2 ^ m * 2 ^ m : Nat) : Int) → acc' ++ peaksTo n m = peaksOf n → Own w 2 1 a acc'.length c (ivs acc') → (∀ k, At a k → w0.heap.size ≤ k) → Chg None w0 w → N_tlog_peaks.j5 Q (n : Int) a acc'.length c z (m : Int) w := by
        intro acc' a c w z hz hacc' o f k
        refine N_tlog_peaks.j5_eq (h := ?_)
        rw [wrap_id (by omega) (by omega), hz]
        exact ih acc' a c w (by omega) hacc' o f k
      by_cases hb : n / 2 ^ m % 2 = 1
      · refine c_eq (by omega) (nn_nat ?_)
        rw [shr_nat _ _ (by omega), ahead_shift]
        refine place_word (by omega) (peak_fits hn hb) (opnI_s ?_)
        rw [peaksTo, if_pos hb] at hacc
        refine push_int (K := fun x8 x8n x8c w7 => _) T51 o f k (by omega) fun a' c' w' o' f' k' => nn_nat ?_
        have hp : 2 ^ m ≤ n := by rw [hb, Nat.one_mul] at hstep; omega
        have hsh := shl_nat 1 m (by omega) (by rw [Nat.one_mul]; omega)
        rw [Nat.one_mul] at hsh
        rw [show (1 : Int) = ((1 : Nat) : Int) from rfl, hsh, ← Int.natCast_add, wrap_n _ (by omega)]
        have := next (acc ++ [placeOf m (n / 2 ^ (m + 1) * 2)]) a' c' w' ((ahead n m + 2 ^ m : Nat) : Int) (by rw [← hstep, hb, Nat.one_mul]) (by simpa using hacc) (by simpa [iv] using o') f' k'
        simpa using this
      · refine c_neq (by omega) ?_
        rw [peaksTo, if_neg hb] at hacc
        have hb0 : n / 2 ^ m % 2 = 0 := by omega
        have e := hstep
        rw [hb0, Nat.zero_mul, Nat.add_zero] at e
        exact next acc a c w _ (congrArg (fun x : Nat => (x : Int)) e) hacc o f k
  have h49 : n / 2 ^ 49 * 2 ^ 49 = 0 := by rw [Nat.div_eq_of_lt (by omega), Nat.zero_mul]
  have := go 49 [] _ _ w1 (Nat.le_refl _) rfl o1 (by rintro k ⟨p, hp, rfl⟩; cases hp; exact hb1) k1
  rw [h49] at this
  exact this
theorem tpeaks_word {Q : Value → World → Prop} {n : Int} {w0 : World} (hok : 0 ≤ n → n ≤ 281474976710656 → ∀ a c w', Own w' 2 1 a (peaksOf n.toNat).length c (ivs (peaksOf n.toNat)) → (∀ k, At a k → w0.heap.size ≤ k) → Chg None w0 w' → Q (.tuple #[.slice a (peaksOf n.toNat).length c, .int .i64 0]) w') (hno : ¬ (0 ≤ n ∧ n ≤ 281474976710656) → Q (.tuple #[.slice none 0 0, .int .i64 1]) w0) : C_tlog_Peaks #[.int .i64 n] w0 Q := by
  refine C_tlog_Peaks_eq _ _ _ ?_
  by_cases h1 : n < 0
  · exact c_lt h1 (N_tlog_Peaks.j2_eq (h := hno (by omega)))
  refine c_nlt (by omega) ?_
  by_cases h2 : n > 281474976710656
  · exact c_gt h2 (N_tlog_Peaks.j2_eq (h := hno (by omega)))
  refine c_ngt (by omega) ?_
  obtain ⟨n, rfl⟩ := Int.eq_ofNat_of_zero_le (by omega : 0 ≤ n)
  exact peaks_word (by omega) fun a c w' o f k => hok (by omega) (by omega) a c w' o f k
end Go.Proofs.YtccjncflbbhldaaDoor.Pl
/-! ## ShP0 -/
set_option maxRecDepth 100000
namespace Go.Proofs.YtccjncflbbhldaaDoor
open Go.Sh
/-! ### ledger/ledgerref10.power -/
noncomputable def B_r10_power : Code := match Tryd.f41.body with | some c => c | _ => .skip
noncomputable def X_r10_power : Cx := { P := PP, fn := 41, N := 6, tab := tab, results := [.tmp 2], iter := fun _ => (.none, .none), dyn := fun _ => false, live := fun _ => none }
theorem K_r10_power : OkF X_r10_power B_r10_power Tryd.f41 := ⟨⟨tab_ok, mix_ok⟩, Tryd.func41, by kernel_rfl, by kernel_rfl, by kernel_rfl, by kernel_rfl⟩
theorem C_r10_power_eq (Q : Value → World → Prop) (a0 : Int) (w : World) (h :
  nn (IntKind.wrap .u64 a0) (
  Q (.int .i64 (shlI .i64 1 (IntKind.wrap .u64 a0))) w)) :
C_r10_power #[.int .i64 a0] w Q := C_fold K_r10_power (by kernel_rfl) h
end Go.Proofs.YtccjncflbbhldaaDoor
/-! ## PlSeat -/
set_option maxRecDepth 10000
namespace Go.Proofs.YtccjncflbbhldaaDoor.Pl
open Go.Sh

/-! ### tiles as values and in boxes -/
theorem tv_one (t : Tl) : ([Value.int .i64 t.H, .int .i64 t.L, .int .i64 t.N, .int .i64 t.W, .bool t.D] : List Value).all Value.oneCell' = true := rfl
section
variable {w : World} {b T : Nat}
theorem rd_tile {t : Tl} (h : Blk w b T (tv t)) {K : Int → Int → Int → Int → Bool → Prop} (hK : K t.H t.L t.N t.W t.D) :
    opnI .i64 (w.cell? ((⟨b, 0, none⟩ : Addr).add 0)) fun x0 => opnI .i64 (w.cell? ((⟨b, 0, none⟩ : Addr).add 1)) fun x1 => opnI .i64 (w.cell? ((⟨b, 0, none⟩ : Addr).add 2)) fun x2 => opnI .i64 (w.cell? ((⟨b, 0, none⟩ : Addr).add 3)) fun x3 => opnB (w.cell? ((⟨b, 0, none⟩ : Addr).add 4)) fun x4 => K x0 x1 x2 x3 x4 := by
  rw [h.rd 0 rfl, h.rd 1 rfl, h.rd 2 rfl, h.rd 3 rfl, h.rd 4 rfl]
  exact ⟨rfl, ⟨rfl, ⟨rfl, ⟨rfl, hK⟩⟩⟩⟩
theorem rd_tile2 {t : Tl} {l : List Value} (h : Blk w b T l) (hl : l.take 5 = tv t) {K : Int → Int → Int → Int → Bool → Prop} (hK : K t.H t.L t.N t.W t.D) :
    opnI .i64 (w.cell? (((⟨b, 0, none⟩ : Addr).add 0).add 0)) fun x0 => opnI .i64 (w.cell? (((⟨b, 0, none⟩ : Addr).add 0).add 1)) fun x1 => opnI .i64 (w.cell? (((⟨b, 0, none⟩ : Addr).add 0).add 2)) fun x2 => opnI .i64 (w.cell? (((⟨b, 0, none⟩ : Addr).add 0).add 3)) fun x3 => opnB (w.cell? (((⟨b, 0, none⟩ : Addr).add 0).add 4)) fun x4 => K x0 x1 x2 x3 x4 := by
  have g : ∀ j v, (tv t)[j]? = some v → j < 5 → l[0 + j]? = some v := fun j v hv hj => by rw [← hl, List.getElem?_take, if_pos hj] at hv; rw [Nat.zero_add]; exact hv
  rw [h.rd2 0 0 (g 0 _ rfl (by decide)), h.rd2 0 1 (g 1 _ rfl (by decide)), h.rd2 0 2 (g 2 _ rfl (by decide)), h.rd2 0 3 (g 3 _ rfl (by decide)), h.rd2 0 4 (g 4 _ rfl (by decide))]
  exact ⟨rfl, ⟨rfl, ⟨rfl, ⟨rfl, hK⟩⟩⟩⟩
theorem opn_tile {t : Tl} {K : Int → Int → Int → Int → Bool → Prop} (hK : K t.H t.L t.N t.W t.D) :
    opnG (some (tg t)) fun x => x.size = 5 ∧ opnI .i64 (x[0]?) fun x0 => opnI .i64 (x[1]?) fun x1 => opnI .i64 (x[2]?) fun x2 => opnI .i64 (x[3]?) fun x3 => opnB (x[4]?) fun x4 => K x0 x1 x2 x3 x4 := ⟨rfl, ⟨rfl, ⟨rfl, ⟨rfl, ⟨rfl, hK⟩⟩⟩⟩⟩
theorem set_tile {t : Tl} {old : List Value} (h : Blk w b T old) (hl : old.length = 5) {K : World → Prop} (hK : ∀ w', Blk w' b T (tv t) → Chg (fun k => k = b) w w' → K w') :
    Array.size (#[.int .i64 t.H, .int .i64 t.L, .int .i64 t.N, .int .i64 t.W, .bool t.D] : Array Value) = 5 ∧ stC ((⟨b, 0, none⟩ : Addr).add 0) (.int .i64 t.H) w fun w1 => stC ((⟨b, 0, none⟩ : Addr).add 1) (.int .i64 t.L) w1 fun w2 => stC ((⟨b, 0, none⟩ : Addr).add 2) (.int .i64 t.N) w2 fun w3 => stC ((⟨b, 0, none⟩ : Addr).add 3) (.int .i64 t.W) w3 fun w4 => stC ((⟨b, 0, none⟩ : Addr).add 4) (.bool t.D) w4 fun w5 => K w5 :=
  ⟨rfl, box5 h hl (tv_one t) hK⟩
theorem mk_tile {t : Tl} {z0 z1 z2 z3 z4 : Value} {K : Addr → World → Prop} (hK : ∀ b w', Blk w' b T (tv t) → Chg None w w' → w.heap.size ≤ b → K ⟨b, 0, none⟩ w') :
    alC #[z0, z1, z2, z3, z4] T w fun p w0 => Array.size (#[.int .i64 t.H, .int .i64 t.L, .int .i64 t.N, .int .i64 t.W, .bool t.D] : Array Value) = 5 ∧ stC (p.add 0) (.int .i64 t.H) w0 fun w1 => stC (p.add 1) (.int .i64 t.L) w1 fun w2 => stC (p.add 2) (.int .i64 t.N) w2 fun w3 => stC (p.add 3) (.int .i64 t.W) w3 fun w4 => stC (p.add 4) (.bool t.D) w4 fun w5 => K p w5 :=
  mkbox5 (tv_one t) hK
theorem arg_tile {t : Tl} {K : Addr → World → Prop} (hK : ∀ b w', Blk w' b T (tv t) → Chg None w w' → w.heap.size ≤ b → K ⟨b, 0, none⟩ w') : alC #[.int .i64 t.H, .int .i64 t.L, .int .i64 t.N, .int .i64 t.W, .bool t.D] T w K := alC_box hK
end
/-! ### the tile of a place -/
noncomputable def foldOf (h c : Nat) : Nat := levOf c % h
noncomputable def atOf (h c : Nat) : Nat := nodOf c * 2 ^ foldOf h c
noncomputable def firstOf (h c : Nat) : Nat := atOf h c % 2 ^ h
noncomputable def tlOf (h c : Nat) : Tl := ⟨h, (levOf c / h : Nat), (atOf h c / 2 ^ h : Nat), (firstOf h c + 2 ^ foldOf h c : Nat), false⟩
theorem fold_lt {h c : Nat} (h1 : 1 ≤ h) : foldOf h c < h := Nat.mod_lt _ (by omega)
theorem at_le {h c : Nat} (hc : c < 562949953421311) : atOf h c ≤ 281474976710656 := by
  have h1 := nod_lt hc
  have h2 : 2 ^ foldOf h c ≤ 2 ^ levOf c := Nat.pow_le_pow_right (by decide) (Nat.mod_le _ _)
  have h3 : nodOf c * 2 ^ foldOf h c ≤ nodOf c * 2 ^ levOf c := Nat.mul_le_mul_left _ h2
  rw [Nat.add_mul] at h1
  unfold atOf; omega
theorem mask_mod (x h : Nat) (hx : x < 9223372036854775808) (h8 : h ≤ 8) : bits .and .i64 (x : Int) (IntKind.wrap .i64 (((2 ^ h : Nat) : Int) - 1)) = ((x % 2 ^ h : Nat) : Int) := by
  have hp := pow_le h h8
  have hp0 := pow_pos2 h
  rw [wrap_id (by omega) (by omega), show ((2 ^ h : Nat) : Int) - 1 = ((2 ^ h - 1 : Nat) : Int) by omega, i64_and x (2 ^ h - 1) hx (by omega), Nat.and_two_pow_sub_one_eq_mod]

theorem seat_word {Q : Value → World → Prop} {h : Nat} {c : Int} {w0 : World} (h1 : 1 ≤ h) (h8 : h ≤ 8)
    (hok : ∀ c' : Nat, c = c' → c' < 562949953421311 → ∀ w', Chg None w0 w' → Q (.tuple #[.agg #[.int .i64 (tlOf h c').H, .int .i64 (tlOf h c').L, .int .i64 (tlOf h c').N, .int .i64 (tlOf h c').W, .bool (tlOf h c').D, .int .i64 (firstOf h c' : Nat), .int .i64 (foldOf h c' : Nat)], .bool true]) w')
    (hno : ¬ (0 ≤ c ∧ c < 562949953421311) → ∀ w', Chg None w0 w' → Q (.tuple #[.agg #[.int .i64 0, .int .i64 0, .int .i64 0, .int .i64 0, .bool false, .int .i64 0, .int .i64 0], .bool false]) w') :
    C_tile_seatOf #[.int .i64 (h : Int), .int .i64 c] w0 Q := by
  refine C_tile_seatOf_eq _ _ _ _ ?_
  refine alC_box fun b w1 hb k1 hb1 => ?_
  have fin : ∀ (vs : List Value) (w : World), Blk w b 80 vs → Chg None w0 w → True := fun _ _ _ _ => trivial
  refine split_word (fun c' hc hlt w2 k2 => ⟨rfl, ⟨rfl, ⟨rfl, ⟨rfl, c_nne rfl ?_⟩⟩⟩⟩) fun hn => ⟨rfl, ⟨rfl, ⟨rfl, ⟨rfl, c_ne (by decide) ?_⟩⟩⟩⟩
  · subst hc
    rw [drw_s]
    have k3 : Chg None w0 w2.drew := (k1.none_trans k2).drew
    refine ⟨by omega, by omega, ?_⟩
    have hf := fold_lt (c := c') h1
    have hat := at_le (h := h) hlt
    have hnl := nod_lt hlt
    have hnod : nodOf c' < 281474976710656 := by
      have : nodOf c' + 1 ≤ (nodOf c' + 1) * 2 ^ levOf c' := Nat.le_mul_of_pos_right _ (pow_pos2 _)
      omega
    have hlv := lev_le hlt
    have hdv : levOf c' / h ≤ levOf c' := Nat.div_le_self _ _
    have hmod := Nat.mod_lt (atOf h c') (pow_pos2 h)
    have hp := pow_le h h8
    have hpf : 2 ^ foldOf h c' ≤ 256 := pow_le _ (by omega)
    rw [tmod_nat, show levOf c' % h = foldOf h c' from rfl]
    refine nn_nat (full_word h8 (opnI_s ?_))
    rw [drw_s]
    refine nn_nat (nn_nat ?_)
    have hs1 := shl_nat (nodOf c') (foldOf h c') (by omega) (by show atOf h c' < _; omega)
    have hs2 := shl_nat 1 (foldOf h c') (by omega) (by omega)
    rw [Nat.one_mul] at hs2
    have hs2' : shlI .i64 1 ((foldOf h c' : Nat) : Int) = ((2 ^ foldOf h c' : Nat) : Int) := hs2
    have hat' : nodOf c' * 2 ^ foldOf h c' = atOf h c' := rfl
    rw [hs1, hat', shr_nat _ h (by omega), mask_mod _ h (by omega) h8, hs2', tdiv_nat, wrap_n _ (by omega), ← Int.natCast_add, wrap_n _ (by omega)]
    refine ⟨rfl, box7 (hb.chg (k2.drew.drew) (fun h => h)) rfl rfl fun w3 hb3 k4 => ?_⟩
    simp only [hb3.rd 0 rfl, hb3.rd 1 rfl, hb3.rd 2 rfl, hb3.rd 3 rfl, hb3.rd 4 rfl, hb3.rd 5 rfl, hb3.rd 6 rfl, opnI, true_and]
    rw [opnB_s]
    exact hok c' rfl hlt w3 (Chg.fresh k3.drew k4 fun x hx => by rw [hx]; exact hb1)
  · refine ⟨rfl, box7 hb rfl rfl fun w3 hb3 k4 => ?_⟩
    simp only [hb3.rd 0 rfl, hb3.rd 1 rfl, hb3.rd 2 rfl, hb3.rd 3 rfl, hb3.rd 4 rfl, hb3.rd 5 rfl, hb3.rd 6 rfl, opnI, true_and]
    rw [opnB_s]
    exact hno hn w3 (Chg.fresh k1 k4 fun x hx => by rw [hx]; exact hb1)

theorem opn_seat {a0 a1 a2 a3 a5 a6 : Int} {a4 ok : Bool} {K : Int → Int → Int → Int → Bool → Int → Int → Bool → Prop} (hK : K a0 a1 a2 a3 a4 a5 a6 ok) :
    opnT (some (.tuple #[.agg #[.int .i64 a0, .int .i64 a1, .int .i64 a2, .int .i64 a3, .bool a4, .int .i64 a5, .int .i64 a6], .bool ok])) fun x => x.size = 2 ∧ opnG (x[0]?) fun y => y.size = 7 ∧ opnI .i64 (y[0]?) fun y0 => opnI .i64 (y[1]?) fun y1 => opnI .i64 (y[2]?) fun y2 => opnI .i64 (y[3]?) fun y3 => opnB (y[4]?) fun y4 => opnI .i64 (y[5]?) fun y5 => opnI .i64 (y[6]?) fun y6 => opnB (x[1]?) fun b => K y0 y1 y2 y3 y4 y5 y6 b :=
  ⟨rfl, ⟨rfl, ⟨rfl, ⟨rfl, ⟨rfl, ⟨rfl, ⟨rfl, ⟨rfl, hK⟩⟩⟩⟩⟩⟩⟩⟩
/-! what Of answers -/
noncomputable def ofV (h c : Int) : Tl × Int := if 1 ≤ h ∧ h ≤ 8 ∧ 0 ≤ c ∧ c < 562949953421311 then (tlOf h.toNat c.toNat, 0) else (tz, 1)
theorem of_word {Q : Value → World → Prop} {h c : Int} {w0 : World} (hQ : ∀ w', Chg None w0 w' → Q (.tuple #[tg (ofV h c).1, .int .i64 (ofV h c).2]) w') : C_tile_Of #[.int .i64 h, .int .i64 c] w0 Q := by
  refine C_tile_Of_eq _ _ _ _ ?_
  refine alC_box fun b w1 hb k1 hb1 => ?_
  have bad : ¬ (1 ≤ h ∧ h ≤ 8 ∧ 0 ≤ c ∧ c < 562949953421311) → N_tile_Of.j2 Q ⟨b, 0, none⟩ w1 := by
    intro hn
    refine N_tile_Of.j2_eq (h := set_tile (t := tz) hb rfl fun w2 hb2 k2 => rd_tile hb2 ?_)
    have := hQ w2 (Chg.fresh k1 k2 fun x hx => by rw [hx]; exact hb1)
    rw [ofV, if_neg hn] at this
    exact this
  by_cases g1 : h < 1
  · exact c_lt g1 (bad (by omega))
  refine c_nlt (by omega) ?_
  by_cases g2 : h > 8
  · exact c_gt g2 (bad (by omega))
  refine c_ngt (by omega) ?_
  obtain ⟨h, rfl⟩ := Int.eq_ofNat_of_zero_le (by omega : 0 ≤ h)
  refine seat_word (by omega) (by omega) (fun c' hc hlt w2 k2 => opn_seat ?_) fun hn w2 k2 => opn_seat ?_
  · subst hc
    refine mkbox7 rfl fun b2 w3 hb3 k3 hlt3 => ?_
    refine (rd_tile2 hb3 rfl ?_ : opnI .i64 (w3.cell? (((⟨b2, 0, none⟩ : Addr).add 0).add 0)) _)
    refine set_tile (hb.chg (k2.none_trans k3) (fun h => h)) rfl fun w4 hb4 k4 => rd_tile hb4 ?_
    have := hQ w4 (Chg.fresh (k1.none_trans (k2.none_trans k3)) k4 fun x hx => by rw [hx]; exact hb1)
    rw [ofV, if_pos (by omega)] at this
    exact this
  · refine mkbox7 rfl fun b2 w3 hb3 k3 hlt3 => ?_
    refine (set_tile (t := tz) (hb.chg (k2.none_trans k3) (fun h => h)) rfl fun w4 hb4 k4 => rd_tile hb4 ?_ : _ ∧ _)
    have := hQ w4 (Chg.fresh (k1.none_trans (k2.none_trans k3)) k4 fun x hx => by rw [hx]; exact hb1)
    rw [ofV, if_neg (by omega)] at this
    exact this

/-- what Width answers -/
def widV (h l n size : Int) : Int × Int := if 1 ≤ h ∧ h ≤ 8 ∧ 0 ≤ l ∧ 0 ≤ n ∧ 0 ≤ size ∧ size ≤ 281474976710656 then ((wid h.toNat l.toNat n.toNat size.toNat : Nat), 0) else (0, 1)
theorem twidth_word {Q : Value → World → Prop} {h l n size : Int} {w0 : World} (hQ : ∀ w', Chg None w0 w' → Q (.tuple #[.int .i64 (widV h l n size).1, .int .i64 (widV h l n size).2]) w') : C_tile_Width #[.int .i64 h, .int .i64 l, .int .i64 n, .int .i64 size] w0 Q := by
  refine C_tile_Width_eq _ _ _ _ _ _ (C_tile_sizes_eq _ _ _ _ ?_)
  have bad : ¬ (1 ≤ h ∧ h ≤ 8 ∧ 0 ≤ l ∧ 0 ≤ n ∧ 0 ≤ size ∧ size ≤ 281474976710656) → N_tile_Width.j2 Q w0 := by
    intro hn
    refine N_tile_Width.j2_eq (h := ?_)
    have := hQ w0 (Chg.refl _ _)
    rw [widV, if_neg hn] at this
    exact this
  by_cases g1 : 1 ≤ h
  case neg => exact c_nge (by omega) (bad (by omega))
  refine c_ge g1 ?_
  by_cases g2 : h ≤ 8
  case neg => exact c_nle (by omega) (bad (by omega))
  refine c_le g2 ?_
  by_cases g3 : 0 ≤ size
  case neg => exact c_nge (by omega) (bad (by omega))
  refine c_ge g3 ?_
  by_cases g4 : size ≤ 281474976710656
  case neg =>
    rw [decide_eq_false g4]
    exact bad (by omega)
  rw [decide_eq_true g4, opnB_s, Bool.not_true, cond_false]
  by_cases g5 : l < 0
  · exact c_lt g5 (bad (by omega))
  refine c_nlt (by omega) ?_
  by_cases g6 : n < 0
  · exact c_lt g6 (bad (by omega))
  refine c_nlt (by omega) ?_
  obtain ⟨h, rfl⟩ := Int.eq_ofNat_of_zero_le (by omega : 0 ≤ h)
  obtain ⟨l, rfl⟩ := Int.eq_ofNat_of_zero_le (by omega : 0 ≤ l)
  obtain ⟨n, rfl⟩ := Int.eq_ofNat_of_zero_le (by omega : 0 ≤ n)
  obtain ⟨size, rfl⟩ := Int.eq_ofNat_of_zero_le (by omega : 0 ≤ size)
  refine width_word (by omega) (by omega) (by omega) fun w1 k1 => opnI_s ?_
  have := hQ w1 k1
  rw [widV, if_pos (by omega)] at this
  exact this

/-! ### the document's -/
theorem rpow_word {Q : Value → World → Prop} {n : Nat} {w : World} (hn : n ≤ 62) (hQ : Q (.int .i64 ((2 ^ n : Nat) : Int)) w) : C_r10_power #[.int .i64 (n : Int)] w Q := by
  refine C_r10_power_eq _ _ _ ?_
  rw [wrap_u n (by omega)]
  have hle : 2 ^ n ≤ 2 ^ 62 := Nat.pow_le_pow_right (by decide) hn
  have hs := shl_nat 1 n (by omega) (by rw [Nat.one_mul]; omega)
  rw [Nat.one_mul] at hs
  have hs' : shlI .i64 1 ((n : Nat) : Int) = ((2 ^ n : Nat) : Int) := hs
  rw [hs']
  exact nn_nat hQ
def nodesV (h l size : Nat) : Nat := if 48 < l ∨ 48 < h * l then 0 else size / 2 ^ (h * l)
theorem nodes_word {Q : Value → World → Prop} {h l size : Nat} {w : World} (h8 : h ≤ 8) (hl : l ≤ 9223372036854775807) (hs : size ≤ 281474976710656) (hQ : Q (.int .i64 ((nodesV h l size : Nat) : Int)) w) : C_r10_nodes #[.int .i64 (h : Int), .int .i64 (l : Int), .int .i64 (size : Int)] w Q := by
  refine C_r10_nodes_eq _ _ _ _ _ ?_
  unfold nodesV at hQ
  by_cases g1 : 48 < l
  · rw [if_pos (.inl g1)] at hQ
    exact c_gt (by omega) (N_r10_nodes.j2_eq (h := hQ))
  refine c_ngt (by omega) ?_
  have hm : h * l ≤ 8 * 48 := Nat.mul_le_mul h8 (by omega)
  rw [wrap_mul (by omega)]
  by_cases g2 : 48 < h * l
  · rw [if_pos (.inr g2)] at hQ
    exact c_gt (by omega) (N_r10_nodes.j2_eq (h := hQ))
  rw [if_neg (by omega)] at hQ
  have hp := pow_pos2 (h * l)
  have hd : size / 2 ^ (h * l) ≤ size := Nat.div_le_self _ _
  refine c_ngt (by omega) (rpow_word (by omega) (opnI_s ⟨by omega, ?_⟩))
  rw [tdiv_nat, wrap_n _ (by omega)]
  exact hQ
theorem nodes_cnt {h l size : Nat} (h1 : 1 ≤ h) : nodesV h l size = if 48 / h < l then 0 else cnt h l size := by
  unfold nodesV cnt
  by_cases g : 48 / h < l
  · rw [if_pos g, if_pos]
    have := (Nat.div_lt_iff_lt_mul (show 0 < h by omega)).1 g
    rw [Nat.mul_comm]; exact .inr this
  · rw [if_neg g, if_neg]
    have h2 := mul_small h1 (by omega : l ≤ 48 / h)
    have h3 : 48 / h ≤ 48 := Nat.div_le_self _ _
    omega
theorem rwidth_word {Q : Value → World → Prop} {h l n size : Int} {w0 : World} (hl : l ≤ 9223372036854775807) (hQ : Q (.tuple #[.int .i64 (widV h l n size).1, .int .i64 (widV h l n size).2]) w0) : C_r10_Width #[.int .i64 h, .int .i64 l, .int .i64 n, .int .i64 size] w0 Q := by
  refine C_r10_Width_eq _ _ _ _ _ _ ?_
  have bad : ¬ (1 ≤ h ∧ h ≤ 8 ∧ 0 ≤ l ∧ 0 ≤ n ∧ 0 ≤ size ∧ size ≤ 281474976710656) → N_r10_Width.j2 Q w0 := by
    intro hn
    refine N_r10_Width.j2_eq (h := ?_)
    rw [widV, if_neg hn] at hQ
    exact hQ
  by_cases g1 : h < 1
  · exact c_lt g1 (bad (by omega))
  refine c_nlt (by omega) ?_
  by_cases g2 : h > 8
  · exact c_gt g2 (bad (by omega))
  refine c_ngt (by omega) ?_
  by_cases g3 : l < 0
  · exact c_lt g3 (bad (by omega))
  refine c_nlt (by omega) ?_
  by_cases g4 : n < 0
  · exact c_lt g4 (bad (by omega))
  refine c_nlt (by omega) ?_
  by_cases g5 : size < 0
  · exact c_lt g5 (bad (by omega))
  refine c_nlt (by omega) ?_
  by_cases g6 : size > 281474976710656
  · exact c_gt g6 (bad (by omega))
  refine c_ngt (by omega) ?_
  clear bad
  obtain ⟨h, rfl⟩ := Int.eq_ofNat_of_zero_le (by omega : 0 ≤ h)
  obtain ⟨l, rfl⟩ := Int.eq_ofNat_of_zero_le (by omega : 0 ≤ l)
  obtain ⟨n, rfl⟩ := Int.eq_ofNat_of_zero_le (by omega : 0 ≤ n)
  obtain ⟨size, rfl⟩ := Int.eq_ofNat_of_zero_le (by omega : 0 ≤ size)
  rw [widV, if_pos (by omega)] at hQ
  simp only [Int.toNat_natCast] at hQ
  have h1 : 1 ≤ h := by omega
  refine nodes_word (by omega) (by omega) (by omega) (opnI_s ?_)
  have e := nodes_cnt (l := l) (size := size) h1
  have hp := pow_le h (by omega)
  have hp0 := pow_pos2 h
  have hc := cnt_le h l size
  unfold wid at hQ
  by_cases hl2 : 48 / h < l
  · rw [if_pos hl2] at e hQ
    rw [e]
    by_cases hn0 : n = 0
    · subst hn0
      refine c_ngt (by omega) (rpow_word (by omega) (opnI_s ?_))
      have ez : IntKind.wrap .i64 (((0 : Nat) : Int) - IntKind.wrap .i64 (((0 : Nat) : Int) * ((2 ^ h : Nat) : Int))) = 0 := by simp [wrap_id]
      rw [ez]
      refine c_nlt (by omega) (N_r10_Width.j9_eq (h := rpow_word (by omega) (opnI_s (c_ngt (by omega) (N_r10_Width.j11_eq (h := hQ))))))
    · exact c_gt (by omega) hQ
  rw [if_neg hl2] at e hQ
  rw [e]
  by_cases hn1 : cnt h l size < n
  · have : cnt h l size / 2 ^ h < n := Nat.lt_of_le_of_lt (Nat.div_le_self _ _) hn1
    rw [if_pos this] at hQ
    exact c_gt (by omega) hQ
  refine c_ngt (by omega) (rpow_word (by omega) (opnI_s ?_))
  have hmul : n * 2 ^ h ≤ 281474976710656 * 256 := Nat.mul_le_mul (by omega) hp
  rw [show ((n : Int) * ((2 ^ h : Nat) : Int)) = ((n * 2 ^ h : Nat) : Int) by norm_cast, wrap_n _ (by omega), wrap_id (by omega) (by omega)]
  by_cases hn2 : cnt h l size / 2 ^ h < n
  · rw [if_pos hn2] at hQ
    have h2 := (Nat.div_lt_iff_lt_mul hp0).1 hn2
    refine c_lt (by omega) (N_r10_Width.j9_eq (h := rpow_word (by omega) (opnI_s (c_ngt (by omega) (N_r10_Width.j11_eq (h := hQ))))))
  rw [if_neg hn2] at hQ
  have h2 : n * 2 ^ h ≤ cnt h l size := (Nat.le_div_iff_mul_le hp0).1 (by omega)
  refine c_nlt (by omega) (N_r10_Width.j9_eq (h := rpow_word (by omega) (opnI_s ?_)))
  by_cases h3 : 2 ^ h < cnt h l size - n * 2 ^ h
  · rw [Nat.min_eq_right (by omega)] at hQ
    refine c_gt (by omega) (N_r10_Width.j10_eq (h := rpow_word (by omega) (opnI_s (N_r10_Width.j11_eq (h := hQ)))))
  · rw [Nat.min_eq_left (by omega)] at hQ
    rw [show ((cnt h l size : Nat) : Int) - ((n * 2 ^ h : Nat) : Int) = ((cnt h l size - n * 2 ^ h : Nat) : Int) by omega]
    exact c_ngt (by omega) (N_r10_Width.j11_eq (h := hQ))
end Go.Proofs.YtccjncflbbhldaaDoor.Pl
/-! ## PlWide -/
set_option maxRecDepth 10000
namespace Go.Proofs.YtccjncflbbhldaaDoor.Pl
open Go.Sh

/-- t at its full width -/
def wideV (t : Tl) (size : Nat) : Tl := { t with W := (wid t.H.toNat t.L.toNat t.N.toNat size : Nat) }
theorem wide_word {Q : Value → World → Prop} {t : Tl} {h l n size : Nat} {w0 : World} (hH : t.H = h) (hL : t.L = l) (hN : t.N = n) (h1 : 1 ≤ h) (h8 : h ≤ 8) (hs : size ≤ 281474976710656)
    (hQ : ∀ w', Chg None w0 w' → Q (tg (wideV t size)) w') : C_tile_wide #[tg t, .int .i64 (size : Int)] w0 Q := by
  refine C_tile_wide_eq _ _ _ _ _ _ _ _ ?_
  refine alC_box fun b w1 hb k1 hb1 => ?_
  refine alC_box fun b2 w2 hb2 k2 hlt2 => ?_
  have hb' := hb.chg k2 (fun h => h)
  have ne : b2 ≠ b := fun e => by have := hb.lt; omega
  refine opnI_c (hb'.rd 0 rfl) (opnI_c (hb'.rd 1 rfl) (opnI_c (hb'.rd 2 rfl) ?_))
  rw [hH, hL, hN]
  refine width_word h1 h8 hs fun w3 k3 => opnI_s ?_
  refine box_set (hb'.chg k3 (fun h => h)) (by simp) rfl fun w4 hb4 k4 => ?_
  refine rd_tile (t := wideV t size) (by simpa [tv, wideV, hH, hL, hN] using hb4) ?_
  refine set_tile (t := wideV t size) (old := [.int .i64 0, .int .i64 0, .int .i64 0, .int .i64 0, .bool false]) ((hb2.chg k3 (fun h => h)).chg k4 ne) rfl fun w5 hb5 k5 => rd_tile hb5 ?_
  have k04 : Chg None w0 w4 := Chg.fresh (k1.none_trans (k2.none_trans k3)) k4 fun x hx => by rw [hx]; exact hb1
  exact hQ w5 (Chg.fresh k04 k5 fun x hx => by rw [hx]; have := k1.size; omega)
/-- the place over a full tile -/
theorem topOf_word {Q : Value → World → Prop} {t : Tl} {h l n : Nat} {w0 : World} (hH : t.H = h) (hL : t.L = l) (hN : t.N = n) (hl : h * (l + 1) ≤ 48) (hn : (n + 1) * 2 ^ (h * (l + 1)) ≤ 281474976710656)
    (hQ : ∀ w', Chg None w0 w' → Q (.int .i64 ((placeOf (h * (l + 1)) n : Nat) : Int)) w') : C_tile_topOf #[tg t] w0 Q := by
  refine C_tile_topOf_eq _ _ _ _ _ _ _ ?_
  refine alC_box fun b w1 hb k1 hb1 => ?_
  refine opnI_c (hb.rd 0 rfl) (opnI_c (hb.rd 1 rfl) (opnI_c (hb.rd 2 rfl) ?_))
  rw [hH, hL, hN]
  have hl1 : l + 1 ≤ 48 ∨ h = 0 := by
    rcases Nat.eq_zero_or_pos h with g | g
    · exact .inr g
    · have : l + 1 ≤ h * (l + 1) := Nat.le_mul_of_pos_left _ g
      exact .inl (by omega)
  have e : IntKind.wrap .i64 ((h : Int) * IntKind.wrap .i64 ((l : Int) + 1)) = ((h * (l + 1) : Nat) : Int) := by
    rcases hl1 with g | g
    · rw [wrap_nat (by omega), wrap_mul (by omega)]
    · subst g
      rw [Int.natCast_zero, Int.zero_mul, Nat.zero_mul]; rfl
  rw [e]
  refine index_word (fun _ => ⟨rfl, ⟨rfl, ⟨rfl, hQ w1 k1⟩⟩⟩) fun g => absurd ⟨by omega, by omega, by omega, by rw [Int.toNat_natCast, Int.toNat_natCast]; exact hn⟩ g

/-! ### the document's -/
theorem rof_word {Q : Value → World → Prop} {h c : Int} {w0 : World} (hQ : ∀ w', Chg None w0 w' → Q (.tuple #[tg (ofV h c).1, .int .i64 (ofV h c).2]) w') : C_r10_Of #[.int .i64 h, .int .i64 c] w0 Q := by
  refine C_r10_Of_eq _ _ _ _ ?_
  refine alC_box fun b w1 hb k1 hb1 => ?_
  have bad : ¬ (1 ≤ h ∧ h ≤ 8 ∧ 0 ≤ c ∧ c < 562949953421311) → N_r10_Of.j2 Q ⟨b, 0, none⟩ w1 := by
    intro hn
    refine N_r10_Of.j2_eq (h := set_tile (t := tz) hb rfl fun w2 hb2 k2 => rd_tile hb2 ?_)
    have := hQ w2 (Chg.fresh k1 k2 fun x hx => by rw [hx]; exact hb1)
    rw [ofV, if_neg hn] at this
    exact this
  by_cases g1 : h < 1
  · exact c_lt g1 (bad (by omega))
  refine c_nlt (by omega) ?_
  by_cases g2 : h > 8
  · exact c_gt g2 (bad (by omega))
  refine c_ngt (by omega) ?_
  obtain ⟨h, rfl⟩ := Int.eq_ofNat_of_zero_le (by omega : 0 ≤ h)
  have h1 : 1 ≤ h := by omega
  have h8 : h ≤ 8 := by omega
  refine rsplit_word (fun c' hc hlt w2 k2 => ⟨rfl, ⟨rfl, ⟨rfl, ⟨rfl, c_nne rfl ?_⟩⟩⟩⟩) fun hn => ⟨rfl, ⟨rfl, ⟨rfl, ⟨rfl, c_ne (by decide) ?_⟩⟩⟩⟩
  · subst hc
    refine ⟨by omega, ?_⟩
    have hf := fold_lt (c := c') h1
    have hat := at_le (h := h) hlt
    have hlv := lev_le hlt
    have hdv : levOf c' / h ≤ levOf c' := Nat.div_le_self _ _
    have hmod := Nat.mod_lt (atOf h c') (pow_pos2 h)
    have hp := pow_le h h8
    have hp0 := pow_pos2 h
    have hpf : 2 ^ foldOf h c' ≤ 256 := pow_le _ (by omega)
    have hdn : atOf h c' / 2 ^ h ≤ atOf h c' := Nat.div_le_self _ _
    rw [tmod_nat, show levOf c' % h = foldOf h c' from rfl]
    refine rpow_word (by omega) (opnI_s ?_)
    rw [drw_s]
    have hk2 : Chg None w1 w2.drew := k2.drew
    have e1 : IntKind.wrap .i64 (((nodOf c' : Nat) : Int) * ((2 ^ foldOf h c' : Nat) : Int)) = ((atOf h c' : Nat) : Int) := by
      rw [show ((nodOf c' : Nat) : Int) * ((2 ^ foldOf h c' : Nat) : Int) = ((atOf h c' : Nat) : Int) by rw [atOf]; norm_cast]
      exact wrap_n _ (by omega)
    have e2 : IntKind.wrap .i64 (Int.tdiv ((levOf c' : Nat) : Int) (h : Int)) = ((levOf c' / h : Nat) : Int) := by rw [tdiv_nat, wrap_n _ (by omega)]
    have e3 : IntKind.wrap .i64 (Int.tdiv ((atOf h c' : Nat) : Int) ((2 ^ h : Nat) : Int)) = ((atOf h c' / 2 ^ h : Nat) : Int) := by rw [tdiv_nat, wrap_n _ (by omega)]
    have last : ∀ (b2 : Nat) (w3 : World), Blk w3 b2 37 [.int .i64 (h : Int), .int .i64 ((levOf c' / h : Nat) : Int), .int .i64 ((atOf h c' / 2 ^ h : Nat) : Int), .int .i64 0, .bool false] → Chg None w2.drew w3 → w2.drew.heap.size ≤ b2 → N_r10_Of.j9 Q (h : Int) ⟨b, 0, none⟩ ((2 ^ foldOf h c' : Nat) : Int) ((atOf h c' : Nat) : Int) ⟨b2, 0, none⟩ w3 := by
      intro b2 w3 hb3 k3 hlt3
      refine N_r10_Of.j9_eq (h := rpow_word (by omega) (opnI_s ⟨by omega, ?_⟩))
      rw [tmod_nat, ← Int.natCast_add, wrap_n _ (by omega)]
      refine box_set hb3 (by simp [tv]) rfl fun w4 hb4 k4 => ?_
      have hb0 := (hb.chg (hk2.none_trans k3) (fun h => h)).chg k4 (by have := hb.lt; have := hk2.size; omega)
      refine N_r10_Of.j10_eq (h := rd_tile (t := tlOf h c') hb4 ?_)
      refine set_tile (t := tlOf h c') hb0 rfl fun w5 hb5 k5 => rd_tile hb5 ?_
      have k04 : Chg None w0 w4 := Chg.fresh ((k1.none_trans hk2).none_trans k3) k4 fun x hx => by rw [hx]; have := k1.size; have := hk2.size; omega
      have := hQ w5 (Chg.fresh k04 k5 fun x hx => by rw [hx]; exact hb1)
      rw [ofV, if_pos (by omega)] at this
      exact this
    rw [e1, e2]
    refine ⟨by omega, rpow_word (by omega) (opnI_s ⟨by omega, ?_⟩), ?_⟩
    · rw [e3]
      exact mkbox5 rfl fun b2 w3 hb3 k3 hlt3 => last b2 w3 hb3 k3 hlt3
    · refine alC_box fun b2 w3 hb3 k3 hlt3 => rpow_word (by omega) (opnI_s ⟨by omega, ?_⟩)
      rw [e3]
      exact ⟨rfl, box5 hb3 rfl rfl fun w4 hb4 k4 => last b2 w4 hb4 (Chg.fresh k3 k4 fun x hx => by rw [hx]; exact hlt3) hlt3⟩
  · refine set_tile (t := tz) hb rfl fun w2 hb2 k2 => rd_tile hb2 ?_
    have := hQ w2 (Chg.fresh k1 k2 fun x hx => by rw [hx]; exact hb1)
    rw [ofV, if_neg (by omega)] at this
    exact this
/-- what the document's wide answers -/
noncomputable def rwideV (h size c : Int) : Tl := { (ofV h c).1 with W := (widV h (ofV h c).1.L (ofV h c).1.N size).1 }
theorem ofV_L (h c : Int) : (ofV h c).1.L ≤ 9223372036854775807 := by
  unfold ofV
  split
  · rename_i g
    have := lev_le (c := c.toNat) (by omega)
    have h2 : levOf c.toNat / h.toNat ≤ levOf c.toNat := Nat.div_le_self _ _
    simp only [tlOf]; omega
  · decide
end Go.Proofs.YtccjncflbbhldaaDoor.Pl
/-! ## ShGj0 -/
set_option maxRecDepth 100000
namespace Go.Proofs.YtccjncflbbhldaaDoor
open Go.Sh
/-! ### (ledger/tlog.hasher).join -/
noncomputable def B_tlog_hasher_join : Code := match Tryd.f112.body with | some c => c | _ => .skip
noncomputable def X_tlog_hasher_join : Cx := { P := PP, fn := 112, N := 12, tab := tab, results := [.cell 6 29], iter := fun _ => (.none, .none), dyn := fun r => cond (Nat.beq r 8) true (false), live := fun _ => none }
theorem K_tlog_hasher_join : OkF X_tlog_hasher_join B_tlog_hasher_join Tryd.f112 := ⟨⟨tab_ok, mix_ok⟩, Tryd.func112, by kernel_rfl, by kernel_rfl, by kernel_rfl, by kernel_rfl⟩
theorem C_tlog_hasher_join_eq (Q : Value → World → Prop) (a0_0 : Int) (a0_1 : Value) (a0_2 : Value) (a0_3 : Value) (a1 : Array Value) (a2 : Array Value) (w : World) (h :
  alC #[.int .i64 a0_0, a0_1, a0_2, a0_3] 143 w fun p1 w2 =>
  alC a1 29 w2 fun p3 w4 =>
  alC a2 29 w4 fun p5 w6 =>
  alZ PP 29 w6 fun p7 w8 =>
  opnV (w8.cell? (p1.add 3)) fun x9 =>
  opnRow w8 p3 (32 * 1) fun x10 =>
  opnRow w8 p5 (32 * 1) fun x11 =>
  invk PP x9 #[.agg x10, .agg x11] w8 fun v12 w13 =>
  opnG (some v12) fun x14 =>
  stRow p7 x14 (32 * 1) w13 fun w15 =>
  opnRow w15 p7 (32 * 1) fun x16 =>
  Q (.agg x16) w15) :
C_tlog_hasher_join #[.agg #[.int .i64 a0_0, a0_1, a0_2, a0_3], .agg a1, .agg a2] w Q := C_fold K_tlog_hasher_join (by kernel_rfl) h
end Go.Proofs.YtccjncflbbhldaaDoor
/-! ## ShL16 -/
namespace Go.Sh
open Go.ChangeShapes
variable {P : Program}
section
variable {α : Type} {enc : α → List Value} {sz : Nat} {w : World}
/-- a row, read -/
theorem rd_rowP (hs : ∀ x, (enc x).length = sz) {S : Nat → Prop} {p : Addr} {l : List α} (h : Lies w S (some p) (l.flatMap enc)) {i : Nat} {x : α} (hx : l[i]? = some x) {n : Nat} (hn : sz = n) {K : Array Value → Prop} (hK : K (enc x).toArray) : opnRow w (p.add (i * sz)) n K :=
  row_c ((hs x).trans hn) (fun j v hv => by
    have hj : j < sz := by have := (List.getElem?_eq_some_iff.1 hv).1; rwa [hs] at this
    obtain ⟨q, hq, _, hc⟩ := h (i * sz + j) v (by rw [flat_get enc sz hs l _ j x hx hj]; exact hv)
    cases hq
    rw [add_add']; exact hc) hK
theorem rd_row (hs : ∀ x, (enc x).length = sz) {S : Nat → Prop} {a : Option Addr} {l : List α} (h0 : 0 < sz) (h : Lies w S a (l.flatMap enc)) {i : Nat} {x : α} (hx : l[i]? = some x) {n : Nat} (hn : sz = n) {K : Array Value → Prop} (hK : K (enc x).toArray) : opnA a fun ad => opnRow w (ad.add (i * sz)) n K := by
  obtain ⟨p, rfl⟩ := lies_flat_some hs h0 h (i := i) (List.getElem?_eq_some_iff.1 hx).1
  exact rd_rowP hs h hx hn hK
/-- a row, written -/
theorem st_row (hs : ∀ x, (enc x).length = sz) {e n c : Nat} {a : Option Addr} {l : List α} (h : Own w e sz a n c (l.flatMap enc)) {i : Nat} (hi : i < l.length) (x : α) (h0 : 0 < sz) (h1 : (enc x).all Value.oneCell' = true) {m : Nat} (hm : sz = m) {K : World → Prop} (hK : ∀ w', Own w' e sz a n c ((l.set i x).flatMap enc) → Chg (At a) w w' → K w') :
    opnA a fun ad => stRow (ad.add (i * sz)) (enc x).toArray m w K := by
  have hl := h.len
  rw [flat_len enc sz hs] at hl
  have hln : l.length = n := Nat.eq_of_mul_eq_mul_right h0 hl
  rcases h.row with ⟨rfl, h2, h3⟩ | ⟨b, rest, rfl, h2, h3, h4⟩
  · omega
  · have el : l = l.take i ++ l[i] :: l.drop (i + 1) := by rw [List.getElem_cons_drop, List.take_append_drop]
    have e : l.flatMap enc ++ rest = (l.take i).flatMap enc ++ enc l[i] ++ ((l.drop (i + 1)).flatMap enc ++ rest) := by
      have := congrArg (fun q => List.flatMap enc q ++ rest) el
      simp only [List.flatMap_append, List.flatMap_cons] at this
      rw [this]; simp
    have es : (l.set i x).flatMap enc ++ rest = (l.take i).flatMap enc ++ enc x ++ ((l.drop (i + 1)).flatMap enc ++ rest) := by
      rw [List.set_eq_take_append_cons_drop, if_pos hi]; simp
    rw [e] at h2
    show stRow ((⟨b, 0, none⟩ : Addr).add (i * sz)) (enc x).toArray m w K
    rw [add_at, Nat.zero_add]
    refine Blk.stRow h2 ?_ ?_ ?_ ?_ fun w' hb k => hK w' ⟨?_, .inr ⟨b, rest, rfl, ?_, ?_, h4⟩⟩ (k.mono fun j _ hj => ⟨_, rfl, hj.symm⟩)
    · rw [flat_len enc sz hs, List.length_take]; congr 1; omega
    · simp [hs, hm]
    · simp [hs]
    · simpa using h1
    · rw [flat_len enc sz hs, List.length_set]; exact congrArg (· * sz) hln
    · rw [es]; exact hb
    · have : ((l.set i x).flatMap enc ++ rest).length = (l.flatMap enc ++ rest).length := by simp only [List.length_append, flat_len enc sz hs, List.length_set]
      rw [this]; exact h3
end
/-- make of elements whose cells are all one value -/
theorem make_same {t e sz by_ : Nat} {v : Value} (T : SlT P t e sz by_) (hz : ((P.info? e).bind (·.zero)).map (·.cells) = some (List.replicate sz v).toArray) {w : World} {l c : Nat} (hlc : l ≤ c) (hb : by_ * c ≤ 281474976710656) (h63 : c ≤ 9223372036854775807) {K : Value → World → Prop}
    (hK : ∀ b w', Own w' e sz (some ⟨b, 0, .none⟩) l c (List.replicate (l * sz) v) → Chg None w w' → w.heap.size ≤ b → K (.slice (some ⟨b, 0, .none⟩) l c) w') : sem P (Instr.makeSlice t (.int .i64 (l : Int)) (.int .i64 (c : Int))) w K := by
  obtain ⟨i, z, hi, hzz, rfl, rfl, hzs⟩ := T.get
  have hz' : z.cells = (List.replicate i.size v).toArray := by
    rw [hi] at hz
    simpa [hzz] using hz
  have hb' : (i.bytes : Int) * (c : Int) ≤ 281474976710656 := by
    have h : ((i.bytes * c : Nat) : Int) ≤ 281474976710656 := by omega
    rwa [Int.natCast_mul] at h
  unfold sem
  rw [run_make (P := P) w t e i z T.ht hi hzz .i64 .i64 l c (by omega) (by omega) hb' (by omega)]
  simp only [Int.toNat_natCast]
  have hle : l * i.size ≤ c * i.size := Nat.mul_le_mul_right _ hlc
  have e1 : (madeCells z.cells (c * i.size)).toList = List.replicate (l * i.size) v ++ List.replicate (c * i.size - l * i.size) v := by
    rw [List.replicate_append_replicate, show l * i.size + (c * i.size - l * i.size) = c * i.size by omega]
    apply List.ext_getElem?
    intro j
    by_cases hj : j < c * i.size
    · have hp : 0 < i.size := by
        rcases Nat.eq_zero_or_pos i.size with h | h
        · rw [h, Nat.mul_zero] at hj; omega
        · exact h
      have : j % i.size < i.size := Nat.mod_lt _ hp
      simp [madeCells, hj, hz', this]
    · simp [madeCells, hj]
  refine hK _ _ ⟨by simp, .inr ⟨w.heap.size, List.replicate (c * i.size - l * i.size) v, rfl, ?_, ?_, hlc⟩⟩ (chg_alloc w _) (Nat.le_refl _)
  · have := blk_alloc (w := w) (t := e) (cs := madeCells z.cells (c * i.size))
    rw [e1] at this; exact this
  · simp only [List.length_append, List.length_replicate]; omega
end Go.Sh
/-! ## TreeMem -/
set_option maxRecDepth 10000
namespace Go.Proofs.YtccjncflbbhldaaDoor
open Go.Sh Go.RowKit
open Pl (wrap_n tdiv_nat)
theorem T22 : SlT PP 22 29 32 32 := ⟨by kernel_rfl, by kernel_rfl⟩
section
variable {Q : Value → World → Prop} {w : World}
/-- a leaf's hash -/
theorem leaf_word {k : Int} {d : List UInt8} {a : Option Addr} {c : Nat} {S : Nat → Prop} (st : ShaStd w) (hd : Lies w S a (bvs d)) (hc : d.length ≤ c) (hl : d.length ≤ 1000000000) (hQ : ∀ w', Chg None w w' → Q (.agg (hb (leafH k d)).toArray) w') : C_tlog_LeafHash #[.int .i64 k, .slice a d.length c] w Q := by
  refine C_tlog_LeafHash_eq _ _ _ _ _ _ ?_
  refine alZ_box zero29 fun p1 w1 h1 k1 lo1 => ?_
  refine hasher_word (k := k) fun b1 b3 w2 H lob1 lob3 k2 => ?_
  unfold hasherV
  rw [opnG_s]
  refine ⟨rfl, opnI_c rfl (opnV_c (v := fOf b1) rfl (opnV_c (v := fLeaf b3) rfl (opnV_c (v := fNode b3) rfl ?_)))⟩
  rw [P_inv109]
  refine C_tlog_hasherOf_S2_eq _ _ _ _ _ _ ?_
  refine alZ_box zero29 fun p3 w3 h3 k3 lo3 => ?_
  have k03 := k1.none_trans (k2.none_trans k3)
  rw [wrap_nat (by omega)]
  refine make_empty T25 (c := d.length + 1) (by omega) (by omega) fun bt w4 o4 k4 lo4 => ?_
  rw [opnL_s]
  refine push_u8 T25 (w0 := w3) (l := []) (by simpa [bvs] using o4) (fun k ⟨p, hp, hk⟩ => by cases hp; subst hk; exact lo4) k4 0 rfl (by omega) fun a5 c5 w5 o5 f5 k5 => ?_
  rw [drw_s]
  have k6 : Chg None w3 w5.drew := k5.drew
  have o6 := o5.chg0 (Chg.drew0 w5)
  have hf6 := (H.chg0 k3).f.chg k6 (fun h => h)
  generalize w5.drew = w6 at k6 o6 hf6
  refine opnV_c (v := fOf b1) (by have := hf6.rd 0 rfl; rwa [add_zero] at this) ?_
  refine app_u8 T25 V25 (w0 := w3) o6 f5 k6 (hd.chg0 (k03.none_trans k6)) (m := d.length) rfl (by omega) fun a8 c8 w8 o8 f8 k8 => ?_
  have hf8 := (H.chg0 k3).f.chg k8 (fun h => h)
  refine ⟨opnV_c (v := fOf b1) (by have := hf8.rd 0 rfl; rwa [add_zero] at this) rfl, ?_⟩
  rw [P_inv107]
  have hlen : (([] : List UInt8) ++ [0] ++ d).length = 0 + 1 + d.length := by simp; omega
  have k08 : Chg None w w8 := k03.none_trans k8
  have hle := o8.le
  rw [← hlen] at o8 hle ⊢
  refine of_word (k := k) (st.chg0 k08) ((H.chg0 k3).chg0 k8) o8.lies hle (by rw [hlen]; omega) fun w9 k9 => ?_
  rw [opnG_s]
  have e : (([] : List UInt8) ++ [0] ++ d) = 0 :: d := by simp
  rw [e]
  have hnl : (bvs (leafV k d)).length = 32 := by rw [bvs_len, leafV_len]
  refine Blk.stAll ((h3.chg k8 (fun h => h)).chg k9 (fun h => h)) ?_ ?_ ?_ fun w10 h10 k10 => ?_
  · exact hnl
  · exact hnl
  · rw [List.all_eq_true]; exact bvs_one
  refine Blk.rowAll h10 (n := 32) hnl ?_
  rw [opnG_s]
  have k010 : Chg None w w10 := Chg.fresh (k08.none_trans k9) k10 fun x hx => by rw [hx]; exact Nat.le_trans (k1.none_trans k2).size lo3
  have n13 : p1 ≠ p3 := fun e => by
    have a1 := h1.lt
    have a2 := k2.size
    omega
  refine Blk.stAll ((((h1.chg k2 (fun h => h)).chg (k3.none_trans k8) (fun h => h)).chg k9 (fun h => h)).chg k10 n13) ?_ ?_ ?_ fun w11 h11 k11 => ?_
  · exact hnl
  · exact hnl
  · rw [List.all_eq_true]; exact bvs_one
  refine Blk.rowAll h11 (n := 32) hnl ?_
  exact hQ w11 (Chg.fresh k010 k11 fun x hx => by rw [hx]; exact lo1)
/-- a tree in memory -/
structure Tr (w : World) (k : Int) (b b1 b3 : Nat) (a : Option Addr) (c : Nat) (st : List Hsh) (n : Nat) : Prop where
  hs : Hs w k b1 b3
  box : Blk w b 149 [.int .i64 ((keepK k : Nat) : Int), fOf b1, fLeaf b3, fNode b3, .slice a st.length c, .int .i64 (n : Int)]
  own : Own w 29 32 a st.length c (hvs st)
  d1 : ∀ x, At a x → x ≠ b ∧ x ≠ b1 ∧ x ≠ b3
  d2 : b ≠ b1 ∧ b ≠ b3
theorem Tr.chg0 {w' : World} {k : Int} {b b1 b3 c n : Nat} {a : Option Addr} {st : List Hsh} (T : Tr w k b b1 b3 a c st n) (h : Chg None w w') : Tr w' k b b1 b3 a c st n := ⟨T.hs.chg0 h, T.box.chg h (fun h => h), T.own.chg0 h, T.d1, T.d2⟩
theorem Tr.chg {w' : World} {k : Int} {b b1 b3 c n : Nat} {a : Option Addr} {st : List Hsh} {D : Nat → Prop} (T : Tr w k b b1 b3 a c st n) (h : Chg D w w') (h0 : ¬ D b) (h1 : ¬ D b1) (h3 : ¬ D b3) (ha : ∀ x, At a x → ¬ D x) : Tr w' k b b1 b3 a c st n := ⟨T.hs.chg h h1 h3, T.box.chg h h0, T.own.chg h ha, T.d1, T.d2⟩
/-- one more hash behind the stored ones: the append and the field's store -/
theorem tr_push {k : Int} {b b1 b3 c n p : Nat} {a : Option Addr} {st : List Hsh} {x : Hsh} (T : Tr w k b b1 b3 a c st n) (hp : Blk w p 29 (hb x)) (hn : st.length < 1000000) {K : World → Prop}
    (hK : ∀ a' c' w', Tr w' k b b1 b3 a' c' (st ++ [x]) n → Chg (fun y => At a y ∨ y = b) w w' → (a' = a ∨ ∃ b', a' = some ⟨b', 0, none⟩ ∧ w.heap.size ≤ b') → K w') :
    sem PP (Builtin.append_ #[22, 22] 22 #[.slice a st.length c, .slice (some ⟨p, 0, none⟩) 1 1]) w fun v27 w28 => opnL (some v27) fun x29 x29n x29c => opnA (some ⟨b, 0, none⟩) fun ad30 => stC (ad30.add 4) (.slice x29 x29n x29c) w28 K := by
  have hsrc : Src PP 32 22 (.slice (some ⟨p, 0, none⟩) 1 1) 1 (hb x) w := src_lies T22.ht (hp.lies (S := fun _ => True) trivial) (by rw [hb_len]) (.inr (by decide)) (List.all_eq_true.1 (hb_one x))
  refine append_own T22 T.own hsrc (by simp only [maxLen]; omega) (by omega) fun a' c' w1 o1 k1 f1 => ?_
  rw [opnL_s, opnA_e]
  have hfr : ∀ y, At a' y → y ≠ b ∧ y ≠ b1 ∧ y ≠ b3 := by
    rcases f1 with rfl | ⟨b', rfl, hlo⟩
    · exact T.d1
    · rintro y ⟨q, hq, hy⟩
      cases hq
      have hy' : b' = y := hy
      have e1 := T.box.lt
      have e2 := T.hs.k.lt
      have e3 := T.hs.f.lt
      exact ⟨by omega, by omega, by omega⟩
  have hb1 := T.box.chg k1 fun h => (T.d1 _ h).1 rfl
  refine box_set hb1 (j := 4) (show 4 < 6 by decide) rfl fun w2 hb2 k2 => ?_
  have e1 : (st ++ [x]).length = st.length + 1 := by simp
  have e2 : hvs (st ++ [x]) = hvs st ++ hb x := by simp [hvs]
  refine hK a' c' w2 ⟨(T.hs.chg k1 (fun h => (T.d1 _ h).2.1 rfl) (fun h => (T.d1 _ h).2.2 rfl)).chg k2 (fun e => T.d2.1 e.symm) (fun e => T.d2.2 e.symm), ?_, ?_, hfr, T.d2⟩ ?_ f1
  · rw [e1]; exact hb2
  · rw [e1, e2]; exact o1.chg k2 fun y hy e => (hfr y hy).1 e
  · exact Chg.trans k1 k2 (fun _ _ h => .inl h) (fun _ _ h => .inr h)
end
end Go.Proofs.YtccjncflbbhldaaDoor
/-! ## TreeAdd -/
set_option maxRecDepth 10000
namespace Go.Proofs.YtccjncflbbhldaaDoor
open Go.Sh Go.RowKit
open Pl (wrap_n tdiv_nat i64_and shr_nat place_word)
section
variable {Q : Value → World → Prop}
theorem nodeh_word {w : World} {k : Int} {b1 b3 : Nat} {l r : Hsh} (st : ShaStd w) (H : Hs w k b1 b3) (hQ : ∀ w', Chg None w w' → Q (.agg (hb (nodeH k l r)).toArray) w') : invk PP (fNode b3) #[.agg (hb l).toArray, .agg (hb r).toArray] w Q := by
  rw [P_inv110]
  exact nodef_word st H l.2 r.2 hQ
theorem laid_lt17 {n : Nat} (h : n ≤ 65536) : laid n ≤ 131072 := by have := laid_le n; omega
theorem addloop {k : Int} {f : Nat → Hsh} {n b b1 b3 p : Nat} {w0 : World} (sd0 : ShaStd w0) (hn : n < 65536)
    (hQ : ∀ a c st w', Tr w' k b b1 b3 a c st (n + 1) → Stored k f (n + 1) st → (∀ x, At a x → w0.heap.size ≤ x) → Chg None w0 w' → Q (.tuple #[.int .i64 (n : Int), .int .i64 0]) w') (hb0 : w0.heap.size ≤ b) (hp0 : w0.heap.size ≤ p) (pb : p ≠ b ∧ p ≠ b1 ∧ p ≠ b3) :
    ∀ (m level : Nat) (a : Option Addr) (c : Nat) (st : List Hsh) (w : World), Tr w k b b1 b3 a c st n → Going k f n level m st → Blk w p 29 (hb (nodeAt k f level m)) → (∀ x, At a x → w0.heap.size ≤ x ∧ x ≠ p) → Chg None w0 w →
    N_p_tlog_Tree_Add.j7 Q (some ⟨b, 0, none⟩) (n : Int) ⟨p, 0, none⟩ (level : Int) (m : Int) w := by
  intro m
  induction m using Nat.strongRecOn with
  | _ m ih =>
  intro level a c st w T G hp ha k0
  have hm65 : m ≤ n := by
    have h1 := G.num
    have h2 := Nat.pow_pos (n := level) (show 0 < 2 by decide)
    have h3 : (m + 1) * 1 ≤ (m + 1) * 2 ^ level := Nat.mul_le_mul_left _ h2
    omega
  have hlev : level ≤ 16 := by
    rcases Nat.lt_or_ge 16 level with g | g
    · exfalso
      have h1 := G.num
      have h2 : 2 ^ 17 ≤ 2 ^ level := Nat.pow_le_pow_right (by decide) g
      have h3 : 1 * 2 ^ level ≤ (m + 1) * 2 ^ level := Nat.mul_le_mul_right _ (by omega)
      have h4 : (2 : Nat) ^ 17 = 131072 := by decide
      omega
    · exact g
  refine N_p_tlog_Tree_Add.j7_eq (h := ?_)
  have hbit : bits .and .i64 (m : Int) 1 = ((m % 2 : Nat) : Int) := by
    have := i64_and m 1 (by omega) (by decide)
    rw [show ((1 : Nat) : Int) = 1 from rfl, Nat.and_one_is_mod] at this
    exact this
  rw [hbit]
  by_cases g : m % 2 = 1
  · refine c_t (by rw [g]; rfl) ?_
    rw [drw_s]
    have T1 := T.chg0 (Chg.drew0 (D := None) w)
    have hp1 := hp.chg (Chg.drew0 (D := None) w) (fun h => h)
    have k1 := k0.none_trans (Chg.drew0 (D := None) w)
    generalize w.drew = w1 at T1 hp1 k1
    rw [opnA_e, opnA_e]
    have r4 : w1.cell? (((⟨b, 0, none⟩ : Addr).add 0).add 3) = some (fNode b3) := T1.box.rd2 0 3 rfl
    have r5 : w1.cell? ((⟨b, 0, none⟩ : Addr).add 4) = some (.slice a st.length c) := T1.box.rd 4 rfl
    refine opnV_c r4 (opnL_c r5 (Blk.rowAll hp1 (n := 32) (hb_len _) ?_))
    have e1 : IntKind.wrap .i64 ((m : Int) - 1) = ((m - 1 : Nat) : Int) := by rw [wrap_id (by omega) (by omega)]; omega
    rw [e1]
    have hmp : (m - 1 + 1) * 2 ^ level ≤ n := by
      have h1 := G.num
      have hpw := Nat.pow_pos (n := level) (show 0 < 2 by decide)
      rw [show m - 1 + 1 = m by omega]
      rw [Nat.add_mul, Nat.one_mul] at h1
      omega
    refine place_word (by omega) (by omega) ?_
    refine opnI_c rfl ⟨Blk.rowAll hp1 (n := 32) (hb_len _) rfl, opnL_c r5 rfl, opnV_c r4 rfl, by omega, ?_⟩
    have hsib := G.sib g
    have hlt : placeOf level (m - 1) < st.length := (List.getElem?_eq_some_iff.1 hsib).1
    refine ⟨by omega, ?_⟩
    rw [Int.toNat_natCast]
    refine rd_row hb_len (by decide) T1.own.lies hsib (n := 32 * 1) rfl ?_
    refine nodeh_word (sd0.chg0 k1) T1.hs fun w2 k2 => ?_
    rw [opnG_s]
    have hp2 := hp1.chg k2 (fun h => h)
    refine Blk.stAll hp2 ?_ ?_ ?_ fun w3 hp3 k3 => ?_
    · exact hb_len _
    · simp [hb_len]
    · exact hb_one _
    have T3 := (T1.chg0 k2).chg k3 (fun e => pb.1 e.symm) (fun e => pb.2.1 e.symm) (fun e => pb.2.2 e.symm) fun x hx => (ha x hx).2
    have k03 : Chg None w0 w3 := Chg.fresh (k1.none_trans k2) k3 fun x hx => by rw [hx]; exact hp0
    rw [drw_s]
    have T4 := T3.chg0 (Chg.drew0 (D := None) w3)
    have hp4 := hp3.chg (Chg.drew0 (D := None) w3) (fun h => h)
    have k04 := k03.none_trans (Chg.drew0 (D := None) w3)
    generalize w3.drew = w4 at T4 hp4 k04
    rw [opnA_e]
    refine opnL_c (T4.box.rd 4 rfl) (Blk.rowAll hp4 (n := 32) (by simp [hb_len]) ⟨by simp [hb_len], ?_⟩)
    refine alC_box fun q w5 hq5 k5 lo5 => ?_
    have T5 := T4.chg0 k5
    refine ⟨opnL_c (T5.box.rd 4 rfl) rfl, ?_⟩
    have hlen := G.len
    have hl17 := laid_lt17 (n := n) (by omega)
    refine tr_push (x := nodeH k (nodeAt k f level (m - 1)) (nodeAt k f level m)) T5 (by simpa using hq5) (by omega) fun a' c' w6 T6 k6 f6 => ?_
    have e2 : IntKind.wrap .i64 ((level : Int) + 1) = ((level + 1 : Nat) : Int) := wrap_nat (by omega)
    have e3 : shrI .i64 (m : Int) 1 = ((m / 2 : Nat) : Int) := by have := shr_nat m 1 (by omega); simpa using this
    rw [e2, e3]
    have k06 : Chg None w0 w6 := Chg.fresh (k04.none_trans k5) k6 fun x hx => by
      rcases hx with h | h
      · exact (ha x h).1
      · rw [h]; exact hb0
    have pq : p ≠ q := fun e => by have := hp4.lt; omega
    have hp6 : Blk w6 p 29 (hb (nodeH k (nodeAt k f level (m - 1)) (nodeAt k f level m))) := by
      have := (hp4.chg k5 (fun h => h)).chg k6 fun h => h.elim (fun h => (ha p h).2 rfl) pb.1
      simpa using this
    refine ih (m / 2) (by omega) (level + 1) a' c' _ w6 T6 (G.step g) ?_ ?_ k06
    · rw [nodeAt, show 2 * (m / 2) = m - 1 by omega, show m - 1 + 1 = m by omega]; exact hp6
    · rcases f6 with rfl | ⟨b', rfl, hlo⟩
      · exact ha
      · rintro x ⟨y, hy, hx⟩
        cases hy
        have hx' : b' = x := hx
        have a1 := k04.size
        have a2 := k5.size
        have a3 := hp4.lt
        exact ⟨by omega, by omega⟩
  · have g0 : m % 2 = 0 := by omega
    refine c_f (by rw [g0]; rfl) ?_
    rw [opnA_e]
    refine opnI_c (T.box.rd 5 rfl) ?_
    rw [opnA_e, wrap_nat (by omega)]
    refine box_set T.box (j := 5) (show 5 < 6 by decide) rfl fun w1 h1 k1 => ?_
    refine hQ a c st w1 ⟨T.hs.chg k1 (fun e => T.d2.1 e.symm) (fun e => T.d2.2 e.symm), h1, T.own.chg k1 fun x hx e => (T.d1 x hx).1 e, T.d1, T.d2⟩ (G.done g0) (fun x hx => (ha x hx).1) (Chg.fresh k0 k1 fun x hx => by rw [hx]; exact hb0)
/-- a record goes in -/
theorem add_word {k : Int} {f : Nat → Hsh} {n b b1 b3 : Nat} {w0 w : World} {a : Option Addr} {c : Nat} {st : List Hsh} (sd0 : ShaStd w0) (hn : n < 65536) (hb0 : w0.heap.size ≤ b) (T : Tr w k b b1 b3 a c st n) (G : Stored k f n st) (ha : ∀ x, At a x → w0.heap.size ≤ x) (k0 : Chg None w0 w)
    (hQ : ∀ a c st w', Tr w' k b b1 b3 a c st (n + 1) → Stored k f (n + 1) st → (∀ x, At a x → w0.heap.size ≤ x) → Chg None w0 w' → Q (.tuple #[.int .i64 (n : Int), .int .i64 0]) w') :
    C_p_tlog_Tree_Add #[.pointer (some ⟨b, 0, none⟩), .agg (hb (f n)).toArray] w Q := by
  refine C_p_tlog_Tree_Add_eq _ _ _ _ ?_
  refine alC_box fun p1 w1 h1 k1 lo1 => ?_
  have T1 := T.chg0 k1
  rw [opnA_e]
  refine opnI_c (T1.box.rd 5 rfl) (c_f (by rw [decide_eq_false]; omega) ?_)
  rw [opnA_e]
  refine opnI_c (T1.box.rd 5 rfl) ?_
  rw [drw_s]
  have T2 := T1.chg0 (Chg.drew0 (D := None) w1)
  have h2 := h1.chg (Chg.drew0 (D := None) w1) (fun h => h)
  have k2 := (k0.none_trans k1).none_trans (Chg.drew0 (D := None) w1)
  generalize w1.drew = w2 at T2 h2 k2
  rw [opnA_e]
  refine opnL_c (T2.box.rd 4 rfl) (Blk.rowAll h2 (n := 32) (by simp [hb_len]) ⟨by simp [hb_len], ?_⟩)
  refine alC_box fun p3 w3 h3 k3 lo3 => ?_
  have T3 := T2.chg0 k3
  refine ⟨opnL_c (T3.box.rd 4 rfl) rfl, ?_⟩
  have hl17 := laid_lt17 (n := n) (by omega)
  refine tr_push (x := f n) T3 (by simpa using h3) (by rw [G.len]; omega) fun a' c' w4 T4 k4 f4 => ?_
  have k04 : Chg None w0 w4 := Chg.fresh (k2.none_trans k3) k4 fun x hx => by
    rcases hx with h | h
    · exact ha x h
    · rw [h]; exact hb0
  have n1 : ¬ (At a p1 ∨ p1 = b) := by
    rintro (h | h)
    · have := T.own.lt h; omega
    · have := T.box.lt; omega
  have h4 := (h2.chg k3 (fun h => h)).chg k4 n1
  refine Blk.rowAll h4 (n := 32) (by simp [hb_len]) ?_
  refine alZ_box zero29 fun p w5 h5 k5 lo5 => ?_
  have T5 := T4.chg0 k5
  refine Blk.stAll h5 ?_ ?_ ?_ fun w6 h6 k6 => ?_
  · simp [hb_len]
  · simp [hb_len]
  · simpa using hb_one (f n)
  have a1 := T4.box.lt
  have a2 := T4.hs.k.lt
  have a3 := T4.hs.f.lt
  have a4 := k04.size
  have ha' : ∀ x, At a' x → w0.heap.size ≤ x ∧ x ≠ p := by
    intro x hx
    have := T4.own.lt hx
    refine ⟨?_, by omega⟩
    rcases f4 with rfl | ⟨b', rfl, hlo⟩
    · exact ha x hx
    · obtain ⟨y, hy, hxx⟩ := hx
      cases hy
      have hx' : b' = x := hxx
      have b1 := k2.size
      have b2 := k3.size
      omega
  have T6 := T5.chg k6 (fun e => by omega) (fun e => by omega) (fun e => by omega) fun x hx => (ha' x hx).2
  have := addloop (Q := Q) (k := k) (f := f) (p := p) sd0 hn hQ hb0 (by omega) ⟨by omega, by omega, by omega⟩ n 0 a' c' _ w6 T6 (Going.start G) (by simpa [nodeAt] using h6) ha' (Chg.fresh (k04.none_trans k5) k6 fun x hx => by rw [hx]; omega)
  exact this
end
end Go.Proofs.YtccjncflbbhldaaDoor
/-! ## TreeRoot -/
set_option maxRecDepth 10000
namespace Go.Proofs.YtccjncflbbhldaaDoor
open Go.Sh Go.RowKit
open Pl (wrap_n tdiv_nat i64_and shr_nat place_word count_word filled_word peaks_word ivs iv)
theorem run149 (k : Int) (b1 b3 : Nat) (w : World) : (Instr.build 149 #[(0, .agg #[.int .i64 k, fOf b1, fLeaf b3, fNode b3])]).run PP w = .ok (.agg #[.int .i64 k, fOf b1, fLeaf b3, fNode b3, .slice none 0 0, .int .i64 0]) w := run_build w 149 _ _ (by kernel_rfl)
theorem build149 {k : Int} {b1 b3 : Nat} {K : Value → Prop} : semP PP (Instr.build 149 #[(0, .agg #[.int .i64 k, fOf b1, fLeaf b3, fNode b3])]) K = K (.agg #[.int .i64 k, fOf b1, fLeaf b3, fNode b3, .slice none 0 0, .int .i64 0]) := by
  unfold semP
  rw [run149]
section
variable {Q : Value → World → Prop} {w : World}
theorem tnew_word {k : Int} (hQ : ∀ b b1 b3 w', Tr w' k b b1 b3 none 0 [] 0 → w.heap.size ≤ b → Chg None w w' → Q (.pointer (some ⟨b, 0, none⟩)) w') : C_tlog_New #[.int .i64 k] w Q := by
  refine C_tlog_New_eq _ _ _ ?_
  refine hasher_word (k := k) fun b1 b3 w1 H lob1 lob3 k1 => ?_
  unfold hasherV
  rw [opnG_s]
  refine ⟨rfl, opnI_c rfl (opnV_c (v := fOf b1) rfl (opnV_c (v := fLeaf b3) rfl (opnV_c (v := fNode b3) rfl ?_)))⟩
  rw [build149, opnG_s]
  refine ⟨rfl, opnI_c rfl (opnV_c (v := fOf b1) rfl (opnV_c (v := fLeaf b3) rfl (opnV_c (v := fNode b3) rfl (opnL_c rfl (opnI_c rfl ?_)))))⟩
  refine alC_box fun b w2 h2 k2 lo2 => ?_
  have H2 := H.chg0 k2
  have a1 := H.k.lt
  have a2 := H.f.lt
  exact hQ b b1 b3 w2 ⟨H2, h2, Own.nil, (by rintro x ⟨p, hp, _⟩; cases hp), by omega, by omega⟩ (Nat.le_trans k1.size lo2) (k1.none_trans k2)
def atL (ls : List Hsh) (i : Nat) : Hsh := ls.getD i zeroH
theorem atL_get {ls : List Hsh} {i : Nat} (h : i < ls.length) : ls[i]? = some (atL ls i) := by simp [atL, h]
theorem buildloop {k : Int} {ls : List Hsh} {a1 : Option Addr} {c1 b b1 b3 : Nat} {S : Nat → Prop} (sd : ShaStd w) (hl : Lies w S a1 (hvs ls)) (h65 : ls.length ≤ 65536) (hb0 : w.heap.size ≤ b)
    (hQ : ∀ a c st w', Stored k (atL ls) ls.length st → Own w' 29 32 a st.length c (hvs st) → (∀ x, At a x → w.heap.size ≤ x) → Chg None w w' → Q (.tuple #[.slice a st.length c, .int .i64 0]) w') :
    ∀ (d i : Nat) (a : Option Addr) (c : Nat) (st : List Hsh) (w1 : World), i + d = ls.length → Tr w1 k b b1 b3 a c st i → Stored k (atL ls) i st → (∀ x, At a x → w.heap.size ≤ x) → Chg None w w1 →
    N_tlog_Build.j5 Q (some ⟨b, 0, none⟩) a1 ls.length c1 ((ls.length : Nat) : Int) (i : Int) w1 := by
  intro d
  induction d with
  | zero =>
    intro i a c st w1 hi T G ha k1
    have hi' : i = ls.length := by omega
    subst hi'
    refine N_tlog_Build.j5_eq (h := c_nlt (by omega) ?_)
    rw [opnA_e]
    exact opnL_c (T.box.rd 4 rfl) (hQ a c st w1 G T.own ha k1)
  | succ d ih =>
    intro i a c st w1 hi T G ha k1
    have hil : i < ls.length := by omega
    refine N_tlog_Build.j5_eq (h := c_lt (by omega) ⟨by omega, by omega, ?_⟩)
    rw [Int.toNat_natCast]
    refine rd_row hb_len (by decide) (hl.chg0 k1) (atL_get hil) (n := 32 * 1) rfl ?_
    refine alZ_box zero29 fun p w2 h2 k2 lo2 => ?_
    refine Blk.stAll h2 ?_ ?_ ?_ fun w3 h3 k3 => ?_
    · simp [hb_len]
    · simp [hb_len]
    · simpa using hb_one (atL ls i)
    refine Blk.rowAll h3 (n := 32) (by simp [hb_len]) ?_
    have a1 := T.box.lt
    have a2 := T.hs.k.lt
    have a3 := T.hs.f.lt
    have T3 := (T.chg0 k2).chg k3 (fun e => by omega) (fun e => by omega) (fun e => by omega) fun x hx => by have := T.own.lt hx; omega
    refine add_word (f := atL ls) (n := i) sd (by omega) hb0 T3 G ha (Chg.fresh (k1.none_trans k2) k3 fun x hx => by have := k1.size; omega) fun a' c' st' w4 T4 G4 ha4 k4 => ?_
    rw [opnT_s]
    refine ⟨rfl, opnI_c rfl (opnI_c rfl ?_)⟩
    rw [wrap_nat (by omega)]
    exact ih (i + 1) a' c' st' w4 (by omega) T4 G4 ha4 k4
theorem build_word {k : Int} {ls : List Hsh} {a1 : Option Addr} {c1 : Nat} {S : Nat → Prop} (sd : ShaStd w) (hl : Lies w S a1 (hvs ls)) (h65 : ls.length ≤ 65536)
    (hQ : ∀ a c st w', Stored k (atL ls) ls.length st → Own w' 29 32 a st.length c (hvs st) → (∀ x, At a x → w.heap.size ≤ x) → Chg None w w' → Q (.tuple #[.slice a st.length c, .int .i64 0]) w') :
    C_tlog_Build #[.int .i64 k, .slice a1 ls.length c1] w Q := by
  refine C_tlog_Build_eq _ _ _ _ _ _ (c_ngt (by omega) ?_)
  refine tnew_word (k := k) fun b b1 b3 w1 T lo k1 => ?_
  rw [opnP_s]
  exact buildloop sd hl h65 lo hQ ls.length 0 none 0 [] w1 (by omega) T Stored.nil (by rintro x ⟨p, hp, _⟩; cases hp) k1
/-- how many records have so many stored hashes -/
theorem records_word {c : Nat} (hc : c ≤ 562949953421311) (hok : laid (recOf c) = c → Q (.tuple #[.int .i64 ((recOf c : Nat) : Int), .int .i64 0]) w) (hno : laid (recOf c) ≠ c → Q (.tuple #[.int .i64 0, .int .i64 80]) w) : C_tlog_Records #[.int .i64 (c : Int)] w Q := by
  refine C_tlog_Records_eq _ _ _ (c_nlt (by omega) ?_)
  rw [show (281474976710656 : Int) = ((281474976710656 : Nat) : Int) from rfl]
  refine count_word (by decide) (opnI_c rfl ?_)
  rw [laid_max]
  refine c_ngt (by omega) ?_
  refine filled_word hc (opnI_c rfl ?_)
  refine count_word (by have := (recOf_is c).1; omega) (opnI_c rfl ?_)
  by_cases g : laid (recOf c) = c
  · refine c_f ?_ (hok g)
    rw [g]; simp
  · refine c_t ?_ (hno g)
    simp only [bne_iff_ne, ne_eq]; omega
theorem recOf_laid {n : Nat} (h : n ≤ 281474976710656) : recOf (laid n) = n := recOf_eq (IsRec.mk h (Nat.le_refl _) fun _ => laid_lt (Nat.lt_succ_self _))
/-- the hash over tops -/
def foldH (k : Int) : List Hsh → Hsh
  | [] => emptyH k
  | [x] => x
  | x :: y :: l => nodeH k x (foldH k (y :: l))
theorem foldH_cons {k : Int} {x : Hsh} {l : List Hsh} (h : l ≠ []) : foldH k (x :: l) = nodeH k x (foldH k l) := by
  cases l with
  | nil => exact absurd rfl h
  | cons y l => rfl
theorem P_inv112 {k : Int} {b1 b3 : Nat} {x y : Value} {K : Value → World → Prop} : invk PP (.func (.func 112) #[.agg #[.int .i64 ((keepK k : Nat) : Int), fOf b1, fLeaf b3, fNode b3]] #[]) #[x, y] w K = C_tlog_hasher_join #[.agg #[.int .i64 ((keepK k : Nat) : Int), fOf b1, fLeaf b3, fNode b3], x, y] w K := rfl
theorem bind_word {k : Int} {b1 b3 : Nat} {l r : Hsh} (sd : ShaStd w) (H : Hs w k b1 b3) (hQ : ∀ w', Chg None w w' → Q (.agg (hb (nodeH k l r)).toArray) w') : invk PP (.func (.func 112) #[.agg #[.int .i64 ((keepK k : Nat) : Int), fOf b1, fLeaf b3, fNode b3]] #[]) #[.agg (hb l).toArray, .agg (hb r).toArray] w Q := by
  rw [P_inv112]
  refine C_tlog_hasher_join_eq _ _ _ _ _ _ _ _ ?_
  refine alC_box fun p1 w1 h1 k1 lo1 => ?_
  refine alC_box fun p3 w2 h3 k2 lo2 => ?_
  refine alC_box fun p5 w3 h5 k3 lo3 => ?_
  refine alZ_box zero29 fun p7 w4 h7 k4 lo4 => ?_
  have k14 := k2.none_trans (k3.none_trans k4)
  refine opnV_c (v := fNode b3) ((h1.chg k14 (fun h => h)).rd 3 rfl) ?_
  refine Blk.rowAll (h3.chg (k3.none_trans k4) (fun h => h)) (n := 32) (by simp [hb_len]) ?_
  refine Blk.rowAll (h5.chg k4 (fun h => h)) (n := 32) (by simp [hb_len]) ?_
  have k04 := k1.none_trans k14
  refine nodeh_word (l := l) (r := r) (sd.chg0 k04) (H.chg0 k04) fun w5 k5 => ?_
  rw [opnG_s]
  refine Blk.stAll (h7.chg k5 (fun h => h)) ?_ ?_ ?_ fun w6 h6 k6 => ?_
  · simp [hb_len]
  · simp [hb_len]
  · simpa using hb_one (nodeH k l r)
  refine Blk.rowAll h6 (n := 32) (by simp [hb_len]) ?_
  have := hQ w6 (Chg.fresh (k04.none_trans k5) k6 fun x hx => by have := (k1.none_trans (k2.none_trans k3)).size; omega)
  simpa using this
theorem foldloop {k : Int} {b1 b3 : Nat} {hs : List Hsh} {a : Option Addr} {c b4 b6 : Nat} {S : Nat → Prop} (sd : ShaStd w) (H : Hs w k b1 b3) (hl : Lies w S a (hvs hs)) (n4 : w.heap.size ≤ b4) (n6 : w.heap.size ≤ b6) (n46 : b4 ≠ b6) (h65 : hs.length ≤ 65536)
    (hQ : ∀ w', Chg None w w' → Q (.agg (hb (foldH k hs)).toArray) w') :
    ∀ (i : Nat) (w1 : World), i < hs.length → (∃ o4, Blk w1 b4 29 (hb o4)) → Blk w1 b6 29 (hb (foldH k (hs.drop i))) → Chg None w w1 →
    N_tlog_fold.j4 Q a hs.length c (.func (.func 112) #[.agg #[.int .i64 ((keepK k : Nat) : Int), fOf b1, fLeaf b3, fNode b3]] #[]) ⟨b4, 0, none⟩ ⟨b6, 0, none⟩ ((i : Int) - 1) w1 := by
  intro i
  induction i with
  | zero =>
    intro w1 hi ⟨o4, h4⟩ h6 k1
    refine N_tlog_fold.j4_eq (h := c_f (by simp) ?_)
    refine Blk.rowAll h6 (n := 32) (by simp [hb_len]) ?_
    refine Blk.stAll h4 ?_ ?_ ?_ fun w2 h2 k2 => ?_
    · simp [hb_len]
    · simp [hb_len]
    · simpa using hb_one _
    refine Blk.rowAll h2 (n := 32) (by simp [hb_len]) ?_
    have := hQ w2 (Chg.fresh k1 k2 fun x hx => by omega)
    simpa using this
  | succ i ih =>
    intro w1 hi ⟨o4, h4⟩ h6 k1
    refine N_tlog_fold.j4_eq (h := c_t (by rw [decide_eq_true]; omega) ?_)
    rw [drw_s]
    have h4' := h4.chg (Chg.drew0 (D := None) w1) (fun h => h)
    have h6' := h6.chg (Chg.drew0 (D := None) w1) (fun h => h)
    have k2 := k1.none_trans (Chg.drew0 (D := None) w1)
    generalize w1.drew = w2 at h4' h6' k2
    have e1 : (((i + 1 : Nat) : Int) - 1) = (i : Int) := by omega
    rw [e1]
    refine ⟨by omega, by omega, ?_⟩
    rw [Int.toNat_natCast]
    refine rd_row hb_len (by decide) (hl.chg0 k2) (atL_get (ls := hs) (i := i) (by omega)) (n := 32 * 1) rfl ?_
    refine Blk.rowAll h6' (n := 32) (by simp [hb_len]) ?_
    refine bind_word (l := atL hs i) (r := foldH k (hs.drop (i + 1))) (sd.chg0 k2) (H.chg0 k2) fun w3 k3 => ?_
    rw [opnG_s]
    refine Blk.stAll (h6'.chg k3 (fun h => h)) ?_ ?_ ?_ fun w4 h6b k4 => ?_
    · simp [hb_len]
    · simp [hb_len]
    · simpa using hb_one _
    rw [wrap_id (by omega) (by omega)]
    have ed : hs.drop i = atL hs i :: hs.drop (i + 1) := by
      rw [List.drop_eq_getElem_cons (show i < hs.length by omega)]; simp [atL, show i < hs.length by omega]
    have ef : foldH k (hs.drop i) = nodeH k (atL hs i) (foldH k (hs.drop (i + 1))) := by
      rw [ed, foldH_cons]
      intro h
      have := congrArg List.length h
      simp at this
      omega
    refine ih w4 (by omega) ⟨o4, (h4'.chg k3 (fun h => h)).chg k4 n46⟩ ?_ (Chg.fresh (k2.none_trans k3) k4 fun x hx => by omega)
    rw [ef]; simpa using h6b
theorem zero29h : ((PP.info? 29).bind (·.zero)).map (·.cells) = some (hb zeroH).toArray := by kernel_rfl
theorem root_word {k : Int} {b1 b3 : Nat} {hs : List Hsh} {a : Option Addr} {c : Nat} {S : Nat → Prop} (sd : ShaStd w) (H : Hs w k b1 b3) (hl : Lies w S a (hvs hs)) (h65 : hs.length ≤ 65536)
    (hQ : ∀ w', Chg None w w' → Q (.agg (hb (foldH k hs)).toArray) w') :
    C_tlog_hasher_root #[.agg #[.int .i64 ((keepK k : Nat) : Int), fOf b1, fLeaf b3, fNode b3], .slice a hs.length c] w Q := by
  refine C_tlog_hasher_root_eq _ _ _ _ _ _ _ _ _ ?_
  refine alC_box fun p1 w1 h1 k1 lo1 => ?_
  refine alZ_box zero29h fun p3 w2 h3 k2 lo2 => ?_
  have h1' := h1.chg k2 (fun h => h)
  have k02 := k1.none_trans k2
  have h3' : Blk w2 p3 29 (hb zeroH) := by simpa using h3
  have n13 := k1.size
  by_cases g : hs.length = 0
  · refine c_t (by rw [g]; rfl) ?_
    refine opnV_c (v := fOf b1) (h1'.rd 1 rfl) ?_
    rw [P_inv107]
    have := of_word (Q := fun v6 w7 => opnG (some v6) fun x8 => stRow ⟨p3, 0, none⟩ x8 (32 * 1) w7 fun w9 => opnRow w9 ⟨p3, 0, none⟩ (32 * 1) fun x10 => Q (.agg x10) w9) (k := k) (p := []) (a := none) (c := 0) (S := fun _ => True) (sd.chg0 k02) (H.chg0 k02) Lies.nil (by decide) (by decide) fun w3 k3 => by
      rw [opnG_s]
      refine Blk.stAll (h3'.chg k3 (fun h => h)) ?_ ?_ ?_ fun w4 h4 k4 => ?_
      · exact hb_len (emptyH k)
      · exact (hb_len (emptyH k)).trans (hb_len zeroH).symm
      · exact hb_one (emptyH k)
      refine Blk.rowAll h4 (n := 32) (hb_len (emptyH k)) ?_
      have e : hs = [] := List.eq_nil_of_length_eq_zero g
      have := hQ w4 (Chg.fresh (k02.none_trans k3) k4 fun x hx => by omega)
      rw [e] at this
      exact this
    exact this
  · refine c_f (by simp only [beq_eq_false_iff_ne, ne_eq]; omega) ?_
    refine opnI_c (h1'.rd 0 rfl) (opnV_c (v := fOf b1) (h1'.rd 1 rfl) (opnV_c (v := fLeaf b3) (h1'.rd 2 rfl) (opnV_c (v := fNode b3) (h1'.rd 3 rfl) ?_)))
    refine C_tlog_fold_eq _ _ _ _ _ _ ?_
    refine alZ_box zero29h fun p5 w3 h5 k3 lo3 => ?_
    have el : IntKind.wrap .i64 (((hs.length : Nat) : Int) - 1) = ((hs.length - 1 : Nat) : Int) := by rw [wrap_id (by omega) (by omega)]; omega
    rw [el]
    refine ⟨by omega, by omega, ?_⟩
    rw [Int.toNat_natCast]
    have k03 := k02.none_trans k3
    refine rd_row hb_len (by decide) (hl.chg0 k03) (atL_get (ls := hs) (i := hs.length - 1) (by omega)) (n := 32 * 1) rfl ?_
    refine alZ_box zero29h fun p6 w4 h6 k4 lo4 => ?_
    refine Blk.stAll h6 ?_ ?_ ?_ fun w5 h6b k5 => ?_
    · simp [hb_len]
    · simp [hb_len]
    · simpa using hb_one _
    rw [wrap_id (n := ((hs.length - 1 : Nat) : Int) - 1) (by omega) (by omega)]
    have s3 := k3.size
    have s2 := k2.size
    have l5 := h5.lt
    have n56 : p5 ≠ p6 := by omega
    have k25 := Chg.fresh (k3.none_trans k4) k5 fun x hx => by omega
    have l3 := h3'.lt
    refine foldloop (w := w2) (sd.chg0 k02) (H.chg0 k02) (hl.chg0 k02) (by omega) (by omega) n56 h65 (fun w6 k6 => ?_) (hs.length - 1) w5 (by omega) ⟨zeroH, by simpa using (h5.chg k4 (fun h => h)).chg k5 n56⟩ ?_ k25
    · rw [opnG_s]
      refine Blk.stAll (h3'.chg k6 (fun h => h)) ?_ ?_ ?_ fun w7 h7 k7 => ?_
      · simp [hb_len]
      · simp [hb_len]
      · simpa using hb_one _
      refine Blk.rowAll h7 (n := 32) (by simp [hb_len]) ?_
      have := hQ w7 (Chg.fresh (k02.none_trans k6) k7 fun x hx => by omega)
      simpa using this
    · have ed : hs.drop (hs.length - 1) = [atL hs (hs.length - 1)] := by
        rw [List.drop_eq_getElem_cons (show hs.length - 1 < hs.length by omega), List.drop_eq_nil_of_le (by omega)]; simp [atL, show hs.length - 1 < hs.length by omega]
      rw [ed]; simpa [foldH] using h6b
end
end Go.Proofs.YtccjncflbbhldaaDoor
