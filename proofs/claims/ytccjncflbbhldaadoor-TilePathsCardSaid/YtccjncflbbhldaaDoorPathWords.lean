/- Check and Path: what the program's do. -/
import Derived.Test.YtccjncflbbhldaaDoorWords
import Derived.Test.YtccjncflbbhldaaDoorShL10
set_option maxRecDepth 10000
namespace Go.Proofs.YtccjncflbbhldaaDoor
open Go.Sh Go.RowKit

/-! ### a builder under way -/
def Bd (b : Nat) (l : List UInt8) (w : World) : Prop := Lib.IsBuilder 115 5 b b (Lib.byteCells l) w
theorem bdAt_chg {p : Value} {b : Nat} {bs : List Value} {w w' : World} (h : Lib.BuilderAt 115 5 b b p bs w) (k : Chg None w w') : Lib.BuilderAt 115 5 b b p bs w' := by
  obtain ⟨h1, v, h2, ⟨h3, h4⟩, h5⟩ := h
  have old : ∀ g o, w.heap[g]? = some o → w'.heap[g]? = some o := fun g o hg => by
    rw [k.block g (Array.getElem?_eq_some_iff.1 hg).1 id]; exact hg
  refine ⟨h1, v, old _ _ h2, ⟨h3, ?_⟩, h5⟩
  rcases h4 with h4 | ⟨g, cap, cur, e1, e2, e3, r⟩
  · exact .inl h4
  · exact .inr ⟨g, cap, cur, e1, e2, old _ _ e3, r⟩
theorem Bd.chg {b : Nat} {l : List UInt8} {w w' : World} (h : Bd b l w) (k : Chg None w w') : Bd b l w' := h.imp (fun h => bdAt_chg h k) fun h => bdAt_chg h k
theorem bd_new {w : World} : Bd w.heap.size [] (w.alloc (.cells #[.pointer none, .slice none 0 0] 115)) :=
  .inl ⟨Nat.le_refl _, .slice none 0 0, by show (w.heap.push _)[w.heap.size]? = _; simp, ⟨rfl, .inl ⟨rfl, rfl⟩⟩, by simp [Value.ownBlock]⟩
section
variable {Q : Value → World → Prop} {w w0 : World}
theorem write_word {b : Nat} {l : List UInt8} {s : ByteArray} (h : Bd b l w) (hb : b ≤ w.heap.size) (hl : l.length + s.size ≤ 1048576) (h0 : w0.heap.size ≤ b) (k0 : Chg None w0 w)
    (hQ : ∀ v e w', Bd b (l ++ s.data.toList) w' → Chg None w0 w' → (∀ k, k < b → w'.heap[k]? = w.heap[k]?) → b ≤ w'.heap.size → Q (.tuple #[.int .i64 v, e]) w') : C_p_strings_Builder_WriteString #[.pointer (some ⟨b, 0, none⟩), .string s] w Q := by
  have hc := Any.Builder_WriteString (P := PP) (ρ := lays156_ren) { lays156 with } Builder_Extra_156 b b (Lib.byteCells l) s w h (by rw [Lib.byteCells_length]; omega) hb
  refine C_calls Tryd.func59 (by rfl) (by decide) (hc.mono ?_)
  rintro e w' ⟨rfl, hB, hbel⟩
  have e1 : Lib.byteCells l ++ Lib.strCells s = Lib.byteCells (l ++ s.data.toList) := by simp [Lib.byteCells, Lib.strCells]
  rw [e1] at hB
  exact hQ _ _ _ (.inr hB) (Chg.trans k0 ⟨hbel.os, hbel.tape, hbel.output, hbel.size, fun k _ hn => hbel.block k (Nat.lt_of_not_le hn)⟩ (fun _ _ h => h) (fun x hx hd => absurd hd (by show ¬ b ≤ x; omega))) hbel.block (Nat.le_trans hb hbel.size)
theorem string_word {b : Nat} {l : List UInt8} (h : Bd b l w) (hne : l ≠ []) (h0 : w0.heap.size ≤ b) (k0 : Chg None w0 w) (hQ : ∀ w', Chg None w0 w' → Q (.string ⟨l.toArray⟩) w') : C_p_strings_Builder_String #[.pointer (some ⟨b, 0, none⟩)] w Q := by
  refine C_calls Tryd.func62 (by rfl) (by decide) ((Builder_String b b l w h hne).mono ?_)
  rintro e w' ⟨rfl, hbel⟩
  exact hQ _ (Chg.trans k0 ⟨hbel.os, hbel.tape, hbel.output, hbel.size, fun k _ hn => hbel.block k (Nat.lt_of_not_le hn)⟩ (fun _ _ h => h) (fun x hx hd => absurd hd (by show ¬ b ≤ x; omega)))
end

/-! ### shifts -/
theorem shr_nat (x k : Nat) (hk : k ≤ 64) : shrI .i64 (x : Int) (k : Int) = ((x / 2 ^ k : Nat) : Int) := by
  simp only [shrI, IntKind.bits, Int.toNat_natCast]
  rw [Nat.min_eq_left hk, Int.fdiv_eq_ediv_of_nonneg _ (by exact_mod_cast Nat.zero_le _)]
  norm_cast
theorem shl_nat (x k : Nat) (hk : k ≤ 64) (h : x * 2 ^ k < 9223372036854775808) : shlI .i64 (x : Int) (k : Int) = ((x * 2 ^ k : Nat) : Int) := by
  simp only [shlI, IntKind.bits, Int.toNat_natCast]
  rw [Nat.min_eq_left hk, show (x : Int) * 2 ^ k = ((x * 2 ^ k : Nat) : Int) by norm_cast]
  exact wrap_id (by omega) (by omega)
theorem nn_nat {n : Nat} {p : Prop} (h : p) : nn (n : Int) p := h
theorem shl_one {h : Int} (h0 : 0 ≤ h) (h1 : h ≤ 15) : shlI .i64 1 h = 2 ^ h.toNat := by
  obtain ⟨n, rfl⟩ := Int.eq_ofNat_of_zero_le h0
  have : ∀ m : Fin 16, shlI .i64 1 ((m.val : Nat) : Int) = 2 ^ ((m.val : Nat) : Int).toNat := by decide +kernel
  exact this ⟨n, by omega⟩
theorem full_word {Q : Value → World → Prop} {h : Int} {w : World} (h0 : 0 ≤ h) (h1 : h ≤ 15) (hQ : Q (.int .i64 (2 ^ h.toNat)) w) : C_tile_full #[.int .i64 h] w Q := by
  refine C_tile_full_eq _ _ _ ?_
  rw [shl_one h0 h1]
  obtain ⟨n, rfl⟩ := Int.eq_ofNat_of_zero_le h0
  exact nn_nat hQ
abbrev tg (t : Tl) : Value := .agg #[.int .i64 t.H, .int .i64 t.L, .int .i64 t.N, .int .i64 t.W, .bool t.D]
def tv (t : Tl) : List Value := [.int .i64 t.H, .int .i64 t.L, .int .i64 t.N, .int .i64 t.W, .bool t.D]
/-- the numbers fit their kinds -/
def fitsT (t : Tl) : Prop := (-9223372036854775808 ≤ t.H ∧ t.H ≤ 9223372036854775807) ∧ (-9223372036854775808 ≤ t.L ∧ t.L ≤ 9223372036854775807) ∧ (-9223372036854775808 ≤ t.N ∧ t.N ≤ 9223372036854775807) ∧ (-9223372036854775808 ≤ t.W ∧ t.W ≤ 9223372036854775807)
theorem check_word {Q : Value → World → Prop} {t : Tl} {w0 : World} (hf : fitsT t) (hok : okT t → ∀ w', Chg None w0 w' → Q (.int .i64 0) w') (hno : ¬ okT t → ∀ w', Chg None w0 w' → Q (.int .i64 101) w') : C_tile_Check #[tg t] w0 Q := by
  obtain ⟨f1, f2, f3, f4⟩ := hf
  refine C_tile_Check_eq _ _ _ _ _ _ _ ?_
  refine alC_box fun b w1 hb k1 hlo => ?_
  rw [drw_s]
  have k2 : Chg None w0 w1.drew := k1.drew
  have hb2 : Blk w1.drew b 24 (tv t) := hb.chg (Chg.drew0 (D := None) w1) (fun h => h)
  generalize w1.drew = w2 at k2 hb2
  have bad : ¬ okT t → N_tile_Check.j2 Q w2 := fun h => N_tile_Check.j2_eq (h := hno h w2 k2)
  have r0 : ∀ {K : Int → Prop}, K t.H → opnI .i64 (w2.cell? ((⟨b, 0, none⟩ : Addr).add 0)) K := fun h => opnI_c (hb2.rd 0 rfl) h
  have r1 : ∀ {K : Int → Prop}, K t.L → opnI .i64 (w2.cell? ((⟨b, 0, none⟩ : Addr).add 1)) K := fun h => opnI_c (hb2.rd 1 rfl) h
  have r2 : ∀ {K : Int → Prop}, K t.N → opnI .i64 (w2.cell? ((⟨b, 0, none⟩ : Addr).add 2)) K := fun h => opnI_c (hb2.rd 2 rfl) h
  have r3 : ∀ {K : Int → Prop}, K t.W → opnI .i64 (w2.cell? ((⟨b, 0, none⟩ : Addr).add 3)) K := fun h => opnI_c (hb2.rd 3 rfl) h
  have r4 : ∀ {K : Bool → Prop}, K t.D → opnB (w2.cell? ((⟨b, 0, none⟩ : Addr).add 4)) K := fun h => opnB_c (hb2.rd 4 rfl) h
  refine r0 ?_
  by_cases g1 : t.H < 1
  · have := bad (fun h => by unfold okT at h; omega)
    exact c_lt g1 this
  refine c_nlt (by omega) (r0 ?_)
  by_cases g2 : t.H > 8
  · have := bad (fun h => by unfold okT at h; omega)
    exact c_gt g2 this
  refine c_ngt (by omega) (r3 ?_)
  by_cases g3 : t.W < 1
  · have := bad (fun h => by unfold okT at h; omega)
    exact c_lt g3 this
  refine c_nlt (by omega) ?_
  have hp : (2 : Int) ^ t.H.toNat ≤ 256 := by
    have : (2 : Nat) ^ t.H.toNat ≤ 2 ^ 8 := Nat.pow_le_pow_right (by decide) (by omega)
    have e : ((2 ^ t.H.toNat : Nat) : Int) = (2 : Int) ^ t.H.toNat := by norm_cast
    omega
  have hp1 : (1 : Int) ≤ 2 ^ t.H.toNat := by
    have : 0 < (2 : Nat) ^ t.H.toNat := Nat.pow_pos (by decide)
    have e : ((2 ^ t.H.toNat : Nat) : Int) = (2 : Int) ^ t.H.toNat := by norm_cast
    omega
  -- the last tests
  have j3 : t.W ≤ 2 ^ t.H.toNat → 0 ≤ t.L → 0 ≤ t.N → (t.D = true → t.L = 0) → N_tile_Check.j3 Q ⟨b, 0, none⟩ w2 := by
    intro a1 a2 a3 a4
    refine N_tile_Check.j3_eq (h := ?_)
    rw [drw_s]
    have k3 : Chg None w0 w2.drew := k2.drew
    have hb3 := hb2.chg (Chg.drew0 (D := None) w2) (fun h => h)
    generalize w2.drew = w3 at k3 hb3
    refine opnI_c (hb3.rd 1 rfl) (opnI_c (hb3.rd 0 rfl) ⟨by omega, ?_⟩)
    have hdiv : IntKind.wrap .i64 (Int.tdiv 48 t.H) = 48 / t.H := by
      rw [Int.tdiv_eq_ediv_of_nonneg (by decide)]
      have h1 : 48 / t.H ≤ 48 := Int.ediv_le_self _ (by decide)
      have h2 : 0 ≤ 48 / t.H := Int.ediv_nonneg (by decide) (by omega)
      exact wrap_id (by omega) (by omega)
    rw [hdiv]
    have hiff : t.L ≤ 48 / t.H ↔ t.H * t.L ≤ 48 := by
      rw [Int.le_ediv_iff_mul_le (by omega), Int.mul_comm]
    by_cases g4 : t.L > 48 / t.H
    · exact c_gt g4 (N_tile_Check.j4_eq (h := hno (fun h => by unfold okT at h; omega) w3 k3))
    refine c_ngt (by omega) (N_tile_Check.j5_eq (h := ?_))
    have hHL := hiff.1 (by omega)
    have hHL0 : 0 ≤ t.H * t.L := Int.mul_nonneg (by omega) a2
    refine opnI_c (hb3.rd 0 rfl) (opnI_c (hb3.rd 1 rfl) ?_)
    rw [wrap_id (by omega) (by omega)]
    obtain ⟨m, hm⟩ := Int.eq_ofNat_of_zero_le hHL0
    have hroom : shrI .i64 281474976710656 (t.H * t.L) = 281474976710656 / 2 ^ (t.H * t.L).toNat := by
      rw [hm, Int.toNat_natCast]
      have := shr_nat 281474976710656 m (by omega)
      rw [show (281474976710656 : Int) = ((281474976710656 : Nat) : Int) by rfl, this]; norm_cast
    rw [hroom]
    have hnn : ∀ {p : Prop}, p → nn (t.H * t.L) p := fun h => by rw [hm]; exact h
    refine hnn ?_
    have hr1 : (281474976710656 : Int) / 2 ^ (t.H * t.L).toNat ≤ 281474976710656 := Int.ediv_le_self _ (by decide)
    have hr0 : (0 : Int) ≤ 281474976710656 / 2 ^ (t.H * t.L).toNat := Int.ediv_nonneg (by decide) (Int.le_of_lt (Int.pow_pos (by decide)))
    have hokiff : okT t ↔ t.N * 2 ^ t.H.toNat + t.W ≤ 281474976710656 / 2 ^ (t.H * t.L).toNat := by
      unfold okT
      exact ⟨fun h => h.2.2.2.2.2.2.2.2, fun h => ⟨by omega, by omega, by omega, a1, a2, a3, a4, hHL, h⟩⟩
    generalize (281474976710656 : Int) / 2 ^ (t.H * t.L).toNat = R at hr1 hr0 hokiff ⊢
    refine N_tile_Check.j6_eq (h := ?_)
    rw [drw_s]
    have k4 : Chg None w0 w3.drew := k3.drew
    have hb4 := hb3.chg (Chg.drew0 (D := None) w3) (fun h => h)
    generalize w3.drew = w4 at k4 hb4
    obtain ⟨hh, hhe⟩ := Int.eq_ofNat_of_zero_le (by omega : 0 ≤ t.H)
    obtain ⟨Rn, hRn⟩ := Int.eq_ofNat_of_zero_le hr0
    obtain ⟨Nn, hNn⟩ := Int.eq_ofNat_of_zero_le a3
    have hpn : ((2 ^ hh : Nat) : Int) = (2 : Int) ^ t.H.toNat := by rw [hhe, Int.toNat_natCast]; norm_cast
    have hpos : 0 < 2 ^ hh := Nat.pow_pos (by decide)
    have hsr : shrI .i64 R t.H = ((Rn / 2 ^ hh : Nat) : Int) := by rw [hhe, hRn]; exact shr_nat Rn hh (by omega)
    have hnn2 : ∀ {p : Prop}, p → nn t.H p := fun h => by rw [hhe]; exact h
    have bad7 : ¬ okT t → N_tile_Check.j7 Q w4 := fun h => N_tile_Check.j7_eq (h := hno h w4 k4)
    refine opnI_c (hb4.rd 2 rfl) (opnI_c (hb4.rd 0 rfl) (hnn2 ?_))
    rw [hsr]
    have hprod : t.N * 2 ^ t.H.toNat = ((Nn * 2 ^ hh : Nat) : Int) := by rw [hNn, ← hpn]; norm_cast
    by_cases g5 : t.N > ((Rn / 2 ^ hh : Nat) : Int)
    · refine c_gt g5 (bad7 fun h => ?_)
      have h1 := hokiff.1 h
      rw [hprod] at h1
      have h2 : Nn ≤ Rn / 2 ^ hh := (Nat.le_div_iff_mul_le hpos).2 (by omega)
      omega
    refine c_ngt (by omega) (opnI_c (hb4.rd 2 rfl) (opnI_c (hb4.rd 0 rfl) (hnn2 (opnI_c (hb4.rd 3 rfl) ?_))))
    have h2 : Nn * 2 ^ hh ≤ Rn := (Nat.le_div_iff_mul_le hpos).1 (by omega)
    have hsl : shlI .i64 t.N t.H = ((Nn * 2 ^ hh : Nat) : Int) := by rw [hhe, hNn]; exact shl_nat Nn hh (by omega) (by omega)
    rw [hsl, wrap_id (by omega) (by omega)]
    by_cases g6 : ((Nn * 2 ^ hh : Nat) : Int) + t.W > R
    · exact c_gt g6 (bad7 fun h => by have h1 := hokiff.1 h; rw [hprod] at h1; omega)
    · exact c_ngt (by omega) (N_tile_Check.j8_eq (h := hok (hokiff.2 (by rw [hprod]; omega)) w4 k4))
  refine r3 (r0 (full_word (by omega) (by omega) (opnI_s ⟨r3 rfl, ?_⟩)))
  all_goals
    by_cases a1 : t.W > 2 ^ t.H.toNat
    · exact c_gt a1 (bad fun h => by unfold okT at h; omega)
    refine c_ngt (by omega) (r1 ?_)
    by_cases a2 : t.L < 0
    · exact c_lt a2 (bad fun h => by unfold okT at h; omega)
    refine c_nlt (by omega) (r2 ?_)
    by_cases a3 : t.N < 0
    · exact c_lt a3 (bad fun h => by unfold okT at h; omega)
    refine c_nlt (by omega) (r4 ?_)
    cases hd : t.D with
    | false => exact j3 (by omega) (by omega) (by omega) (fun h => by rw [hd] at h; cases h)
    | true =>
      refine c_t rfl (r1 ?_)
      by_cases a4 : t.L = 0
      · exact c_nne a4 (j3 (by omega) (by omega) (by omega) fun _ => a4)
      · exact c_ne a4 (bad fun h => a4 (h.2.2.2.2.2.2.1 hd))
end Go.Proofs.YtccjncflbbhldaaDoor
