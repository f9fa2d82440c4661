/- The reference's Check, Path, ParsePath: what they do. -/
import Derived.Test.YtccjncflbbhldaaDoorParseWalk
import Derived.Test.YtccjncflbbhldaaDoorShP0
import Derived.Test.YtccjncflbbhldaaDoorShL14
set_option maxRecDepth 10000
namespace Go.Proofs.YtccjncflbbhldaaDoor
open Go.Sh Go.RowKit

/-! ### numbers read loosely -/
def isDigB (c : UInt8) : Bool := decide (48 ≤ c.toNat) && decide (c.toNat ≤ 57)
def loCap : Nat := 1125899906842624
theorem loCap_eq : loCap = 1125899906842624 := rfl
def looseG : Nat → List UInt8 → Nat
  | n, [] => n
  | n, c :: r => looseG (if isDigB c = true ∧ n < loCap then n * 10 + (c.toNat - 48) else n) r
theorem loose_app : ∀ (n : Nat) (a b : List UInt8), looseG n (a ++ b) = looseG (looseG n a) b
  | _, [], _ => rfl
  | n, c :: a, b => by simp only [List.cons_append, looseG]; exact loose_app _ a b
theorem loose_filter : ∀ (n : Nat) (l : List UInt8), looseG n (l.filter isDigB) = looseG n l
  | _, [] => rfl
  | n, c :: r => by
    cases hc : isDigB c with
    | true => rw [List.filter_cons_of_pos (by simpa using hc), looseG, looseG]; exact loose_filter _ r
    | false =>
      rw [List.filter_cons_of_neg (by simp [hc]), looseG, if_neg (by simp [hc])]
      exact loose_filter n r
theorem isDigB_of {c : UInt8} (h : isDig c) : isDigB c = true := by unfold isDig at h; simp [isDigB, h.1, h.2]
theorem loose_dec : ∀ (u : Nat), u < loCap → looseG 0 (Lib.decDigits u) = u := by
  intro u
  induction u using Nat.strongRecOn with
  | ind u ih =>
    intro hu
    rw [Lib.decDigits]
    split
    · rename_i h
      have hd := dig_of u h
      have hb : isDigB (UInt8.ofNat (48 + u)) = true := isDigB_of (by unfold isDig; rw [hd]; omega)
      rw [looseG, looseG, if_pos ⟨hb, by decide⟩, hd]
      omega
    · rename_i h
      have hd := dig_of (u % 10) (by omega)
      have hb : isDigB (UInt8.ofNat (48 + u % 10)) = true := isDigB_of (by unfold isDig; rw [hd]; omega)
      rw [loose_app, ih (u / 10) (by omega) (by omega), looseG, looseG, if_pos ⟨hb, by omega⟩, hd]
      omega
theorem loose_zeros (l : List UInt8) : ∀ k, looseG 0 (List.replicate k 48 ++ l) = looseG 0 l
  | 0 => rfl
  | k + 1 => by rw [List.replicate_succ, List.cons_append, looseG, show (if isDigB 48 = true ∧ 0 < loCap then 0 * 10 + ((48 : UInt8).toNat - 48) else 0) = 0 by decide, loose_zeros l k]
theorem loose_lt : ∀ (l : List UInt8) (n : Nat), n < 11258999068426250 → looseG n l < 11258999068426250
  | [], n, h => h
  | c :: r, n, h => by
    rw [looseG]
    refine loose_lt r _ ?_
    split
    · rename_i hc
      have h1 : c.toNat ≤ 57 := by
        have := hc.1
        unfold isDigB at this
        simp at this
        exact this.2
      have h2 := hc.2
      have := loCap_eq
      omega
    · exact h
section
variable {Q : Value → World → Prop} {w w0 : World}
theorem wrap_natv {n : Nat} (h : n < 9223372036854775808) : IntKind.wrap .i64 ((n : Nat) : Int) = ((n : Nat) : Int) := wrap_id (by omega) (by omega)
theorem rpower_word {n : Int} (h0 : 0 ≤ n) (h1 : n ≤ 62) (hQ : Q (.int .i64 (2 ^ n.toNat)) w) : C_r10_power #[.int .i64 n] w Q := by
  obtain ⟨m, rfl⟩ := Int.eq_ofNat_of_zero_le h0
  refine C_r10_power_eq _ _ _ ?_
  have e : IntKind.wrap .u64 ((m : Nat) : Int) = ((m : Nat) : Int) := by rw [IntKind.wrap_u64]; omega
  rw [e]
  refine nn_nat ?_
  have := shl_nat 1 m (by omega) (by rw [Nat.one_mul]; exact Nat.lt_of_le_of_lt (Nat.pow_le_pow_right (by decide) (by omega : m ≤ 62)) (by decide))
  rw [show (1 : Int) = ((1 : Nat) : Int) from rfl, this, Nat.one_mul]
  rw [Int.toNat_natCast] at hQ
  norm_cast at hQ ⊢
theorem rdoc_word {t : Tl} (hQ : ∀ w', Chg None w w' → Q (tg t) w') : C_l10_doc #[tg t] w Q := by
  refine C_l10_doc_eq _ _ _ _ _ _ _ ?_
  refine alC_box fun b w1 hb k1 hlo => ?_
  refine alC_box fun b2 w2 hb2 k2 hlo2 => ?_
  have hb' := hb.chg k2 (fun h => h)
  refine ld5 hb' ?_
  refine st5 hb2 fun w3 hb3 k3 => ?_
  refine ld5 hb3 ?_
  exact hQ w3 (Chg.fresh (k1.none_trans k2) k3 fun x hx => by rw [hx]; exact Nat.le_trans k1.size hlo2)
theorem rcheck_word {t : Tl} (hf : fitsT t) (hok : okT t → ∀ w', Chg None w0 w' → Q (.int .i64 0) w') (hno : ¬ okT t → ∀ w', Chg None w0 w' → Q (.int .i64 101) w') : C_r10_Check #[tg t] w0 Q := by
  obtain ⟨f1, f2, f3, f4⟩ := hf
  refine C_r10_Check_eq _ _ _ _ _ _ _ ?_
  refine alC_box fun b w1 hb k1 hlo => ?_
  have bad : ∀ w, Chg None w1 w → ¬ okT t → N_r10_Check.j2 Q w := fun w k h => N_r10_Check.j2_eq (h := hno h w (k1.none_trans k))
  have bad5 : ∀ w, Chg None w1 w → ¬ okT t → N_r10_Check.j5 Q w := fun w k h => N_r10_Check.j5_eq (h := hno h w (k1.none_trans k))
  refine opnI_c (hb.rd 0 rfl) ?_
  by_cases g1 : t.H < 1
  · exact c_lt g1 (bad _ (Chg.refl _ _) (fun h => by unfold okT at h; omega))
  refine c_nlt (by omega) (opnI_c (hb.rd 0 rfl) ?_)
  by_cases g2 : t.H > 8
  · exact c_gt g2 (bad _ (Chg.refl _ _) (fun h => by unfold okT at h; omega))
  refine c_ngt (by omega) (opnI_c (hb.rd 1 rfl) ?_)
  by_cases g3 : t.L < 0
  · exact c_lt g3 (bad _ (Chg.refl _ _) (fun h => by unfold okT at h; omega))
  refine c_nlt (by omega) (opnI_c (hb.rd 1 rfl) ?_)
  by_cases g4 : t.L > 48
  · exact c_gt g4 (bad _ (Chg.refl _ _) (fun h => by have := h.bounds; omega))
  refine c_ngt (by omega) (opnI_c (hb.rd 0 rfl) (opnI_c (hb.rd 1 rfl) ?_))
  have hHL0 : 0 ≤ t.H * t.L := Int.mul_nonneg (by omega) (by omega)
  have hHL1 : t.H * t.L ≤ 8 * 48 := Int.mul_le_mul (by omega) (by omega) (by omega) (by omega)
  rw [wrap_id (by omega) (by omega)]
  by_cases g5 : t.H * t.L > 48
  · exact c_gt g5 (bad _ (Chg.refl _ _) (fun h => by unfold okT at h; omega))
  refine c_ngt (by omega) (opnI_c (hb.rd 2 rfl) ?_)
  by_cases g6 : t.N < 0
  · exact c_lt g6 (bad _ (Chg.refl _ _) (fun h => by unfold okT at h; omega))
  refine c_nlt (by omega) (opnI_c (hb.rd 3 rfl) ?_)
  by_cases g7 : t.W < 1
  · exact c_lt g7 (bad _ (Chg.refl _ _) (fun h => by unfold okT at h; omega))
  refine c_nlt (by omega) (opnI_c (hb.rd 0 rfl) (opnI_c (hb.rd 1 rfl) ?_))
  rw [wrap_id (by omega) (by omega)]
  refine rpower_word (by omega) (by omega) ?_
  rw [opnI_e]
  obtain ⟨m, hm⟩ := Int.eq_ofNat_of_zero_le hHL0
  obtain ⟨hh, hhe⟩ := Int.eq_ofNat_of_zero_le (by omega : 0 ≤ t.H)
  obtain ⟨Nn, hNn⟩ := Int.eq_ofNat_of_zero_le (by omega : 0 ≤ t.N)
  have hpm : (2 : Int) ^ (t.H * t.L).toNat = ((2 ^ m : Nat) : Int) := by rw [hm, Int.toNat_natCast]; norm_cast
  have hph : (2 : Int) ^ t.H.toNat = ((2 ^ hh : Nat) : Int) := by rw [hhe, Int.toNat_natCast]; norm_cast
  have hpos : 0 < 2 ^ hh := Nat.pow_pos (by decide)
  have hposm : 0 < 2 ^ m := Nat.pow_pos (by decide)
  have hh8 : 2 ^ hh ≤ 2 ^ 8 := Nat.pow_le_pow_right (by decide) (by omega)
  rw [hpm]
  refine ⟨by omega, ?_⟩
  rw [drw_s]
  have k2 : Chg None w1 w1.drew := Chg.drew0 _
  have hb2 := hb.chg k2 (fun h => h)
  generalize w1.drew = w2 at k2 hb2
  have hroom : IntKind.wrap .i64 (Int.tdiv 281474976710656 ((2 ^ m : Nat) : Int)) = ((281474976710656 / 2 ^ m : Nat) : Int) := by
    have e : Int.tdiv 281474976710656 ((2 ^ m : Nat) : Int) = ((281474976710656 / 2 ^ m : Nat) : Int) := rfl
    have hle : 281474976710656 / 2 ^ m ≤ 281474976710656 := Nat.div_le_self _ _
    rw [e, wrap_natv (Nat.lt_of_le_of_lt hle (by decide))]
  have hokiff : t.W ≤ ((2 ^ hh : Nat) : Int) → (t.D = true → t.L = 0) → (okT t ↔ ((Nn * 2 ^ hh : Nat) : Int) + t.W ≤ ((281474976710656 / 2 ^ m : Nat) : Int)) := by
    intro a1 a4
    have e1 : t.N * 2 ^ t.H.toNat = ((Nn * 2 ^ hh : Nat) : Int) := by rw [hph, hNn]; norm_cast
    have e2 : (281474976710656 : Int) / 2 ^ (t.H * t.L).toNat = ((281474976710656 / 2 ^ m : Nat) : Int) := by rw [hpm]; rfl
    unfold okT
    rw [e1, e2, hph]
    exact ⟨fun h => h.2.2.2.2.2.2.2.2, fun h => ⟨by omega, by omega, by omega, a1, by omega, by omega, a4, by omega, h⟩⟩
  have hle : 281474976710656 / 2 ^ m ≤ 281474976710656 := Nat.div_le_self _ _
  have hokW : okT t → t.W ≤ ((2 ^ hh : Nat) : Int) := fun h => by rw [← hph]; exact h.2.2.2.1
  have hokD : okT t → t.D = true → t.L = 0 := fun h => h.2.2.2.2.2.2.1
  refine opnI_c (hb2.rd 3 rfl) (opnI_c (hb2.rd 0 rfl) (rpower_word (by omega) (by omega) ?_))
  rw [opnI_e]
  refine ⟨opnI_c (hb2.rd 3 rfl) rfl, ?_⟩
  rw [hph]
  by_cases g8 : t.W > ((2 ^ hh : Nat) : Int)
  · exact c_gt g8 (bad5 _ k2 fun h => by have := hokW h; omega)
  refine c_ngt (by omega) (opnI_c (hb2.rd 2 rfl) (opnI_c (hb2.rd 0 rfl) (rpower_word (by omega) (by omega) ?_)))
  rw [opnI_e]
  refine ⟨opnI_c (hb2.rd 2 rfl) rfl, ?_⟩
  rw [hph]
  refine ⟨by omega, ?_⟩
  rw [hroom]
  generalize 281474976710656 / 2 ^ m = R at hokiff hle ⊢
  have hq : IntKind.wrap .i64 (Int.tdiv ((R : Nat) : Int) ((2 ^ hh : Nat) : Int)) = ((R / 2 ^ hh : Nat) : Int) := by
    have e : Int.tdiv ((R : Nat) : Int) ((2 ^ hh : Nat) : Int) = ((R / 2 ^ hh : Nat) : Int) := rfl
    have hle2 : R / 2 ^ hh ≤ R := Nat.div_le_self _ _
    rw [e, wrap_natv (Nat.lt_of_le_of_lt (Nat.le_trans hle2 hle) (by decide))]
  rw [hq]
  have hdm : Nn ≤ R / 2 ^ hh ↔ Nn * 2 ^ hh ≤ R := Nat.le_div_iff_mul_le hpos
  generalize R / 2 ^ hh = D at hdm ⊢
  generalize hP : Nn * 2 ^ hh = P at hdm hokiff
  by_cases g9 : t.N > ((D : Nat) : Int)
  · refine c_gt g9 (bad5 _ k2 fun h => ?_)
    have h1 := (hokiff (hokW h) (hokD h)).1 h
    have h2 : Nn ≤ D := hdm.2 (by omega)
    omega
  have hN : P ≤ R := hdm.1 (by omega)
  refine c_ngt (by omega) (opnI_c (hb2.rd 2 rfl) (opnI_c (hb2.rd 0 rfl) (opnI_c (hb2.rd 3 rfl) (rpower_word (by omega) (by omega) ?_))))
  rw [opnI_e]
  refine ⟨opnI_c (hb2.rd 3 rfl) rfl, opnI_c (hb2.rd 2 rfl) rfl, ?_⟩
  rw [hph]
  have hprod : t.N * ((2 ^ hh : Nat) : Int) = ((P : Nat) : Int) := by rw [hNn, ← hP]; norm_cast
  rw [hprod, wrap_id (n := ((P : Nat) : Int)) (by omega) (by omega), wrap_id (by omega) (by omega)]
  by_cases g10 : ((P : Nat) : Int) + t.W > ((R : Nat) : Int)
  · refine c_gt g10 (bad5 _ k2 fun h => ?_)
    have h1 := (hokiff (hokW h) (hokD h)).1 h
    omega
  refine c_ngt (by omega) (opnB_c (hb2.rd 4 rfl) ?_)
  have k02 := k1.none_trans k2
  cases hd : t.D with
  | false => exact c_f rfl (N_r10_Check.j8_eq (h := hok ((hokiff (by omega) (fun h => by rw [hd] at h; cases h)).2 (by omega)) w2 k02))
  | true =>
    refine c_t rfl (opnI_c (hb2.rd 1 rfl) ?_)
    by_cases a4 : t.L = 0
    · exact c_nne a4 (N_r10_Check.j8_eq (h := hok ((hokiff (by omega) (fun _ => a4)).2 (by omega)) w2 k02))
    · exact c_ne a4 (hno (fun h => a4 (hokD h hd)) w2 k02)
end
end Go.Proofs.YtccjncflbbhldaaDoor
