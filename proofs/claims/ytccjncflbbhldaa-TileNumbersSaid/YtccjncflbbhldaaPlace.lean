/- Places of stored hashes: what tlog and the document's layer 8 answer. -/
import Derived.Test.YtccjncflbbhldaaShF2
import Derived.Test.YtccjncflbbhldaaShF3
import Derived.Test.YtccjncflbbhldaaTiles
import Derived.Test.YtccjncflbbhldaaShP2
set_option maxRecDepth 10000
namespace Go.Proofs.Ytccjncflbbhldaa
open Go.Sh

theorem u64_and (a b : Nat) (ha : a < 18446744073709551616) (hb : b < 18446744073709551616) : bits .and .u64 (a : Int) (b : Int) = ((a &&& b : Nat) : Int) := by
  have hx : a &&& b < 2 ^ 64 := Nat.and_lt_two_pow _ (by omega)
  have e : ∀ n : Nat, n < 18446744073709551616 → (BitVec.ofInt 64 (n : Int)).toNat = n := fun n hn => by
    rw [BitVec.ofInt_natCast, BitVec.toNat_ofNat]; exact Nat.mod_eq_of_lt (by omega)
  show IntKind.u64.wrap ((BitVec.ofInt 64 (a : Int) &&& BitVec.ofInt 64 (b : Int)).toNat : Int) = _
  rw [BitVec.toNat_and, e a ha, e b hb, IntKind.wrap_u64]
  omega
theorem i64_and (a b : Nat) (ha : a < 9223372036854775808) (hb : b < 9223372036854775808) : bits .and .i64 (a : Int) (b : Int) = ((a &&& b : Nat) : Int) := by
  have hx : a &&& b < 2 ^ 63 := Nat.and_lt_two_pow _ (by omega)
  have e : ∀ n : Nat, n < 9223372036854775808 → (BitVec.ofInt 64 (n : Int)).toNat = n := fun n hn => by
    rw [BitVec.ofInt_natCast, BitVec.toNat_ofNat]; exact Nat.mod_eq_of_lt (by omega)
  show IntKind.i64.wrap ((BitVec.ofInt 64 (a : Int) &&& BitVec.ofInt 64 (b : Int)).toNat : Int) = _
  rw [BitVec.toNat_and, e a ha, e b hb, IntKind.wrap_i64]
  omega
theorem shr_u64 (x k : Nat) (hk : k ≤ 64) : shrI .u64 (x : Int) (k : Int) = ((x / 2 ^ k : Nat) : Int) := by
  simp only [shrI, IntKind.bits, Int.toNat_natCast]
  rw [Nat.min_eq_left hk, Int.fdiv_eq_ediv_of_nonneg _ (by exact_mod_cast Nat.zero_le _)]
  norm_cast
theorem wrap_u (n : Nat) (h : n < 18446744073709551616) : IntKind.wrap .u64 (n : Int) = (n : Int) := by rw [IntKind.wrap_u64]; omega
theorem tdiv_nat (a b : Nat) : Int.tdiv (a : Int) (b : Int) = ((a / b : Nat) : Int) := by rw [Int.tdiv_eq_ediv_of_nonneg (by omega)]; rfl
theorem tmod_nat (a b : Nat) : Int.tmod (a : Int) (b : Int) = ((a % b : Nat) : Int) := by rw [Int.tmod_eq_emod_of_nonneg (by omega)]; rfl
theorem wrap_n (n : Nat) (h : n < 9223372036854775808) : IntKind.wrap .i64 (n : Int) = (n : Int) := wrap_id (by omega) (by omega)

theorem ones_word {Q : Value → World → Prop} {x : Nat} {w : World} (hx : x < 18446744073709551616) (hQ : Q (.int .i64 ((pc x : Nat) : Int)) w) : C_math_bits_OnesCount64 #[.int .u64 (x : Int)] w Q := by
  refine C_math_bits_OnesCount64_eq _ _ _ ?_
  obtain ⟨b1, b2, b3, b4⟩ := swar hx
  have e1 : IntKind.wrap .u64 ((bits .and .u64 (shrI .u64 (x : Int) 1) 6148914691236517205) + (bits .and .u64 (x : Int) 6148914691236517205)) = ((swar1 x : Nat) : Int) := by
    have h1 := shr_u64 x 1 (by decide)
    have h2 := u64_and (x / 2 ^ 1) 6148914691236517205 (by omega) (by decide)
    have h3 := u64_and x 6148914691236517205 hx (by decide)
    rw [show (1 : Int) = ((1 : Nat) : Int) from rfl, h1, show (6148914691236517205 : Int) = ((6148914691236517205 : Nat) : Int) from rfl, h2, h3, ← Int.natCast_add]
    exact wrap_u _ b1
  rw [e1]
  generalize swar1 x = y at *
  have e2 : IntKind.wrap .u64 ((bits .and .u64 (shrI .u64 (y : Int) 2) 3689348814741910323) + (bits .and .u64 (y : Int) 3689348814741910323)) = ((swar2 y : Nat) : Int) := by
    have h1 := shr_u64 y 2 (by decide)
    have h2 := u64_and (y / 2 ^ 2) 3689348814741910323 (by omega) (by decide)
    have h3 := u64_and y 3689348814741910323 b1 (by decide)
    rw [show (2 : Int) = ((2 : Nat) : Int) from rfl, h1, show (3689348814741910323 : Int) = ((3689348814741910323 : Nat) : Int) from rfl, h2, h3, ← Int.natCast_add]
    exact wrap_u _ (by show swar2 y < _; omega)
  rw [e2]
  generalize swar2 y = z at *
  have e3 : bits .and .u64 (IntKind.wrap .u64 ((shrI .u64 (z : Int) 4) + (z : Int))) 1085102592571150095 = ((swar3 z : Nat) : Int) := by
    have h1 := shr_u64 z 4 (by decide)
    have h2 := u64_and (z / 2 ^ 4 + z) 1085102592571150095 (by omega) (by decide)
    rw [show (4 : Int) = ((4 : Nat) : Int) from rfl, h1, ← Int.natCast_add, wrap_u _ (by omega), show (1085102592571150095 : Int) = ((1085102592571150095 : Nat) : Int) from rfl, h2]
    rfl
  rw [e3]
  generalize swar3 z = v at *
  have e4 : IntKind.wrap .u64 ((v : Int) + (shrI .u64 (v : Int) 8)) = ((v + v / 256 : Nat) : Int) := by
    have h1 := shr_u64 v 8 (by decide)
    rw [show (8 : Int) = ((8 : Nat) : Int) from rfl, h1, ← Int.natCast_add]
    exact wrap_u _ (by omega)
  rw [e4]
  have hA : v + v / 256 < 700000000000000000 := by omega
  generalize hAe : v + v / 256 = A at *
  have e5 : IntKind.wrap .u64 ((A : Int) + (shrI .u64 (A : Int) 16)) = ((A + A / 65536 : Nat) : Int) := by
    have h1 := shr_u64 A 16 (by decide)
    rw [show (16 : Int) = ((16 : Nat) : Int) from rfl, h1, ← Int.natCast_add]
    exact wrap_u _ (by omega)
  rw [e5]
  have hB : A + A / 65536 < 800000000000000000 := by omega
  generalize hBe : A + A / 65536 = B at *
  have e6 : IntKind.wrap .u64 ((B : Int) + (shrI .u64 (B : Int) 32)) = ((B + B / 4294967296 : Nat) : Int) := by
    have h1 := shr_u64 B 32 (by decide)
    rw [show (32 : Int) = ((32 : Nat) : Int) from rfl, h1, ← Int.natCast_add]
    exact wrap_u _ (by omega)
  rw [e6, wrap_n _ (by omega)]
  have h7 := i64_and (B + B / 4294967296) 127 (by omega) (by decide)
  rw [show (127 : Int) = ((127 : Nat) : Int) from rfl, h7]
  have e8 : (B + B / 4294967296) &&& 127 = pc x := by rw [← b4]; simp only [swar4, hAe, hBe]
  rw [e8]
  exact hQ

theorem count_word {Q : Value → World → Prop} {n : Nat} {w : World} (hn : n ≤ 562949953421312) (hQ : Q (.int .i64 ((laid n : Nat) : Int)) w) : C_tlog_count #[.int .i64 (n : Int)] w Q := by
  refine C_tlog_count_eq _ _ _ ?_
  have h1 := laid_pc (n := n) (by omega)
  rw [wrap_u n (by omega)]
  refine ones_word (by omega) (opnI_s ?_)
  rw [wrap_id (n := 2 * (n : Int)) (by omega) (by omega), wrap_id (by omega) (by omega), show 2 * (n : Int) - ((pc n : Nat) : Int) = ((laid n : Nat) : Int) by omega]
  exact hQ
theorem filled_word {Q : Value → World → Prop} {c : Nat} {w : World} (hc : c ≤ 562949953421311) (hQ : Q (.int .i64 ((recOf c : Nat) : Int)) w) : C_tlog_filled #[.int .i64 (c : Int)] w Q := by
  refine C_tlog_filled_eq _ _ _ ⟨by decide, ?_⟩
  have go : ∀ (k n : Nat), n + k = 281474976710656 → laid n ≤ c → N_tlog_filled.j2 Q (c : Int) (n : Int) w := by
    intro k
    induction k with
    | zero =>
      intro n hn hl
      have hge : (281474976710656 : Int) ≤ (n : Int) := by omega
      apply N_tlog_filled.j2_eq
      rw [decide_eq_false (by omega), cond_false]
      refine N_tlog_filled.j4_eq (h := ?_)
      rw [recOf_eq (c := c) (n := n) (IsRec.mk (by omega) hl fun _ => by omega)] at hQ
      exact hQ
    | succ k ih =>
      intro n hn hl
      have hge : (n : Int) < 281474976710656 := by omega
      apply N_tlog_filled.j2_eq
      rw [decide_eq_true hge, cond_true]
      rw [wrap_nat (by omega)]
      refine count_word (by omega) (opnI_s ?_)
      by_cases hle : laid (n + 1) ≤ c
      · exact c_le (by omega) (ih (n + 1) (by omega) hle)
      · refine c_nle (by omega) (N_tlog_filled.j4_eq (h := ?_))
        rw [recOf_eq (c := c) (n := n) (IsRec.mk (by omega) hl fun _ => by omega)] at hQ
        exact hQ
  have h2 := tdiv_nat c 2
  rw [show (2 : Int) = ((2 : Nat) : Int) from rfl, h2, wrap_n _ (by omega)]
  have := laid_le (c / 2)
  exact go (281474976710656 - c / 2) (c / 2) (by omega) (by omega)
theorem place_word {Q : Value → World → Prop} {level n : Nat} {w : World} (h48 : level ≤ 48) (h : (n + 1) * 2 ^ level ≤ 281474976710656) (hQ : Q (.int .i64 ((placeOf level n : Nat) : Int)) w) : C_tlog_place #[.int .i64 (level : Int), .int .i64 (n : Int)] w Q := by
  refine C_tlog_place_eq _ _ _ _ (nn_nat ?_)
  have hp : 0 < (n + 1) * 2 ^ level := Nat.mul_pos (by omega) (pow_pos2 _)
  have hn : n + 1 ≤ (n + 1) * 2 ^ level := Nat.le_mul_of_pos_right _ (pow_pos2 _)
  have hl := place_lt h
  rw [wrap_nat (by omega), shl_nat _ _ (by omega) (by omega), wrap_id (by omega) (by omega), show (((n + 1) * 2 ^ level : Nat) : Int) - 1 = (((n + 1) * 2 ^ level - 1 : Nat) : Int) by omega]
  refine count_word (by omega) (opnI_s ?_)
  rw [← Int.natCast_add, wrap_n _ (by unfold placeOf at hl; omega)]
  exact hQ
/-- Index -/
def idxOk (level n : Int) : Prop := 0 ≤ level ∧ level ≤ 48 ∧ 0 ≤ n ∧ (n.toNat + 1) * 2 ^ level.toNat ≤ 281474976710656
theorem idx_shift {level n : Nat} (h48 : level ≤ 48) : 281474976710656 / 2 ^ level ≤ n ↔ ¬ (n + 1) * 2 ^ level ≤ 281474976710656 := by
  have hp := pow_pos2 level
  rw [← Nat.le_div_iff_mul_le hp]; omega
theorem index_word {Q : Value → World → Prop} {level n : Int} {w : World} (hok : idxOk level n → Q (.tuple #[.int .i64 ((placeOf level.toNat n.toNat : Nat) : Int), .int .i64 0]) w) (hno : ¬ idxOk level n → Q (.tuple #[.int .i64 0, .int .i64 1]) w) : C_tlog_Index #[.int .i64 level, .int .i64 n] w Q := by
  refine C_tlog_Index_eq _ _ _ _ ?_
  by_cases h1 : level < 0
  · exact c_lt h1 (N_tlog_Index.j2_eq (h := hno (by unfold idxOk; omega)))
  refine c_nlt (by omega) ?_
  by_cases h2 : level > 48
  · exact c_gt h2 (N_tlog_Index.j2_eq (h := hno (by unfold idxOk; omega)))
  refine c_ngt (by omega) ?_
  by_cases h3 : n < 0
  · exact c_lt h3 (N_tlog_Index.j2_eq (h := hno (by unfold idxOk; omega)))
  refine c_nlt (by omega) ?_
  obtain ⟨l, rfl⟩ := Int.eq_ofNat_of_zero_le (by omega : 0 ≤ level)
  obtain ⟨n, rfl⟩ := Int.eq_ofNat_of_zero_le (by omega : 0 ≤ n)
  refine nn_nat ?_
  have hs := shr_nat 281474976710656 l (by omega)
  rw [show (281474976710656 : Int) = ((281474976710656 : Nat) : Int) from rfl, hs]
  by_cases h4 : (n + 1) * 2 ^ l ≤ 281474976710656
  · have h5 := mt (idx_shift (n := n) (show l ≤ 48 by omega)).1 (by simpa using h4)
    refine c_nge (by omega) (place_word (by omega) h4 (opnI_s ?_))
    have := hok ⟨by omega, by omega, by omega, by simpa using h4⟩
    simp only [Int.toNat_natCast] at this
    exact this
  · have h5 := (idx_shift (n := n) (show l ≤ 48 by omega)).2 h4
    exact c_ge (by omega) (N_tlog_Index.j2_eq (h := hno (fun g => h4 (by simpa only [Int.toNat_natCast] using g.2.2.2))))
/-- SplitIndex -/
theorem split_word {Q : Value → World → Prop} {c : Int} {w : World} (hok : ∀ c' : Nat, c = c' → c' < 562949953421311 → ∀ w', Chg None w w' → Q (.tuple #[.int .i64 ((levOf c' : Nat) : Int), .int .i64 ((nodOf c' : Nat) : Int), .int .i64 0]) w') (hno : ¬ (0 ≤ c ∧ c < 562949953421311) → Q (.tuple #[.int .i64 0, .int .i64 0, .int .i64 1]) w) : C_tlog_SplitIndex #[.int .i64 c] w Q := by
  refine C_tlog_SplitIndex_eq _ _ _ ?_
  by_cases h1 : c < 0
  · exact c_lt h1 (N_tlog_SplitIndex.j2_eq (h := hno (by omega)))
  refine c_nlt (by omega) ?_
  have h281 : (281474976710656 : Int) = ((281474976710656 : Nat) : Int) := rfl
  rw [h281]
  refine count_word (by omega) (opnI_s ?_)
  rw [laid_max]
  obtain ⟨c, rfl⟩ := Int.eq_ofNat_of_zero_le (by omega : 0 ≤ c)
  by_cases h2 : 562949953421311 ≤ c
  · exact c_ge (by omega) (N_tlog_SplitIndex.j2_eq (h := hno (by omega)))
  refine c_nge (by omega) (filled_word (by omega) (opnI_s ?_))
  have hr := rec_lt (c := c) (by omega)
  refine count_word (by omega) (opnI_s ?_)
  rw [drw_s]
  have h3 := (recOf_is c).2.1
  have hl := lev_le (c := c) (by omega)
  obtain ⟨h4, h5⟩ := split_pos (c := c) (by omega)
  have e1 : IntKind.wrap .i64 ((c : Int) - ((laid (recOf c) : Nat) : Int)) = ((levOf c : Nat) : Int) := by
    rw [wrap_id (by omega) (by omega)]; unfold levOf; omega
  rw [e1, wrap_nat (by omega)]
  refine nn_nat ?_
  rw [shr_nat _ _ (by omega)]
  have hle : (recOf c + 1) / 2 ^ levOf c ≤ recOf c + 1 := Nat.div_le_self _ _
  rw [wrap_id (by omega) (by omega), show (((recOf c + 1) / 2 ^ levOf c : Nat) : Int) - 1 = ((nodOf c : Nat) : Int) by unfold nodOf; omega]
  exact hok c rfl (by omega) _ (Chg.drew0 w)
theorem tcount_word {Q : Value → World → Prop} {n : Int} {w : World} (hok : 0 ≤ n → n ≤ 281474976710656 → Q (.tuple #[.int .i64 ((laid n.toNat : Nat) : Int), .int .i64 0]) w) (hno : ¬ (0 ≤ n ∧ n ≤ 281474976710656) → Q (.tuple #[.int .i64 0, .int .i64 1]) w) : C_tlog_Count #[.int .i64 n] w Q := by
  refine C_tlog_Count_eq _ _ _ ?_
  by_cases h1 : n < 0
  · exact c_lt h1 (N_tlog_Count.j2_eq (h := hno (by omega)))
  refine c_nlt (by omega) ?_
  by_cases h2 : n > 281474976710656
  · exact c_gt h2 (N_tlog_Count.j2_eq (h := hno (by omega)))
  refine c_ngt (by omega) ?_
  obtain ⟨n, rfl⟩ := Int.eq_ofNat_of_zero_le (by omega : 0 ≤ n)
  exact count_word (by omega) (opnI_s (hok (by omega) (by omega)))

/-! ### the document's -/
theorem rlaid_word {Q : Value → World → Prop} {n : Nat} {w : World} (hn : n ≤ 562949953421312) (hQ : Q (.int .i64 ((laid n : Nat) : Int)) w) : C_r08_laid #[.int .i64 (n : Int)] w Q := by
  refine C_r08_laid_eq _ _ _ ?_
  have go : ∀ (n s : Nat), s + laid n ≤ 1125899906842624 → s + laid n = s + laid n → (Q (.int .i64 ((s + laid n : Nat) : Int)) w) → N_r08_laid.j2 Q (n : Int) (s : Int) w := by
    intro n
    induction n using Nat.strongRecOn with
    | _ n ih =>
      intro s hs _ hq
      by_cases h0 : n = 0
      · subst h0
        rw [laid_zero] at hq
        exact N_r08_laid.j2_eq (h := c_ngt (by omega) hq)
      · have e := laid_eq n
        refine N_r08_laid.j2_eq (h := c_gt (by omega) ⟨by decide, ?_⟩)
        have h2 := tdiv_nat n 2
        have hg := laid_ge n
        rw [show (2 : Int) = ((2 : Nat) : Int) from rfl, h2, wrap_n _ (by omega), ← Int.natCast_add, wrap_n _ (by omega)]
        refine ih (n / 2) (by omega) (s + n) (by omega) rfl ?_
        rw [show s + n + laid (n / 2) = s + laid n by omega]
        exact hq
  have := laid_le n
  exact go n 0 (by omega) rfl (by rw [Nat.zero_add]; exact hQ)
theorem rpower_word {Q : Value → World → Prop} {n : Nat} {w : World} (hn : n ≤ 62) (hQ : Q (.int .i64 ((2 ^ n : Nat) : Int)) w) : C_r08_power #[.int .i64 (n : Int)] w Q := by
  refine C_r08_power_eq _ _ _ ?_
  have go : ∀ (k i : Nat), i + k = n → N_r08_power.j3 Q (n : Int) ((2 ^ i : Nat) : Int) (i : Int) w := by
    intro k
    induction k with
    | zero => intro i hi; refine N_r08_power.j3_eq (h := c_nlt (by omega) ?_); rw [show i = n by omega]; exact hQ
    | succ k ih =>
      intro i hi
      refine N_r08_power.j3_eq (h := c_lt (by omega) ?_)
      have hle : 2 ^ i ≤ 2 ^ 61 := Nat.pow_le_pow_right (by decide) (by omega)
      have := ih (i + 1) (by omega)
      rw [Nat.pow_succ] at this
      generalize 2 ^ i = P at *
      rw [wrap_nat (by omega), wrap_id (by omega) (by omega), show 2 * (P : Int) = ((P * 2 : Nat) : Int) by omega]
      exact this
  exact go n 0 (by omega)
theorem rrecord_word {Q : Value → World → Prop} {c : Nat} {w : World} (hQ : Q (.int .i64 ((recOf c : Nat) : Int)) w) : C_r08_record #[.int .i64 (c : Int)] w Q := by
  refine C_r08_record_eq _ _ _ ?_
  have go : ∀ (k lo hi : Nat), hi - lo ≤ k → lo ≤ hi → hi ≤ 281474976710656 → laid lo ≤ c → (hi < 281474976710656 → c < laid (hi + 1)) → N_r08_record.j3 Q (c : Int) (lo : Int) (hi : Int) w := by
    intro k
    induction k with
    | zero =>
      intro lo hi hk h1 h2 h3 h4
      obtain rfl : lo = hi := by omega
      refine N_r08_record.j3_eq (h := c_nlt (by omega) ?_)
      rw [recOf_eq (c := c) (n := lo) (IsRec.mk h2 h3 h4)] at hQ
      exact hQ
    | succ k ih =>
      intro lo hi hk h1 h2 h3 h4
      by_cases he : lo = hi
      · subst he
        refine N_r08_record.j3_eq (h := c_nlt (by omega) ?_)
        rw [recOf_eq (c := c) (n := lo) (IsRec.mk h2 h3 h4)] at hQ
        exact hQ
      refine N_r08_record.j3_eq (h := c_lt (by omega) ⟨by decide, ?_⟩)
      have hd := tdiv_nat (lo + hi + 1) 2
      rw [← Int.natCast_add, wrap_n _ (by omega), wrap_nat (by omega), show (2 : Int) = ((2 : Nat) : Int) from rfl, hd, wrap_n _ (by omega)]
      generalize hm : (lo + hi + 1) / 2 = m
      refine rlaid_word (by omega) (opnI_s ?_)
      by_cases hle : laid m ≤ c
      · exact c_le (by omega) (ih m hi (by omega) (by omega) h2 hle h4)
      · refine c_nle (by omega) ?_
        rw [wrap_id (by omega) (by omega), show (m : Int) - 1 = ((m - 1 : Nat) : Int) by omega]
        exact ih lo (m - 1) (by omega) (by omega) (by omega) h3 fun _ => by rw [show m - 1 + 1 = m by omega]; omega
  exact go 281474976710656 0 281474976710656 (by omega) (by omega) (by omega) (by rw [laid_zero]; exact Nat.zero_le _) (by omega)
theorem rindex_word {Q : Value → World → Prop} {level n : Int} {w : World} (hok : idxOk level n → Q (.tuple #[.int .i64 ((placeOf level.toNat n.toNat : Nat) : Int), .int .i64 0]) w) (hno : ¬ idxOk level n → Q (.tuple #[.int .i64 0, .int .i64 1]) w) : C_r08_Index #[.int .i64 level, .int .i64 n] w Q := by
  refine C_r08_Index_eq _ _ _ _ ?_
  by_cases h1 : level < 0
  · exact c_lt h1 (N_r08_Index.j2_eq (h := hno (by unfold idxOk; omega)))
  refine c_nlt (by omega) ?_
  by_cases h2 : level > 48
  · exact c_gt h2 (N_r08_Index.j2_eq (h := hno (by unfold idxOk; omega)))
  refine c_ngt (by omega) ?_
  by_cases h3 : n < 0
  · exact c_lt h3 (N_r08_Index.j2_eq (h := hno (by unfold idxOk; omega)))
  refine c_nlt (by omega) ?_
  obtain ⟨l, rfl⟩ := Int.eq_ofNat_of_zero_le (by omega : 0 ≤ level)
  obtain ⟨n, rfl⟩ := Int.eq_ofNat_of_zero_le (by omega : 0 ≤ n)
  have hp := pow_pos2 l
  have hn1 : n + 1 ≤ (n + 1) * 2 ^ l := Nat.le_mul_of_pos_right _ hp
  by_cases h5 : 281474976710656 ≤ n
  · exact c_ge (by omega) (N_r08_Index.j2_eq (h := hno (fun g => by have := g.2.2.2; simp only [Int.toNat_natCast] at this; omega)))
  refine c_nge (by omega) (rpower_word (by omega) (opnI_s ⟨by omega, ?_⟩))
  have hd := tdiv_nat 281474976710656 (2 ^ l)
  have hle : 281474976710656 / 2 ^ l ≤ 281474976710656 := Nat.div_le_self _ _
  rw [show (281474976710656 : Int) = ((281474976710656 : Nat) : Int) from rfl, hd, wrap_n _ (by omega), wrap_nat (by omega)]
  by_cases h4 : (n + 1) * 2 ^ l ≤ 281474976710656
  · have h6 := (Nat.le_div_iff_mul_le hp).2 h4
    refine c_ngt (by omega) ?_
    rw [show (((n + 1 : Nat) : Int) * ((2 ^ l : Nat) : Int)) = (((n + 1) * 2 ^ l : Nat) : Int) by norm_cast, wrap_n _ (by omega), wrap_id (by omega) (by omega), show (((n + 1) * 2 ^ l : Nat) : Int) - 1 = (((n + 1) * 2 ^ l - 1 : Nat) : Int) by omega]
    refine rlaid_word (by omega) (opnI_s ?_)
    have hl := place_lt h4
    rw [← Int.natCast_add, wrap_n _ (by unfold placeOf at hl; omega)]
    have := hok ⟨by omega, by omega, by omega, by simpa using h4⟩
    simp only [Int.toNat_natCast] at this
    exact this
  · have h6 := mt (Nat.le_div_iff_mul_le hp).1 h4
    exact c_gt (by omega) (hno (fun g => h4 (by simpa only [Int.toNat_natCast] using g.2.2.2)))
theorem rsplit_word {Q : Value → World → Prop} {c : Int} {w : World} (hok : ∀ c' : Nat, c = c' → c' < 562949953421311 → ∀ w', Chg None w w' → Q (.tuple #[.int .i64 ((levOf c' : Nat) : Int), .int .i64 ((nodOf c' : Nat) : Int), .int .i64 0]) w') (hno : ¬ (0 ≤ c ∧ c < 562949953421311) → Q (.tuple #[.int .i64 0, .int .i64 0, .int .i64 1]) w) : C_r08_SplitIndex #[.int .i64 c] w Q := by
  refine C_r08_SplitIndex_eq _ _ _ ?_
  by_cases h1 : c < 0
  · exact c_lt h1 (N_r08_SplitIndex.j2_eq (h := hno (by omega)))
  refine c_nlt (by omega) ?_
  by_cases h2 : 562949953421311 ≤ c
  · exact c_ge (by omega) (N_r08_SplitIndex.j2_eq (h := hno (by omega)))
  refine c_nge (by omega) ?_
  obtain ⟨c, rfl⟩ := Int.eq_ofNat_of_zero_le (by omega : 0 ≤ c)
  refine rrecord_word (opnI_s ?_)
  have hr := rec_lt (c := c) (by omega)
  refine rlaid_word (by omega) (opnI_s ?_)
  rw [drw_s]
  have h3 := (recOf_is c).2.1
  have hl := lev_le (c := c) (by omega)
  obtain ⟨h4, h5⟩ := split_pos (c := c) (by omega)
  have e1 : IntKind.wrap .i64 ((c : Int) - ((laid (recOf c) : Nat) : Int)) = ((levOf c : Nat) : Int) := by
    rw [wrap_id (by omega) (by omega)]; unfold levOf; omega
  rw [e1, wrap_nat (by omega)]
  have hp := pow_pos2 (levOf c)
  refine rpower_word (by omega) (opnI_s ⟨by omega, ?_⟩)
  have hle : (recOf c + 1) / 2 ^ levOf c ≤ recOf c + 1 := Nat.div_le_self _ _
  rw [tdiv_nat, wrap_n _ (by omega), wrap_id (by omega) (by omega), show (((recOf c + 1) / 2 ^ levOf c : Nat) : Int) - 1 = ((nodOf c : Nat) : Int) by unfold nodOf; omega]
  exact hok c rfl (by omega) _ (Chg.drew0 w)
theorem rcount_word {Q : Value → World → Prop} {n : Int} {w : World} (hok : 0 ≤ n → n ≤ 281474976710656 → Q (.tuple #[.int .i64 ((laid n.toNat : Nat) : Int), .int .i64 0]) w) (hno : ¬ (0 ≤ n ∧ n ≤ 281474976710656) → Q (.tuple #[.int .i64 0, .int .i64 1]) w) : C_r08_Count #[.int .i64 n] w Q := by
  refine C_r08_Count_eq _ _ _ ?_
  by_cases h1 : n < 0
  · exact c_lt h1 (N_r08_Count.j2_eq (h := hno (by omega)))
  refine c_nlt (by omega) ?_
  by_cases h2 : n > 281474976710656
  · exact c_gt h2 (N_r08_Count.j2_eq (h := hno (by omega)))
  refine c_ngt (by omega) ?_
  obtain ⟨n, rfl⟩ := Int.eq_ofNat_of_zero_le (by omega : 0 ≤ n)
  exact rlaid_word (by omega) (opnI_s (hok (by omega) (by omega)))
end Go.Proofs.Ytccjncflbbhldaa
