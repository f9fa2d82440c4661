/- Tops of a tree; the tile of a place: the program's and the document's. -/
import Derived.Test.YtccjncflbbhldaaPlace
import Derived.Test.YtccjncflbbhldaaTileCoversLaw
import Derived.Test.YtccjncflbbhldaaShL9
set_option maxRecDepth 10000
namespace Go.Proofs.Ytccjncflbbhldaa
open Go.Sh

theorem T51 : SlT PP 51 2 1 8 := ⟨by kernel_rfl, by kernel_rfl⟩
theorem T99 : SlT PP 99 3 1 8 := ⟨by kernel_rfl, by kernel_rfl⟩
def iv (n : Nat) : Value := .int .i64 (n : Int)
abbrev ivs (l : List Nat) : List Value := l.map iv

theorem bit_of (n m : Nat) (hn : n ≤ 281474976710656) (hm : m ≤ 48) : bits .and .i64 (shrI .i64 (n : Int) (m : Int)) 1 = ((n / 2 ^ m % 2 : Nat) : Int) := by
  have hle : n / 2 ^ m ≤ n := Nat.div_le_self _ _
  have h := i64_and (n / 2 ^ m) 1 (by omega) (by decide)
  rw [shr_nat _ _ (by omega), show (1 : Int) = ((1 : Nat) : Int) from rfl, h, Nat.and_one_is_mod]
/-- the records ahead of a top -/
def ahead (n m : Nat) : Nat := n / 2 ^ (m + 1) * 2 ^ (m + 1)
theorem ahead_le (n m : Nat) : ahead n m ≤ n := Nat.div_mul_le_self _ _
theorem ahead_shift (n m : Nat) : ahead n m / 2 ^ m = n / 2 ^ (m + 1) * 2 := by
  unfold ahead
  rw [Nat.pow_succ, ← Nat.mul_assoc, Nat.mul_right_comm, Nat.mul_div_cancel _ (pow_pos2 m)]
theorem div_succ (n m : Nat) : n / 2 ^ (m + 1) = n / 2 ^ m / 2 := by rw [Nat.pow_succ, Nat.div_div_eq_div_mul]
theorem ahead_next (n m : Nat) : ahead n m + (if n / 2 ^ (m + 1) % 2 = 1 then 0 else 0) + (n / 2 ^ m % 2) * 2 ^ m = n / 2 ^ m * 2 ^ m := by
  have h := div_succ n m
  have e := Nat.div_add_mod (n / 2 ^ m) 2
  have h2 : ahead n m = (2 * (n / 2 ^ m / 2)) * 2 ^ m := by
    unfold ahead
    rw [h, Nat.pow_succ, ← Nat.mul_assoc, Nat.mul_right_comm, Nat.mul_comm 2]
  rw [h2]
  simp only [ite_self, Nat.add_zero]
  rw [← Nat.add_mul, e]
theorem ahead_down (n m : Nat) : ahead n (m + 1) + (n / 2 ^ (m + 1) % 2) * 2 ^ (m + 1) = ahead n m := by
  have := ahead_next n (m + 1)
  simp only [ite_self, Nat.add_zero] at this
  rw [this]; rfl
theorem ahead_bit (n m : Nat) : n / 2 ^ m % 2 = 1 ↔ 2 ^ m ≤ n - ahead n m := by
  have h1 := ahead_next n m
  simp only [ite_self, Nat.add_zero] at h1
  have h2 := Nat.div_add_mod n (2 ^ m)
  have h3 := Nat.mod_lt n (pow_pos2 m)
  rw [Nat.mul_comm] at h2
  rcases (by omega : n / 2 ^ m % 2 = 0 ∨ n / 2 ^ m % 2 = 1) with h | h
  · rw [h, Nat.zero_mul, Nat.add_zero] at h1; omega
  · rw [h, Nat.one_mul] at h1; omega
theorem peak_fits {n m : Nat} (hn : n ≤ 281474976710656) (hb : n / 2 ^ m % 2 = 1) : (n / 2 ^ (m + 1) * 2 + 1) * 2 ^ m ≤ 281474976710656 := by
  have h1 := ahead_next n m
  simp only [ite_self, Nat.add_zero] at h1
  have h3 : n / 2 ^ m * 2 ^ m ≤ n := Nat.div_mul_le_self _ _
  have h2 := ahead_shift n m
  rw [hb, Nat.one_mul] at h1
  have e : ahead n m = n / 2 ^ (m + 1) * 2 * 2 ^ m := by unfold ahead; rw [Nat.pow_succ, Nat.mul_comm (2 ^ m), ← Nat.mul_assoc]
  rw [Nat.add_mul, Nat.one_mul, ← e]; omega

theorem push_int {t e : Nat} (T : SlT PP t e 1 8) {w0 w : World} {a : Option Addr} {n c : Nat} {l : List Value} (h : Own w e 1 a n c l) (f : ∀ k, At a k → w0.heap.size ≤ k) (k0 : Chg None w0 w) {v : Int} (hn : (n + 1) * 8 ≤ 140737488355328) {K : Option Addr → Nat → Nat → World → Prop}
    (hK : ∀ a' c' w', Own w' e 1 a' (n + 1) c' (l ++ [.int .i64 v]) → (∀ k, At a' k → w0.heap.size ≤ k) → Chg None w0 w' → K a' (n + 1) c' w') :
    alC #[.int .i64 v] e w fun p w5 => sem PP (Builtin.append_ #[t, t] t #[.slice a n c, .slice (some p) 1 1]) w5 fun v6 w7 => opnL (some v6) fun x xn xc => K x xn xc w7 := by
  unfold alC
  have ka : Chg None w (w.alloc (.cells #[.int .i64 v] e)) := chg_alloc w _
  refine append_own T (w := w.alloc (.cells #[.int .i64 v] e)) (h.chg0 ka) (src_two (vs := [.int .i64 v]) T.ht rfl (by intro u hu; simp at hu; subst hu; rfl)) (by simp only [maxLen]; omega) (by omega) fun a' c' w2 o2 k2 f2 => ?_
  refine hK a' c' w2 o2 ?_ (Chg.fresh (k0.none_trans ka) k2 f)
  rcases f2 with rfl | ⟨b, rfl, hb⟩
  · exact f
  · rintro k ⟨p, hp, rfl⟩; cases hp; exact Nat.le_trans (k0.none_trans ka).size hb

theorem peaks_word {Q : Value → World → Prop} {n : Nat} {w0 : World} (hn : n ≤ 281474976710656) (hQ : ∀ a c w', Own w' 2 1 a (peaksOf n).length c (ivs (peaksOf n)) → (∀ k, At a k → w0.heap.size ≤ k) → Chg None w0 w' → Q (.slice a (peaksOf n).length c) w') : C_tlog_peaks #[.int .i64 (n : Int)] w0 Q := by
  refine C_tlog_peaks_eq _ _ _ ?_
  rw [wrap_u n (by omega)]
  have hpc := laid_pc (n := n) (by omega)
  refine ones_word (by omega) (opnI_s ?_)
  have hpl := pc_le n
  generalize pc n = q at *
  refine make_empty T51 (by omega) (by omega) fun b w1 o1 k1 hb1 => ?_
  rw [opnL_s]
  have go : ∀ (m : Nat) (acc : List Nat) (a : Option Addr) (c : Nat) (w : World), m ≤ 49 → acc ++ peaksTo n m = peaksOf n → Own w 2 1 a acc.length c (ivs acc) → (∀ k, At a k → w0.heap.size ≤ k) → Chg None w0 w → N_tlog_peaks.j4 Q (n : Int) a acc.length c ((n / 2 ^ m * 2 ^ m : Nat) : Int) ((m : Int) - 1) w := by
    intro m
    induction m with
    | zero =>
      intro acc a c w _ hacc o f k
      refine N_tlog_peaks.j4_eq (h := c_nge (by omega) ?_)
      rw [peaksTo, List.append_nil] at hacc
      rw [hacc] at o ⊢
      exact hQ a c w o f k
    | succ m ih =>
      intro acc a c w hm hacc o f k
      have hm1 : ((m + 1 : Nat) : Int) - 1 = (m : Int) := by omega
      have hlen : acc.length ≤ 49 := by have := peaksTo_len n 49; have := congrArg List.length hacc; rw [List.length_append] at this; unfold peaksOf at this; omega
      have hah : n / 2 ^ (m + 1) * 2 ^ (m + 1) = ahead n m := rfl
      have hale := ahead_le n m
      have hstep := ahead_next n m
      simp only [ite_self, Nat.add_zero] at hstep
      have hdl : n / 2 ^ m * 2 ^ m ≤ n := Nat.div_mul_le_self _ _
      rw [hm1, hah]
      refine N_tlog_peaks.j4_eq (h := c_ge (by omega) (nn_nat ?_))
      rw [bit_of n m hn (by omega)]
      have next : ∀ (acc' : List Nat) (a : Option Addr) (c : Nat) (w : World) (z : Int), z = ((n / 2 ^ m * 2 ^ m : Nat) : Int) → acc' ++ peaksTo n m = peaksOf n → Own w 2 1 a acc'.length c (ivs acc') → (∀ k, At a k → w0.heap.size ≤ k) → Chg None w0 w → N_tlog_peaks.j5 Q (n : Int) a acc'.length c z (m : Int) w := by
        intro acc' a c w z hz hacc' o f k
        refine N_tlog_peaks.j5_eq (h := ?_)
        rw [wrap_id (by omega) (by omega), hz]
        exact ih acc' a c w (by omega) hacc' o f k
      by_cases hb : n / 2 ^ m % 2 = 1
      · refine c_eq (by omega) (nn_nat ?_)
        rw [shr_nat _ _ (by omega), ahead_shift]
        refine place_word (by omega) (peak_fits hn hb) (opnI_s ?_)
        rw [peaksTo, if_pos hb] at hacc
        refine push_int (K := fun x8 x8n x8c w7 => _) T51 o f k (by omega) fun a' c' w' o' f' k' => nn_nat ?_
        have hp : 2 ^ m ≤ n := by rw [hb, Nat.one_mul] at hstep; omega
        have hsh := shl_nat 1 m (by omega) (by rw [Nat.one_mul]; omega)
        rw [Nat.one_mul] at hsh
        rw [show (1 : Int) = ((1 : Nat) : Int) from rfl, hsh, ← Int.natCast_add, wrap_n _ (by omega)]
        have := next (acc ++ [placeOf m (n / 2 ^ (m + 1) * 2)]) a' c' w' ((ahead n m + 2 ^ m : Nat) : Int) (by rw [← hstep, hb, Nat.one_mul]) (by simpa using hacc) (by simpa [iv] using o') f' k'
        simpa using this
      · refine c_neq (by omega) ?_
        rw [peaksTo, if_neg hb] at hacc
        have hb0 : n / 2 ^ m % 2 = 0 := by omega
        have e := hstep
        rw [hb0, Nat.zero_mul, Nat.add_zero] at e
        exact next acc a c w _ (congrArg (fun x : Nat => (x : Int)) e) hacc o f k
  have h49 : n / 2 ^ 49 * 2 ^ 49 = 0 := by rw [Nat.div_eq_of_lt (by omega), Nat.zero_mul]
  have := go 49 [] _ _ w1 (Nat.le_refl _) rfl o1 (by rintro k ⟨p, hp, rfl⟩; cases hp; exact hb1) k1
  rw [h49] at this
  exact this
theorem tpeaks_word {Q : Value → World → Prop} {n : Int} {w0 : World} (hok : 0 ≤ n → n ≤ 281474976710656 → ∀ a c w', Own w' 2 1 a (peaksOf n.toNat).length c (ivs (peaksOf n.toNat)) → (∀ k, At a k → w0.heap.size ≤ k) → Chg None w0 w' → Q (.tuple #[.slice a (peaksOf n.toNat).length c, .int .i64 0]) w') (hno : ¬ (0 ≤ n ∧ n ≤ 281474976710656) → Q (.tuple #[.slice none 0 0, .int .i64 1]) w0) : C_tlog_Peaks #[.int .i64 n] w0 Q := by
  refine C_tlog_Peaks_eq _ _ _ ?_
  by_cases h1 : n < 0
  · exact c_lt h1 (N_tlog_Peaks.j2_eq (h := hno (by omega)))
  refine c_nlt (by omega) ?_
  by_cases h2 : n > 281474976710656
  · exact c_gt h2 (N_tlog_Peaks.j2_eq (h := hno (by omega)))
  refine c_ngt (by omega) ?_
  obtain ⟨n, rfl⟩ := Int.eq_ofNat_of_zero_le (by omega : 0 ≤ n)
  exact peaks_word (by omega) fun a c w' o f k => hok (by omega) (by omega) a c w' o f k
theorem rpeaks_word {Q : Value → World → Prop} {n : Int} {w0 : World} (hok : 0 ≤ n → n ≤ 281474976710656 → ∀ a c w', Own w' 3 1 a (peaksOf n.toNat).length c (ivs (peaksOf n.toNat)) → (∀ k, At a k → w0.heap.size ≤ k) → Chg None w0 w' → Q (.tuple #[.slice a (peaksOf n.toNat).length c, .int .i64 0]) w') (hno : ¬ (0 ≤ n ∧ n ≤ 281474976710656) → Q (.tuple #[.slice none 0 0, .int .i64 1]) w0) : C_r08_Peaks #[.int .i64 n] w0 Q := by
  refine C_r08_Peaks_eq _ _ _ ?_
  by_cases h1 : n < 0
  · exact c_lt h1 (N_r08_Peaks.j3_eq (h := hno (by omega)))
  refine c_nlt (by omega) ?_
  by_cases h2 : n > 281474976710656
  · exact c_gt h2 (N_r08_Peaks.j3_eq (h := hno (by omega)))
  refine c_ngt (by omega) ?_
  obtain ⟨n, rfl⟩ := Int.eq_ofNat_of_zero_le (by omega : 0 ≤ n)
  have hn : n ≤ 281474976710656 := by omega
  replace hok := hok (by omega) (by omega)
  clear hno h1 h2
  simp only [Int.toNat_natCast] at hok
  have go : ∀ (m : Nat) (acc : List Nat) (a : Option Addr) (c : Nat) (w : World), m ≤ 49 → acc ++ peaksTo n m = peaksOf n → Own w 3 1 a acc.length c (ivs acc) → (∀ k, At a k → w0.heap.size ≤ k) → Chg None w0 w → N_r08_Peaks.j6 Q (n : Int) a acc.length c ((n / 2 ^ m * 2 ^ m : Nat) : Int) ((m : Int) - 1) w := by
    intro m
    induction m with
    | zero =>
      intro acc a c w _ hacc o f k
      refine N_r08_Peaks.j6_eq (h := c_nge (by omega) ?_)
      rw [peaksTo, List.append_nil] at hacc
      rw [hacc] at o ⊢
      exact hok a c w o f k
    | succ m ih =>
      intro acc a c w hm hacc o f k
      have hm1 : ((m + 1 : Nat) : Int) - 1 = (m : Int) := by omega
      have hlen : acc.length ≤ 49 := by have := peaksTo_len n 49; have := congrArg List.length hacc; rw [List.length_append] at this; unfold peaksOf at this; omega
      have hah : n / 2 ^ (m + 1) * 2 ^ (m + 1) = ahead n m := rfl
      have hale := ahead_le n m
      have hstep := ahead_next n m
      simp only [ite_self, Nat.add_zero] at hstep
      have hdl : n / 2 ^ m * 2 ^ m ≤ n := Nat.div_mul_le_self _ _
      rw [hm1, hah]
      refine N_r08_Peaks.j6_eq (h := c_ge (by omega) (rpower_word (by omega) (opnI_s ?_)))
      rw [wrap_id (by omega) (by omega)]
      have next : ∀ (acc' : List Nat) (a : Option Addr) (c : Nat) (w : World) (z : Int), z = ((n / 2 ^ m * 2 ^ m : Nat) : Int) → acc' ++ peaksTo n m = peaksOf n → Own w 3 1 a acc'.length c (ivs acc') → (∀ k, At a k → w0.heap.size ≤ k) → Chg None w0 w → N_r08_Peaks.j7 Q (n : Int) a acc'.length c z (m : Int) w := by
        intro acc' a c w z hz hacc' o f k
        refine N_r08_Peaks.j7_eq (h := ?_)
        rw [wrap_id (by omega) (by omega), hz]
        exact ih acc' a c w (by omega) hacc' o f k
      have hbit := ahead_bit n m
      have hp0 := pow_pos2 m
      by_cases hb : n / 2 ^ m % 2 = 1
      · have hb2 := hbit.1 hb
        have hp : 2 ^ m ≤ n := by omega
        generalize hP : 2 ^ m = P at hb2 hp hp0
        refine c_ge (by omega) ⟨by omega, ?_⟩
        rw [← hP, tdiv_nat, ahead_shift]
        have hq : n / 2 ^ (m + 1) * 2 ≤ n := by
          rw [← ahead_shift]; exact Nat.le_trans (Nat.div_le_self _ _) hale
        rw [wrap_n _ (by omega)]
        have hfit := peak_fits hn hb
        refine rindex_word (fun _ => ⟨rfl, ⟨rfl, ⟨rfl, ?_⟩⟩⟩) (fun g => absurd ⟨by omega, by omega, by omega, by rw [Int.toNat_natCast, Int.toNat_natCast]; exact hfit⟩ g)
        simp only [Int.toNat_natCast]
        rw [peaksTo, if_pos hb] at hacc
        refine push_int (K := fun x8 x8n x8c w7 => _) T99 o f k (by omega) fun a' c' w' o' f' k' => ?_
        rw [← Int.natCast_add, wrap_n _ (by omega)]
        have := next (acc ++ [placeOf m (n / 2 ^ (m + 1) * 2)]) a' c' w' ((ahead n m + 2 ^ m : Nat) : Int) (by rw [← hstep, hb, Nat.one_mul]) (by simpa using hacc) (by simpa [iv] using o') f' k'
        simpa using this
      · have hb2 := mt hbit.2 hb
        generalize hP : 2 ^ m = P at hb2 hp0
        refine c_nge (by omega) ?_
        rw [peaksTo, if_neg hb] at hacc
        have hb0 : n / 2 ^ m % 2 = 0 := by omega
        have e := hstep
        rw [hb0, Nat.zero_mul, Nat.add_zero] at e
        exact next acc a c w _ (congrArg (fun x : Nat => (x : Int)) e) hacc o f k
  have h49 : n / 2 ^ 49 * 2 ^ 49 = 0 := by rw [Nat.div_eq_of_lt (by omega), Nat.zero_mul]
  have := go 49 [] none 0 w0 (Nat.le_refl _) rfl Own.nil (by rintro k ⟨p, hp, _⟩; cases hp) (Chg.refl _ _)
  rw [h49] at this
  exact this
end Go.Proofs.Ytccjncflbbhldaa
