/- Plain: hashes laid down by n records; the record of a place. -/
import Derived.Test.YtccjncflbbhldaaShP1
namespace Go.Sh

def laid (n : Nat) : Nat := if h : n = 0 then 0 else n + laid (n / 2)
termination_by n
theorem laid_zero : laid 0 = 0 := by rw [laid]; simp
theorem laid_eq (n : Nat) : laid n = n + laid (n / 2) := by
  by_cases h : n = 0
  · subst h; simp [laid_zero]
  · conv => lhs; rw [laid]
    rw [dif_neg h]
theorem laid_ones : ∀ (k n : Nat), n < 2 ^ k → laid n + dsum 1 k n = 2 * n
  | 0, n, h => by
    have : n = 0 := by simpa using h
    subst this; simp [laid_zero, dsum]
  | k + 1, n, h => by
    have ih := laid_ones k (n / 2) (by rw [Nat.pow_succ] at h; omega)
    rw [laid_eq, dsum]
    simp only [Nat.pow_one]
    omega
theorem laid_pc {n : Nat} (h : n < 18446744073709551616) : laid n + pc n = 2 * n := laid_ones 64 n h
theorem dsum_one_le : ∀ (k y : Nat), dsum 1 k y ≤ k
  | 0, _ => Nat.le_refl _
  | k + 1, y => by have := dsum_one_le k (y / 2 ^ 1); simp only [dsum, Nat.pow_one] at this ⊢; omega
theorem pc_le (n : Nat) : pc n ≤ 64 := dsum_one_le 64 n
theorem laid_le (n : Nat) : laid n ≤ 2 * n := by
  have h := laid_ones n n Nat.lt_two_pow_self
  omega
theorem laid_ge (n : Nat) : n ≤ laid n := by rw [laid_eq]; omega
theorem laid_succ_le (n : Nat) : laid n + 1 ≤ laid (n + 1) := by
  induction n using Nat.strongRecOn with
  | _ n ih =>
    rw [laid_eq n, laid_eq (n + 1)]
    by_cases h0 : n = 0
    · subst h0; simp [laid_zero]
    rcases (by omega : (n + 1) / 2 = n / 2 ∨ (n + 1) / 2 = n / 2 + 1) with h | h
    · rw [h]; omega
    · rw [h]; have := ih (n / 2) (by omega); omega
theorem laid_mono {a b : Nat} (h : a ≤ b) : laid a + (b - a) ≤ laid b := by
  induction b with
  | zero => have : a = 0 := by omega
            subst this; simp
  | succ b ih =>
    by_cases hb : a = b + 1
    · subst hb; simp
    · have := ih (by omega)
      have := laid_succ_le b
      omega
theorem laid_lt {a b : Nat} (h : a < b) : laid a < laid b := by have := laid_mono (Nat.le_of_lt h); omega
/-- with record n so many levels more -/
theorem laid_level : ∀ (k n : Nat), laid (n + 1) > laid n + k → 2 ^ k ∣ n + 1
  | 0, n, _ => by simp
  | k + 1, n, h => by
    rw [laid_eq n, laid_eq (n + 1)] at h
    rcases (by omega : (n + 1) / 2 = n / 2 ∨ ((n + 1) / 2 = n / 2 + 1 ∧ n % 2 = 1)) with e | ⟨e, e2⟩
    · rw [e] at h; omega
    · rw [e] at h
      obtain ⟨c, hc⟩ := laid_level k (n / 2) (by omega)
      refine ⟨c, ?_⟩
      rw [Nat.pow_succ, Nat.mul_right_comm, ← hc]; omega
theorem laid_two_pow (k : Nat) : laid (2 ^ k) = 2 * 2 ^ k - 1 := by
  induction k with
  | zero => rw [Nat.pow_zero, laid_eq]; simp [laid_zero]
  | succ k ih =>
    have : 0 < 2 ^ k := Nat.pow_pos (by decide)
    rw [laid_eq, show 2 ^ (k + 1) / 2 = 2 ^ k by rw [Nat.pow_succ]; omega, ih, Nat.pow_succ]; omega
theorem laid_max : laid 281474976710656 = 562949953421311 := laid_two_pow 48

/-- the greatest number of records with at most c hashes -/
def IsRec (c n : Nat) : Prop := n ≤ 281474976710656 ∧ laid n ≤ c ∧ (n < 281474976710656 → c < laid (n + 1))
theorem IsRec.mk {c n : Nat} (h1 : n ≤ 281474976710656) (h2 : laid n ≤ c) (h3 : n < 281474976710656 → c < laid (n + 1)) : IsRec c n := ⟨h1, h2, h3⟩
theorem IsRec.uniq {c n m : Nat} (h : IsRec c n) (k : IsRec c m) : n = m := by
  rcases Nat.lt_trichotomy n m with g | g | g
  · have h1 := h.2.2 (by have := k.1; omega)
    have h2 := laid_mono (a := n + 1) (b := m) (by omega)
    have := k.2.1
    omega
  · exact g
  · have h1 := k.2.2 (by have := h.1; omega)
    have h2 := laid_mono (a := m + 1) (b := n) (by omega)
    have := h.2.1
    omega
open Classical in
noncomputable def recOf (c : Nat) : Nat := if h : ∃ n, IsRec c n then Classical.choose h else 0
theorem recOf_eq {c n : Nat} (h : IsRec c n) : recOf c = n := by
  unfold recOf
  rw [dif_pos ⟨n, h⟩]
  exact (Classical.choose_spec (⟨n, h⟩ : ∃ n, IsRec c n)).uniq h
theorem rec_exists (c : Nat) : ∃ n, IsRec c n := by
  have go : ∀ k, k ≤ 281474976710656 → (∃ n, IsRec c n) ∨ laid k ≤ c := by
    intro k
    induction k with
    | zero => intro _; exact .inr (by rw [laid_zero]; exact Nat.zero_le _)
    | succ k ih =>
      intro hk
      rcases ih (by omega) with h | h
      · exact .inl h
      · by_cases hc : laid (k + 1) ≤ c
        · exact .inr hc
        · exact .inl ⟨k, by omega, h, fun _ => by omega⟩
  rcases go 281474976710656 (Nat.le_refl _) with h | h
  · exact h
  · exact ⟨_, Nat.le_refl _, h, fun h => absurd h (Nat.lt_irrefl _)⟩
theorem recOf_is (c : Nat) : IsRec c (recOf c) := by
  obtain ⟨n, h⟩ := rec_exists c
  rw [recOf_eq h]; exact h
/-- of a place: its level, and the node's number -/
noncomputable def levOf (c : Nat) : Nat := c - laid (recOf c)
noncomputable def nodOf (c : Nat) : Nat := (recOf c + 1) / 2 ^ levOf c - 1
/-- the place of a node -/
def placeOf (level n : Nat) : Nat := laid ((n + 1) * 2 ^ level - 1) + level
theorem rec_lt {c : Nat} (h : c < 562949953421311) : recOf c < 281474976710656 := by
  have h1 := recOf_is c
  rcases Nat.lt_or_ge (recOf c) 281474976710656 with g | g
  · exact g
  · have : recOf c = 281474976710656 := by have := h1.1; omega
    have h2 := h1.2.1
    rw [this, laid_max] at h2; omega
theorem split_dvd {c : Nat} (h : c < 562949953421311) : 2 ^ levOf c ∣ recOf c + 1 := by
  have h1 := recOf_is c
  have h2 := h1.2.2 (rec_lt h)
  refine laid_level _ _ ?_
  have := h1.2.1
  unfold levOf; omega
theorem split_pos {c : Nat} (h : c < 562949953421311) : 0 < (recOf c + 1) / 2 ^ levOf c ∧ (recOf c + 1) / 2 ^ levOf c * 2 ^ levOf c = recOf c + 1 := by
  have hd := split_dvd h
  have e := Nat.div_mul_cancel hd
  refine ⟨?_, e⟩
  rcases Nat.eq_zero_or_pos ((recOf c + 1) / 2 ^ levOf c) with g | g
  · rw [g] at e; omega
  · exact g
theorem lev_le {c : Nat} (h : c < 562949953421311) : levOf c ≤ 48 := by
  have hd := Nat.le_of_dvd (by omega) (split_dvd h)
  have hr := rec_lt h
  rcases Nat.lt_or_ge 48 (levOf c) with g | g
  · have : 2 ^ 49 ≤ 2 ^ levOf c := Nat.pow_le_pow_right (by decide) g
    omega
  · exact g
theorem nod_lt {c : Nat} (h : c < 562949953421311) : (nodOf c + 1) * 2 ^ levOf c ≤ 281474976710656 := by
  obtain ⟨h1, h2⟩ := split_pos h
  have hr := rec_lt h
  unfold nodOf
  rw [Nat.sub_add_cancel h1, h2]; omega
theorem place_split {c : Nat} (h : c < 562949953421311) : placeOf (levOf c) (nodOf c) = c := by
  obtain ⟨h1, h2⟩ := split_pos h
  have h3 := (recOf_is c).2.1
  unfold placeOf nodOf
  rw [Nat.sub_add_cancel h1, h2, Nat.add_sub_cancel]
  unfold levOf; omega
/-- a whole node is laid down with its last record -/
theorem laid_step : ∀ (level m : Nat), 0 < m → laid (m * 2 ^ level - 1) + level < laid (m * 2 ^ level)
  | 0, m, h => by
    rw [Nat.pow_zero, Nat.mul_one, Nat.add_zero]
    exact laid_lt (by omega)
  | level + 1, m, h => by
    have ih := laid_step level m h
    have hp : 0 < m * 2 ^ level := Nat.mul_pos h (Nat.pow_pos (by decide))
    have e : m * 2 ^ (level + 1) = 2 * (m * 2 ^ level) := by rw [Nat.pow_succ, ← Nat.mul_assoc, Nat.mul_comm]
    rw [e, laid_eq (2 * _), laid_eq (2 * _ - 1), show 2 * (m * 2 ^ level) / 2 = m * 2 ^ level by omega, show (2 * (m * 2 ^ level) - 1) / 2 = m * 2 ^ level - 1 by omega]
    omega
theorem place_lt {level n : Nat} (h : (n + 1) * 2 ^ level ≤ 281474976710656) : placeOf level n < 562949953421311 := by
  have h1 := laid_step level (n + 1) (by omega)
  have h2 := laid_mono h
  rw [laid_max] at h2
  unfold placeOf; omega
theorem rec_place {level n : Nat} (h : (n + 1) * 2 ^ level ≤ 281474976710656) : recOf (placeOf level n) = (n + 1) * 2 ^ level - 1 := by
  have hp : 0 < (n + 1) * 2 ^ level := Nat.mul_pos (by omega) (Nat.pow_pos (by decide))
  refine recOf_eq ⟨by omega, by unfold placeOf; omega, fun _ => ?_⟩
  have h1 := laid_step level (n + 1) (by omega)
  rw [Nat.sub_add_cancel hp]
  exact h1
theorem lev_place {level n : Nat} (h : (n + 1) * 2 ^ level ≤ 281474976710656) : levOf (placeOf level n) = level := by
  unfold levOf
  rw [rec_place h]
  unfold placeOf; omega
theorem nod_place {level n : Nat} (h : (n + 1) * 2 ^ level ≤ 281474976710656) : nodOf (placeOf level n) = n := by
  have hp : 0 < (n + 1) * 2 ^ level := Nat.mul_pos (by omega) (Nat.pow_pos (by decide))
  unfold nodOf
  rw [lev_place h, rec_place h, Nat.sub_add_cancel hp, Nat.mul_div_cancel _ (Nat.pow_pos (by decide))]
  omega
/-- the tops of a tree of n records, from level m - 1 down -/
def peaksTo (n : Nat) : Nat → List Nat
  | 0 => []
  | m + 1 => if n / 2 ^ m % 2 = 1 then placeOf m (n / 2 ^ (m + 1) * 2) :: peaksTo n m else peaksTo n m
def peaksOf (n : Nat) : List Nat := peaksTo n 49
theorem peaksTo_len (n : Nat) : ∀ m, (peaksTo n m).length ≤ m
  | 0 => Nat.le_refl _
  | m + 1 => by
    have := peaksTo_len n m
    unfold peaksTo
    split <;> simp <;> omega
end Go.Sh
