/- Plain: how many ones; how many hashes are laid down; the greatest number with at most so many. -/
import Derived.Test.YtccjncflbbhldaaShL4
namespace Go.Sh

/-! ### and, in pieces -/
theorem and_split (a b c d m : Nat) (hb : b < 2 ^ m) (hd : d < 2 ^ m) : (a * 2 ^ m + b) &&& (c * 2 ^ m + d) = (a &&& c) * 2 ^ m + (b &&& d) := by
  have hp : 0 < 2 ^ m := Nat.pow_pos (by decide)
  have h1 : ((a * 2 ^ m + b) &&& (c * 2 ^ m + d)) / 2 ^ m = a &&& c := by
    rw [Nat.and_div_two_pow, Nat.add_comm, Nat.add_mul_div_right _ _ hp, Nat.div_eq_of_lt hb, Nat.add_comm (c * _), Nat.add_mul_div_right _ _ hp, Nat.div_eq_of_lt hd]
    simp
  have h2 : ((a * 2 ^ m + b) &&& (c * 2 ^ m + d)) % 2 ^ m = b &&& d := by
    rw [Nat.and_mod_two_pow, Nat.add_comm, Nat.add_mul_mod_self_right, Nat.mod_eq_of_lt hb, Nat.add_comm (c * _), Nat.add_mul_mod_self_right, Nat.mod_eq_of_lt hd]
  have h3 := Nat.div_add_mod ((a * 2 ^ m + b) &&& (c * 2 ^ m + d)) (2 ^ m)
  rw [h1, h2, Nat.mul_comm] at h3
  exact h3.symm

/-- n pairs of digits of k bits: a mask for the lower ones -/
def mask (k : Nat) : Nat → Nat
  | 0 => 0
  | n + 1 => mask k n * 2 ^ (2 * k) + (2 ^ k - 1)
/-- the sum of n digits of k bits -/
def dsum (k : Nat) : Nat → Nat → Nat
  | 0, _ => 0
  | n + 1, y => y % 2 ^ k + dsum k n (y / 2 ^ k)
/-- n digits of k bits, each at most c -/
def digs (k c : Nat) : Nat → Nat → Prop
  | 0, y => y = 0
  | n + 1, y => y % 2 ^ k ≤ c ∧ digs k c n (y / 2 ^ k)
theorem digs_lt {k c : Nat} : ∀ {n y : Nat}, digs k c n y → y < 2 ^ (k * n)
  | 0, y, h => by simp [digs] at h; subst h; simp
  | n + 1, y, h => by
    have h1 := digs_lt h.2
    have hp : 0 < 2 ^ k := Nat.pow_pos (by decide)
    rw [Nat.mul_add, Nat.mul_one, Nat.pow_add]
    exact (Nat.div_lt_iff_lt_mul hp).1 h1
/-- neighbours joined -/
def join2 (k n y : Nat) : Nat := (y / 2 ^ k &&& mask k n) + (y &&& mask k n)
theorem join2_succ (k n y : Nat) : join2 k (n + 1) y = join2 k n (y / 2 ^ (2 * k)) * 2 ^ (2 * k) + (y % 2 ^ k + y / 2 ^ k % 2 ^ k) := by
  have hp : 0 < 2 ^ (2 * k) := Nat.pow_pos (by decide)
  have hk : 0 < 2 ^ k := Nat.pow_pos (by decide)
  have hle : 2 ^ k - 1 < 2 ^ (2 * k) := Nat.lt_of_lt_of_le (Nat.sub_lt hk (by decide)) (Nat.pow_le_pow_right (by decide) (by omega))
  have low : ∀ z, (z % 2 ^ (2 * k)) &&& (2 ^ k - 1) = z % 2 ^ k := fun z => by
    rw [Nat.and_two_pow_sub_one_eq_mod, Nat.mod_mod_of_dvd _ (Nat.pow_dvd_pow 2 (by omega))]
  have go : ∀ z, z &&& mask k (n + 1) = (z / 2 ^ (2 * k) &&& mask k n) * 2 ^ (2 * k) + z % 2 ^ k := fun z => by
    have h := and_split (z / 2 ^ (2 * k)) (z % 2 ^ (2 * k)) (mask k n) (2 ^ k - 1) (2 * k) (Nat.mod_lt _ hp) hle
    rw [low, Nat.mul_comm, Nat.div_add_mod] at h
    exact h
  unfold join2
  rw [go, go, show y / 2 ^ k / 2 ^ (2 * k) = y / 2 ^ (2 * k) / 2 ^ k by rw [Nat.div_div_eq_div_mul, Nat.div_div_eq_div_mul, Nat.mul_comm], Nat.add_mul]
  omega
theorem join2_digs {k c : Nat} (hc : 2 * c < 2 ^ (2 * k)) : ∀ {n y : Nat}, digs k c (2 * n) y → digs (2 * k) (2 * c) n (join2 k n y) ∧ dsum (2 * k) n (join2 k n y) = dsum k (2 * n) y
  | 0, y, h => by simp [digs, join2, mask, dsum]
  | n + 1, y, h => by
    rw [show 2 * (n + 1) = 2 * n + 1 + 1 by omega] at h ⊢
    simp only [digs, dsum] at h ⊢
    obtain ⟨h1, h2, h3⟩ := h
    have hp : 0 < 2 ^ (2 * k) := Nat.pow_pos (by decide)
    have e : y / 2 ^ k / 2 ^ k = y / 2 ^ (2 * k) := by rw [Nat.div_div_eq_div_mul, ← Nat.pow_add]; congr 2; omega
    rw [e] at h3 ⊢
    obtain ⟨g1, g2⟩ := join2_digs hc h3
    have hs : y % 2 ^ k + y / 2 ^ k % 2 ^ k < 2 ^ (2 * k) := by omega
    rw [join2_succ, Nat.add_comm (_ * _), Nat.add_mul_mod_self_right, Nat.mod_eq_of_lt hs, Nat.add_mul_div_right _ _ hp, Nat.div_eq_of_lt hs, Nat.zero_add, g2]
    exact ⟨⟨by omega, g1⟩, by omega⟩
/-- where no sum of neighbours is too great for one digit, they may be joined ahead of the mask -/
theorem join2_late {k c : Nat} (hc : 2 * c < 2 ^ k) : ∀ {n y : Nat}, digs k c (2 * n) y → (y / 2 ^ k + y) &&& mask k n = join2 k n y
  | 0, y, h => by simp [join2, mask]
  | n + 1, y, h => by
    rw [show 2 * (n + 1) = 2 * n + 1 + 1 by omega] at h
    simp only [digs] at h
    obtain ⟨h1, h2, h3⟩ := h
    have hp : 0 < 2 ^ (2 * k) := Nat.pow_pos (by decide)
    have hk : 0 < 2 ^ k := Nat.pow_pos (by decide)
    have e : y / 2 ^ k / 2 ^ k = y / 2 ^ (2 * k) := by rw [Nat.div_div_eq_div_mul, ← Nat.pow_add]; congr 2; omega
    rw [e] at h3
    have ih := join2_late hc h3
    have hle : 2 ^ k - 1 < 2 ^ (2 * k) := Nat.lt_of_lt_of_le (Nat.sub_lt hk (by decide)) (Nat.pow_le_pow_right (by decide) (by omega))
    generalize hz : y / 2 ^ (2 * k) = z at *
    have hy : y = z * 2 ^ (2 * k) + (y / 2 ^ k % 2 ^ k * 2 ^ k + y % 2 ^ k) := by
      have q1 := Nat.div_add_mod y (2 ^ k)
      have q2 := Nat.div_add_mod (y / 2 ^ k) (2 ^ k)
      have q3 : (2 : Nat) ^ (2 * k) = 2 ^ k * 2 ^ k := by rw [← Nat.pow_add]; congr 1; omega
      rw [q3, ← Nat.mul_assoc, ← Nat.add_assoc, ← Nat.add_mul]
      rw [e, Nat.mul_comm] at q2
      rw [q2, Nat.mul_comm]; exact q1.symm
    have hy1 : y / 2 ^ k = z / 2 ^ k * 2 ^ (2 * k) + (z % 2 ^ k * 2 ^ k + y / 2 ^ k % 2 ^ k) := by
      have q2 := Nat.div_add_mod (y / 2 ^ k) (2 ^ k)
      rw [e] at q2
      have q4 := Nat.div_add_mod z (2 ^ k)
      have q3 : (2 : Nat) ^ (2 * k) = 2 ^ k * 2 ^ k := by rw [← Nat.pow_add]; congr 1; omega
      rw [q3, ← Nat.mul_assoc, ← Nat.add_assoc, ← Nat.add_mul, Nat.mul_comm (z / 2 ^ k), q4, Nat.mul_comm z]
      exact q2.symm
    generalize hd0 : y % 2 ^ k = d0 at *
    generalize hd1 : y / 2 ^ k % 2 ^ k = d1 at *
    -- the digit above: z's lowest
    have hz0 : z % 2 ^ k ≤ c := by
      cases n with
      | zero => simp only [Nat.mul_zero, digs] at h3; subst h3; simp
      | succ n =>
        rw [show 2 * (n + 1) = 2 * n + 1 + 1 by omega] at h3
        exact h3.1
    generalize hd2 : z % 2 ^ k = d2 at *
    have hsum : y / 2 ^ k + y = (z / 2 ^ k + z) * 2 ^ (2 * k) + ((d2 + d1) * 2 ^ k + (d1 + d0)) := by
      rw [hy1]
      conv => lhs; rw [hy]
      rw [Nat.add_mul, Nat.add_mul d2]
      omega
    have hq : (2 : Nat) ^ (2 * k) = 2 ^ k * 2 ^ k := by rw [← Nat.pow_add]; congr 1; omega
    have hlow : (d2 + d1) * 2 ^ k + (d1 + d0) < 2 ^ (2 * k) := by
      rw [hq]
      calc (d2 + d1) * 2 ^ k + (d1 + d0) < (d2 + d1) * 2 ^ k + 2 ^ k := by omega
        _ = (d2 + d1 + 1) * 2 ^ k := by rw [Nat.add_mul (d2 + d1), Nat.one_mul]
        _ ≤ 2 ^ k * 2 ^ k := Nat.mul_le_mul_right _ (by omega)
    rw [hsum]
    show _ &&& (mask k n * 2 ^ (2 * k) + (2 ^ k - 1)) = _
    rw [and_split _ _ _ _ _ hlow hle, ih, join2_succ, hz, hd0, hd1, Nat.and_two_pow_sub_one_eq_mod, Nat.mul_add_mod_of_lt' (by omega)]
    omega
where
  Nat.mul_add_mod_of_lt' {a b m : Nat} (h : b < m) : (a * m + b) % m = b := by
    rw [Nat.add_comm, Nat.add_mul_mod_self_right, Nat.mod_eq_of_lt h]

/-- how many ones -/
def pc (n : Nat) : Nat := dsum 1 64 n
theorem digs_one : ∀ (n y : Nat), y < 2 ^ n → digs 1 1 n y
  | 0, y, h => by simp [digs]; omega
  | n + 1, y, h => by
    refine ⟨by omega, digs_one n _ ?_⟩
    rw [Nat.pow_succ] at h
    omega
def swar1 (x : Nat) : Nat := (x / 2 &&& 6148914691236517205) + (x &&& 6148914691236517205)
def swar2 (x : Nat) : Nat := (x / 4 &&& 3689348814741910323) + (x &&& 3689348814741910323)
def swar3 (x : Nat) : Nat := (x / 16 + x) &&& 1085102592571150095
def swar4 (x : Nat) : Nat :=
  let a := x + x / 256
  let b := a + a / 65536
  (b + b / 4294967296) &&& 127
theorem swar_low {x a b d0 d1 d2 d3 d4 d5 d6 d7 : Nat} (h0 : d0 ≤ 8) (h1 : d1 ≤ 8) (h2 : d2 ≤ 8) (h3 : d3 ≤ 8) (h4 : d4 ≤ 8) (h5 : d5 ≤ 8) (h6 : d6 ≤ 8) (h7 : d7 ≤ 8)
    (hx : x = d0 + 256 * (d1 + 256 * (d2 + 256 * (d3 + 256 * (d4 + 256 * (d5 + 256 * (d6 + 256 * d7))))))) (ha : a = x + x / 256) (hb : b = a + a / 65536) : (b + b / 4294967296) % 2 ^ 7 = d0 + d1 + d2 + d3 + d4 + d5 + d6 + d7 := by
  have q1 : x / 256 = d1 + 256 * (d2 + 256 * (d3 + 256 * (d4 + 256 * (d5 + 256 * (d6 + 256 * d7))))) := by clear ha hb; omega
  have q2 : a = (d0 + d1) + 256 * ((d1 + d2) + 256 * ((d2 + d3) + 256 * ((d3 + d4) + 256 * ((d4 + d5) + 256 * ((d5 + d6) + 256 * ((d6 + d7) + 256 * d7)))))) := by clear hb; omega
  clear ha q1 hx
  have q3 : a / 65536 = (d2 + d3) + 256 * ((d3 + d4) + 256 * ((d4 + d5) + 256 * ((d5 + d6) + 256 * ((d6 + d7) + 256 * d7)))) := by clear hb; omega
  have q4 : b = (d0 + d1 + d2 + d3) + 256 * ((d1 + d2 + d3 + d4) + 256 * ((d2 + d3 + d4 + d5) + 256 * ((d3 + d4 + d5 + d6) + 256 * ((d4 + d5 + d6 + d7) + 256 * ((d5 + d6 + d7) + 256 * ((d6 + d7) + 256 * d7)))))) := by omega
  clear hb q2 q3
  have q5 : b / 4294967296 = (d4 + d5 + d6 + d7) + 256 * ((d5 + d6 + d7) + 256 * ((d6 + d7) + 256 * d7)) := by omega
  rw [q5, q4]
  clear q5 q4
  omega
theorem swar_last {y : Nat} (h : digs 8 8 8 y) : y < 651061555542690057 ∧ swar4 y = dsum 8 8 y := by
  simp only [digs, Nat.reducePow] at h
  obtain ⟨h0, h1, h2, h3, h4, h5, h6, h7, h8⟩ := h
  refine ⟨by omega, ?_⟩
  have key := swar_low (x := y) h0 h1 h2 h3 h4 h5 h6 h7 (by omega) rfl rfl
  have e7 : (127 : Nat) = 2 ^ 7 - 1 := rfl
  have e : swar4 y = (y + y / 256 + (y + y / 256) / 65536 + (y + y / 256 + (y + y / 256) / 65536) / 4294967296) &&& 127 := rfl
  rw [e, e7, Nat.and_two_pow_sub_one_eq_mod, key]
  simp only [dsum, Nat.reducePow, Nat.add_assoc, Nat.add_zero]
theorem digs_small {y : Nat} (h : digs 4 4 16 y) : y < 4919131752989213765 ∧ y / 16 + y < 18446744073709551616 := by
  simp only [digs] at h
  omega
theorem swar {x : Nat} (hx : x < 18446744073709551616) : swar1 x < 18446744073709551616 ∧ swar2 (swar1 x) < 4919131752989213765 ∧ swar3 (swar2 (swar1 x)) < 651061555542690057 ∧ swar4 (swar3 (swar2 (swar1 x))) = pc x := by
  have h0 : digs 1 1 (2 * 32) x := digs_one 64 x hx
  have e1 : join2 1 32 x = swar1 x := by
    have : mask 1 32 = 6148914691236517205 := by decide
    rw [join2, this]; rfl
  have j1 := join2_digs (by decide) h0
  rw [e1] at j1
  simp only [Nat.reduceMul] at j1
  obtain ⟨h1, s1⟩ := j1
  have e2 : join2 2 16 (swar1 x) = swar2 (swar1 x) := by
    have : mask 2 16 = 3689348814741910323 := by decide
    rw [join2, this]; rfl
  have j2 := join2_digs (k := 2) (c := 2) (n := 16) (y := swar1 x) (by decide) h1
  rw [e2] at j2
  simp only [Nat.reduceMul] at j2
  obtain ⟨h2, s2⟩ := j2
  have e3 : join2 4 8 (swar2 (swar1 x)) = swar3 (swar2 (swar1 x)) := by
    have : mask 4 8 = 1085102592571150095 := by decide
    rw [← join2_late (k := 4) (c := 4) (by decide) (n := 8) h2, this]; rfl
  have j3 := join2_digs (k := 4) (c := 4) (n := 8) (y := swar2 (swar1 x)) (by decide) h2
  rw [e3] at j3
  simp only [Nat.reduceMul] at j3
  obtain ⟨h3, s3⟩ := j3
  have b1 := digs_lt h1
  obtain ⟨g1, g2⟩ := swar_last h3
  refine ⟨by simpa only [Nat.reduceMul, Nat.reducePow] using b1, (digs_small h2).1, g1, ?_⟩
  rw [g2, s3, s2, s1]; rfl
end Go.Sh
