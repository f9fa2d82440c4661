/- A tile's path, and what is read out of it. Plain. -/
import Derived.Lib.Replace
import Derived.Lib.Join
import Derived.Lib.AtoiAll
import Derived.Lib.ParseIntB
import Derived.Lib.ItoaNum
import Derived.Lib.ItoaMem
import Derived.Lib.ItoaLen
import Derived.Lib.Strings
import Derived.Test.YtccjncflbbhldaaDoorShL8
set_option maxRecDepth 10000
namespace Go.Proofs.YtccjncflbbhldaaDoor
open Go.Lib

structure Tl where
  H : Int
  L : Int
  N : Int
  W : Int
  D : Bool
deriving DecidableEq

/-! ### splitting at a byte -/
def cutAt (c : UInt8) : List UInt8 → List (List UInt8)
  | [] => [[]]
  | b :: l => if b = c then [] :: cutAt c l else match cutAt c l with
    | [] => [[b]]
    | x :: r => (b :: x) :: r
theorem cutAt_ne (c : UInt8) : ∀ l, cutAt c l ≠ []
  | [] => by simp [cutAt]
  | b :: l => by
    unfold cutAt
    split
    · simp
    · split <;> simp
theorem cutAt_app {c : UInt8} : ∀ {a : List UInt8} (t : List UInt8), c ∉ a → cutAt c (a ++ c :: t) = a :: cutAt c t
  | [], t, _ => by simp [cutAt]
  | b :: a, t, h => by
    simp only [List.mem_cons, not_or] at h
    rw [List.cons_append, cutAt, if_neg (fun e => h.1 e.symm), cutAt_app t h.2]
theorem cutAt_one {c : UInt8} : ∀ {a : List UInt8}, c ∉ a → cutAt c a = [a]
  | [], _ => rfl
  | b :: a, h => by
    simp only [List.mem_cons, not_or] at h
    rw [cutAt, if_neg (fun e => h.1 e.symm), cutAt_one h.2]
def slashes (ps : List (List UInt8)) : List UInt8 := ps.flatMap (47 :: ·)
theorem cutAt_slashes : ∀ (ps : List (List UInt8)) (x : List UInt8), 47 ∉ x → (∀ p ∈ ps, 47 ∉ p) → cutAt 47 (x ++ slashes ps) = x :: ps
  | [], x, hx, _ => by simp [slashes, cutAt_one hx]
  | p :: ps, x, hx, h => by
    have : x ++ slashes (p :: ps) = x ++ 47 :: (p ++ slashes ps) := by simp [slashes]
    rw [this, cutAt_app _ hx, cutAt_slashes ps p (h p (by simp)) fun q hq => h q (by simp [hq])]
theorem index_app {c : UInt8} : ∀ {a : List UInt8} (t : List UInt8), c ∉ a → index (a ++ c :: t) [c] = a.length
  | [], t, _ => by simp [index]
  | b :: a, t, h => by
    simp only [List.mem_cons, not_or] at h
    rw [List.cons_append, index, index_app t h.2, if_neg]
    · rw [if_neg]
      · rw [List.length_cons]; omega
      · rw [beq_iff_eq]; omega
    · simp [Ne.symm (Ne.intro h.1), h.1]
theorem index_none {c : UInt8} : ∀ {a : List UInt8}, c ∉ a → index a [c] = -1
  | [], _ => by simp [index]
  | b :: a, h => by
    simp only [List.mem_cons, not_or] at h
    rw [index, index_none h.2, if_neg]
    · rfl
    · simp [h.1]
theorem split_cutAt (c : UInt8) : ∀ (n : Nat) (s : List UInt8), s.length ≤ n → splitK [c] 0 (count s [c]) s = cutAt c s := by
  intro n
  induction n with
  | zero =>
    intro s hs
    obtain rfl : s = [] := List.eq_nil_of_length_eq_zero (by omega)
    rw [count_one]; rfl
  | succ n ih =>
    intro s hs
    by_cases h : c ∈ s
    · obtain ⟨a, t, rfl, ha⟩ := List.eq_append_cons_of_mem h
      have hc : count (a ++ c :: t) [c] = count t [c] + 1 := by
        rw [count_one, count_one, List.count_append, List.count_cons_self, List.count_eq_zero.2 ha]; omega
      have hi := index_app t ha
      rw [hc, splitK, hi, if_neg (by rw [beq_iff_eq]; omega), cutAt_app t ha]
      have e1 : (a ++ c :: t).take ((a.length : Int).toNat + 0) = a := by simp
      have e2 : (a ++ c :: t).drop ((a.length : Int).toNat + [c].length) = t := by
        rw [Int.toNat_natCast, show a ++ c :: t = (a ++ [c]) ++ t by simp, show a.length + [c].length = (a ++ [c]).length by simp, List.drop_left]
      rw [e1, e2, ih t (by simp at hs; omega)]
    · rw [count_one, List.count_eq_zero.2 h, cutAt_one h]; rfl
theorem replaceAll_one (c : UInt8) (s : List UInt8) : replaceAll s [c] [] = s.filter (· ≠ c) := by
  have key : ∀ (n : Nat) (s : List UInt8), s.length ≤ n → replaceK [c] [] (count s [c]) s = s.filter (· ≠ c) := by
    intro n
    induction n with
    | zero =>
      intro s hs
      obtain rfl : s = [] := List.eq_nil_of_length_eq_zero (by omega)
      rw [count_one]; rfl
    | succ n ih =>
      intro s hs
      by_cases h : c ∈ s
      · obtain ⟨a, t, rfl, ha⟩ := List.eq_append_cons_of_mem h
        have hc : count (a ++ c :: t) [c] = count t [c] + 1 := by
          rw [count_one, count_one, List.count_append, List.count_cons_self, List.count_eq_zero.2 ha]; omega
        rw [hc, replaceK_hit [c] [] _ _ a.length (index_app t ha)]
        have e1 : (a ++ c :: t).take a.length = a := by simp
        have e2 : (a ++ c :: t).drop (a.length + [c].length) = t := by
          rw [show a ++ c :: t = (a ++ [c]) ++ t by simp, show a.length + [c].length = (a ++ [c]).length by simp, List.drop_left]
        rw [e1, e2, ih t (by simp at hs; omega), List.append_nil, List.filter_append, List.filter_cons_of_neg (by simp)]
        congr 1
        refine (List.filter_eq_self.2 fun x hx => ?_).symm
        simp only [ne_eq, decide_not, Bool.not_eq_eq_eq_not, Bool.not_true, decide_eq_false_iff_not]
        exact fun e => ha (e ▸ hx)
      · rw [count_one, List.count_eq_zero.2 h]
        show s = _
        refine (List.filter_eq_self.2 fun x hx => ?_).symm
        simp only [ne_eq, decide_not, Bool.not_eq_eq_eq_not, Bool.not_true, decide_eq_false_iff_not]
        exact fun e => h (e ▸ hx)
  unfold replaceAll replace
  rw [if_neg (by simp)]
  have : replaceNum s [c] (-1) = count s [c] := by unfold replaceNum; rw [if_pos (.inl (by decide))]
  rw [this]
  exact key s.length s (Nat.le_refl _)

/-! ### numerals -/
def isDig (b : UInt8) : Prop := 48 ≤ b.toNat ∧ b.toNat ≤ 57
theorem dig_of (i : Nat) (h : i < 10) : (UInt8.ofNat (48 + i)).toNat = 48 + i := by
  simp only [UInt8.toNat_ofNat']; omega
theorem dec_dig : ∀ (u : Nat), ∀ b ∈ decDigits u, isDig b := by
  intro u
  induction u using Nat.strongRecOn with
  | ind u ih =>
    intro b hb
    rw [decDigits] at hb
    split at hb
    · rename_i h
      simp only [List.mem_singleton] at hb
      subst hb
      unfold isDig; rw [dig_of u h]; omega
    · rcases List.mem_append.1 hb with hb | hb
      · exact ih (u / 10) (by omega) b hb
      · simp only [List.mem_singleton] at hb
        subst hb
        unfold isDig; rw [dig_of _ (Nat.mod_lt _ (by decide))]; omega
theorem parse_app : ∀ (l r : List UInt8) (acc m : Nat), parseUint10 acc l = .ok m → parseUint10 acc (l ++ r) = parseUint10 m r
  | [], r, acc, m, h => by
    simp only [parseUint10] at h
    injection h with h
    subst h; rfl
  | c :: l, r, acc, m, h => by
    rw [parseUint10] at h
    rw [List.cons_append, parseUint10]
    split at h
    · rename_i g
      rw [if_pos g]
      split at h
      · cases h
      · rename_i g2
        rw [if_neg g2]
        split at h
        · cases h
        · rename_i g3
          rw [if_neg g3]
          exact parse_app l r _ m h
    · cases h
theorem parse_dec : ∀ (u : Nat), u < 9223372036854775808 → parseUint10 0 (decDigits u) = .ok u := by
  intro u
  induction u using Nat.strongRecOn with
  | ind u ih =>
    intro hu
    have one : ∀ (m i : Nat), i < 10 → m < 922337203685477581 → parseUint10 m [UInt8.ofNat (48 + i)] = .ok (m * 10 + i) := by
      intro m i hi hm
      unfold parseUint10
      rw [dig_of i hi, if_pos (by omega), if_neg (by omega), if_neg (by omega)]
      unfold parseUint10
      rw [show 48 + i - 48 = i by omega]
    rw [decDigits]
    split
    · rename_i h
      have := one 0 u h (by omega)
      simpa using this
    · rw [parse_app _ _ 0 (u / 10) (ih (u / 10) (by omega) (by omega)), one (u / 10) (u % 10) (Nat.mod_lt _ (by decide)) (by omega), show u / 10 * 10 + u % 10 = u by omega]
theorem parse_zero (l : List UInt8) : parseUint10 0 (48 :: l) = parseUint10 0 l := by
  rw [parseUint10, if_pos (by decide), if_neg (by decide), if_neg (by decide)]
  rfl
/-- what Atoi and ParseInt hand back, besides the error -/
def atoiV (l : List UInt8) : Int := match atoiAll l with | .ok v => v | .syntax => 0 | .range => atoiSat l
def parseV (l : List UInt8) : Int := match parseIntB 64 l with | .ok v => v | .syntax => 0 | .range => intSat 64 l
theorem dec_ne (u : Nat) : ∃ c r, decDigits u = c :: r ∧ isDig c := by
  have hl : 0 < (decDigits u).length := by rw [decDigits_length]; exact nDigits_pos u
  match hd : decDigits u with
  | [] => rw [hd] at hl; simp at hl
  | c :: r => exact ⟨c, r, rfl, dec_dig u c (by rw [hd]; simp)⟩
theorem atoi_dec (u : Nat) (hu : u < 9223372036854775808) : atoiV (decDigits u) = u := by
  obtain ⟨c, r, hd, hc⟩ := dec_ne u
  have hp := parse_dec u hu
  unfold atoiV atoiAll
  rw [hd] at hp ⊢
  unfold isDig at hc
  have e1 : ¬ (c.toNat = 43 ∨ c.toNat = 45) := by omega
  simp only [e1, if_false, parseMag, List.cons_ne_nil, hp]
  have e2 : ¬ c.toNat = 45 := by omega
  simp only [e2, not_false_eq_true, true_and, false_and, if_false]
  rw [if_neg (by omega)]
theorem parseM : ∀ (l : List UInt8) (acc : Nat), parseUintM (2 ^ 64 - 1) acc l = parseUint10 acc l
  | [], _ => rfl
  | c :: r, acc => by
    rw [parseUintM, parseUint10, parseM r]
    have e : (2 ^ 64 - 1 < acc * 10 + (c.toNat - 48)) = (18446744073709551616 ≤ acc * 10 + (c.toNat - 48)) := by
      apply propext; omega
    simp only [e]
/-- leading zeros up to a length that three divides -/
def pad3 (l : List UInt8) : List UInt8 := List.replicate ((3 - l.length % 3) % 3) 48 ++ l
theorem parse_zeros (l : List UInt8) : ∀ k, parseUint10 0 (List.replicate k 48 ++ l) = parseUint10 0 l
  | 0 => rfl
  | k + 1 => by rw [List.replicate_succ, List.cons_append, parse_zero, parse_zeros l k]
theorem pad_dig {l : List UInt8} (h : ∀ b ∈ l, isDig b) : ∀ b ∈ pad3 l, isDig b := by
  intro b hb
  rcases List.mem_append.1 hb with hb | hb
  · obtain ⟨_, rfl⟩ := List.mem_replicate.1 hb
    exact ⟨by decide, by decide⟩
  · exact h b hb
theorem pad_len (l : List UInt8) : (pad3 l).length % 3 = 0 := by
  unfold pad3
  rw [List.length_append, List.length_replicate]; omega
theorem pad_len_le (l : List UInt8) : (pad3 l).length ≤ l.length + 2 := by
  unfold pad3
  rw [List.length_append, List.length_replicate]; omega
theorem parse_pad (u : Nat) (hu : u < 9223372036854775808) : parseV (pad3 (decDigits u)) = u := by
  have hp : parseUint10 0 (pad3 (decDigits u)) = .ok u := by rw [pad3, parse_zeros]; exact parse_dec u hu
  have hne : pad3 (decDigits u) ≠ [] := by
    obtain ⟨c, r, hd, _⟩ := dec_ne u
    rw [pad3, hd]; simp
  have hdig := pad_dig (dec_dig u)
  unfold parseV parseIntB
  match hd : pad3 (decDigits u) with
  | [] => exact absurd hd hne
  | c :: r =>
    rw [hd] at hp hdig
    have hc := hdig c (by simp)
    unfold isDig at hc
    have e1 : ¬ (c.toNat = 43 ∨ c.toNat = 45) := by omega
    have e2 : ¬ c.toNat = 45 := by omega
    have hcond : (if c.toNat = 43 ∨ c.toNat = 45 then r else c :: r) = c :: r := if_neg e1
    simp only [hcond, parseUintB, List.cons_ne_nil, if_false, parseM, hp]
    simp only [e2, not_false_eq_true, true_and, false_and, if_false]
    rw [if_neg (by omega)]

/-! ### the number's parts -/
def groups (l : List UInt8) : List (List UInt8) := if h : l.length ≤ 3 then [l] else (120 :: l.take 3) :: groups (l.drop 3)
termination_by l.length
decreasing_by simp only [List.length_drop]; omega
/-- .. with the width behind them -/
def gtail (l : List UInt8) : Option (List UInt8) → List (List UInt8)
  | none => groups l
  | some w => (groups l).dropLast ++ [(groups l).getLastD [] ++ [46, 112], w]
theorem groups_small {l : List UInt8} (h : l.length ≤ 3) : groups l = [l] := by rw [groups, dif_pos h]
theorem groups_big {l : List UInt8} (h : ¬ l.length ≤ 3) : groups l = (120 :: l.take 3) :: groups (l.drop 3) := by rw [groups, dif_neg h]
theorem groups_ne (l : List UInt8) : groups l ≠ [] := by
  rw [groups]; split <;> simp
theorem gtail_small {l : List UInt8} (h : l.length ≤ 3) (o : Option (List UInt8)) : gtail l o = match o with | none => [l] | some w => [l ++ [46, 112], w] := by
  cases o <;> simp [gtail, groups_small h]
theorem gtail_big {l : List UInt8} (h : ¬ l.length ≤ 3) (o : Option (List UInt8)) : gtail l o = (120 :: l.take 3) :: gtail (l.drop 3) o := by
  cases o with
  | none => simp [gtail, groups_big h]
  | some w =>
    have hne := groups_ne (l.drop 3)
    obtain ⟨x, r, hx⟩ : ∃ x r, groups (l.drop 3) = x :: r := by
      match hg : groups (l.drop 3) with
      | [] => exact absurd hg hne
      | x :: r => exact ⟨x, r, rfl⟩
    simp only [gtail, groups_big h, hx, List.dropLast_cons_cons, List.cons_append, List.getLastD_cons]
/-- all that stands in the number's parts, the letters x left out -/
theorem groups_flat : ∀ (n : Nat) (l : List UInt8), l.length ≤ n → (∀ b ∈ l, isDig b) → (groups l).flatten.filter (· ≠ 120) = l := by
  have self : ∀ l : List UInt8, (∀ b ∈ l, isDig b) → l.filter (· ≠ 120) = l := fun l hl => List.filter_eq_self.2 fun b hb => by
    have := hl b hb
    unfold isDig at this
    simp only [ne_eq, decide_not, Bool.not_eq_eq_eq_not, Bool.not_true, decide_eq_false_iff_not]
    rintro rfl
    exact absurd this.2 (by decide)
  intro n
  induction n with
  | zero =>
    intro l hl hd
    obtain rfl : l = [] := List.eq_nil_of_length_eq_zero (by omega)
    rw [groups_small (by simp)]; rfl
  | succ n ih =>
    intro l hl hd
    by_cases h : l.length ≤ 3
    · rw [groups_small h, List.flatten_cons, List.flatten_nil, List.append_nil]
      exact self l hd
    · rw [groups_big h, List.flatten_cons, List.filter_append, List.filter_cons_of_neg (by simp), ih (l.drop 3) (by rw [List.length_drop]; omega) (fun b hb => hd b (List.mem_of_mem_drop hb)), self _ (fun b hb => hd b (List.mem_of_mem_take hb)), List.take_append_drop]
theorem groups_all {P : UInt8 → Prop} (hx : P 120) : ∀ (n : Nat) (l : List UInt8), l.length ≤ n → (∀ b ∈ l, P b) → ∀ g ∈ groups l, ∀ b ∈ g, P b := by
  intro n
  induction n with
  | zero =>
    intro l hl hd g hg
    rw [groups_small (by omega)] at hg
    simp only [List.mem_singleton] at hg
    subst hg; exact hd
  | succ n ih =>
    intro l hl hd g hg
    by_cases h : l.length ≤ 3
    · rw [groups_small h] at hg
      simp only [List.mem_singleton] at hg
      subst hg; exact hd
    · rw [groups_big h] at hg
      rcases List.mem_cons.1 hg with rfl | hg
      · intro b hb
        rcases List.mem_cons.1 hb with rfl | hb
        · exact hx
        · exact hd b (List.mem_of_mem_take hb)
      · exact ih (l.drop 3) (by rw [List.length_drop]; omega) (fun b hb => hd b (List.mem_of_mem_drop hb)) g hg
/-! ### the path, and what is guessed of a text -/
def okT (t : Tl) : Prop := 1 ≤ t.H ∧ t.H ≤ 8 ∧ 1 ≤ t.W ∧ t.W ≤ 2 ^ t.H.toNat ∧ 0 ≤ t.L ∧ 0 ≤ t.N ∧ (t.D = true → t.L = 0) ∧ t.H * t.L ≤ 48 ∧ t.N * 2 ^ t.H.toNat + t.W ≤ 281474976710656 / 2 ^ (t.H * t.L).toNat
def lvlB (t : Tl) : List UInt8 := if t.D then [100, 97, 116, 97] else itoa t.L
def wdB (t : Tl) : Option (List UInt8) := if t.W < 2 ^ t.H.toNat then some (itoa t.W) else none
def partsB (t : Tl) : List (List UInt8) := itoa t.H :: lvlB t :: gtail (pad3 (itoa t.N)) (wdB t)
def pathB (t : Tl) : List UInt8 := [116, 105, 108, 101] ++ slashes (partsB t)
def tz : Tl := ⟨0, 0, 0, 0, false⟩
def guessV (ps : List (List UInt8)) : Tl :=
  if ps.length < 4 then tz else
    let num := ps.drop 3
    let k := num.length
    let cut := decide (1 < k) && hasSuffix (num[k - 2]?.getD []) [46, 112]
    { H := atoiV (ps[1]?.getD []), L := atoiV (ps[2]?.getD []), D := decide (ps[2]?.getD [] = [100, 97, 116, 97]),
      W := if cut then atoiV (num[k - 1]?.getD []) else 2 ^ ((atoiV (ps[1]?.getD [])) % 16).toNat,
      N := parseV (trimSuffix (replaceAll (if cut then num.take (k - 1) else num).flatten [120] []) [46, 112]) }
theorem okT.bounds {t : Tl} (h : okT t) : t.H ≤ 8 ∧ 0 ≤ t.L ∧ t.L ≤ 48 ∧ 0 ≤ t.N ∧ t.N ≤ 281474976710656 ∧ 1 ≤ t.W ∧ t.W ≤ 256 := by
  obtain ⟨h1, h2, h3, h4, h5, h6, h7, h8, h9⟩ := h
  have hp : (2 : Int) ^ t.H.toNat ≤ 256 := by
    have : (2 : Nat) ^ t.H.toNat ≤ 2 ^ 8 := Nat.pow_le_pow_right (by decide) (by omega)
    have e : ((2 ^ t.H.toNat : Nat) : Int) = (2 : Int) ^ t.H.toNat := by norm_cast
    omega
  have hp1 : (1 : Int) ≤ 2 ^ t.H.toNat := by
    have : 0 < (2 : Nat) ^ t.H.toNat := Nat.pow_pos (by decide)
    have e : ((2 ^ t.H.toNat : Nat) : Int) = (2 : Int) ^ t.H.toNat := by norm_cast
    omega
  have hq : (281474976710656 : Int) / 2 ^ (t.H * t.L).toNat ≤ 281474976710656 := Int.ediv_le_self _ (by decide)
  have hN : t.N ≤ t.N * 2 ^ t.H.toNat := by
    have := Int.mul_le_mul_of_nonneg_left hp1 h6
    omega
  have hL : t.L ≤ t.H * t.L := by
    have := Int.mul_le_mul_of_nonneg_right h1 h5
    omega
  omega
theorem itoa_dig {n : Int} (h : 0 ≤ n) : ∃ u : Nat, n = u ∧ itoa n = decDigits u := by
  obtain ⟨u, rfl⟩ := Int.eq_ofNat_of_zero_le h
  exact ⟨u, rfl, itoa_nonneg u⟩
theorem no_slash {l : List UInt8} (h : ∀ b ∈ l, isDig b) : 47 ∉ l := fun hm => by
  have := h 47 hm
  exact absurd this.1 (by decide)
theorem suffix_dot {l : List UInt8} (h : ∀ b ∈ l, isDig b ∨ b = 120) : hasSuffix l [46, 112] = false := by
  unfold hasSuffix
  rw [Bool.eq_false_iff]
  intro hs
  have hm : (112 : UInt8) ∈ l := (List.isSuffixOf_iff_suffix.1 hs).subset (by simp)
  rcases h 112 hm with g | g
  · exact absurd g.2 (by decide)
  · exact absurd g (by decide)
theorem suffix_app (l : List UInt8) : hasSuffix (l ++ [46, 112]) [46, 112] = true := by
  unfold hasSuffix
  exact List.isSuffixOf_iff_suffix.2 ⟨l, rfl⟩
theorem last_mem {g : List (List UInt8)} (h : g ≠ []) : g.getLastD [] ∈ g := by
  match g with
  | [] => exact absurd rfl h
  | x :: r => rw [List.getLastD_cons]; exact List.getLastD_mem_cons ..
theorem last_app {g : List (List UInt8)} (h : g ≠ []) : g.dropLast ++ [g.getLastD []] = g := by
  match g with
  | [] => exact absurd rfl h
  | x :: r =>
    have := List.dropLast_concat_getLast (l := x :: r) (by simp)
    rw [List.getLastD_cons]
    rw [List.getLast_eq_getLastD] at this
    exact this
theorem parts_slash {t : Tl} (h : okT t) : ∀ p ∈ partsB t, (47 : UInt8) ∉ p := by
  obtain ⟨h1, h2, h3, h4, h5, h6, h7⟩ := h.bounds
  have hH := h.1
  obtain ⟨uH, eH, dH⟩ := itoa_dig (n := t.H) (by omega)
  obtain ⟨uL, eL, dL⟩ := itoa_dig (n := t.L) h2
  obtain ⟨uN, eN, dN⟩ := itoa_dig (n := t.N) h4
  obtain ⟨uW, eW, dW⟩ := itoa_dig (n := t.W) (by omega)
  have hg : ∀ g ∈ groups (pad3 (itoa t.N)), (47 : UInt8) ∉ g := fun g hg hm => by
    have := groups_all (P := fun b => isDig b ∨ b = 120) (.inr rfl) _ (pad3 (itoa t.N)) (Nat.le_refl _) (fun b hb => .inl (pad_dig (by rw [dN]; exact dec_dig uN) b hb)) g hg 47 hm
    rcases this with g | g
    · exact absurd g.1 (by decide)
    · exact absurd g (by decide)
  intro p hp
  simp only [partsB, List.mem_cons] at hp
  rcases hp with rfl | rfl | hp
  · rw [dH]; exact no_slash (dec_dig uH)
  · unfold lvlB
    split
    · decide
    · rw [dL]; exact no_slash (dec_dig uL)
  · unfold wdB at hp
    split at hp
    · simp only [gtail, List.mem_append, List.mem_cons, List.not_mem_nil, or_false] at hp
      rcases hp with hp | rfl | rfl
      · exact hg p (List.dropLast_subset _ hp)
      · intro hm
        rcases List.mem_append.1 hm with hm | hm
        · have hne := groups_ne (pad3 (itoa t.N))
          have : (groups (pad3 (itoa t.N))).getLastD [] ∈ groups (pad3 (itoa t.N)) := last_mem hne
          exact hg _ this hm
        · revert hm; decide
      · rw [dW]; exact no_slash (dec_dig uW)
    · exact hg p hp
theorem trim_no {l : List UInt8} (h : ∀ b ∈ l, isDig b) : trimSuffix l [46, 112] = l := by
  unfold trimSuffix
  rw [suffix_dot fun b hb => .inl (h b hb)]; rfl
theorem trim_yes (l : List UInt8) : trimSuffix (l ++ [46, 112]) [46, 112] = l := by
  unfold trimSuffix
  rw [suffix_app, if_pos rfl, List.length_append, Nat.add_sub_cancel, List.take_left]
theorem guess_path {t : Tl} (h : okT t) : guessV ([116, 105, 108, 101] :: partsB t) = t := by
  obtain ⟨h1, h2, h3, h4, h5, h6, h7⟩ := h.bounds
  obtain ⟨hH, _, _, hWle, _, _, hD, _, _⟩ := h
  obtain ⟨uH, eH, dH⟩ := itoa_dig (n := t.H) (by omega)
  obtain ⟨uL, eL, dL⟩ := itoa_dig (n := t.L) h2
  obtain ⟨uN, eN, dN⟩ := itoa_dig (n := t.N) h4
  obtain ⟨uW, eW, dW⟩ := itoa_dig (n := t.W) (by omega)
  have hdig : ∀ b ∈ pad3 (itoa t.N), isDig b := pad_dig (by rw [dN]; exact dec_dig uN)
  have hgne := groups_ne (pad3 (itoa t.N))
  have hflat := groups_flat _ (pad3 (itoa t.N)) (Nat.le_refl _) hdig
  have hgl : ∀ g ∈ groups (pad3 (itoa t.N)), ∀ b ∈ g, isDig b ∨ b = 120 := groups_all (P := fun b => isDig b ∨ b = 120) (.inr rfl) _ (pad3 (itoa t.N)) (Nat.le_refl _) fun b hb => .inl (hdig b hb)
  have hpN : parseV (pad3 (itoa t.N)) = t.N := by rw [dN, parse_pad uN (by omega), eN]
  have hpH : atoiV (itoa t.H) = t.H := by rw [dH, atoi_dec uH (by omega), eH]
  have hpW : atoiV (itoa t.W) = t.W := by rw [dW, atoi_dec uW (by omega), eW]
  have hpL : atoiV (lvlB t) = t.L := by
    unfold lvlB
    split
    · rename_i hd
      rw [hD hd]; rfl
    · rw [dL, atoi_dec uL (by omega), eL]
  have hpD : decide (lvlB t = [100, 97, 116, 97]) = t.D := by
    unfold lvlB
    cases hd : t.D with
    | true => rfl
    | false =>
      rw [if_neg (by simp), dL]
      simp only [decide_eq_false_iff_not]
      intro e
      have := dec_dig uL 100 (by rw [e]; simp)
      exact absurd this.2 (by decide)
  generalize hd : pad3 (itoa t.N) = d at *
  have hglen : 0 < (groups d).length := List.length_pos_iff.2 hgne
  have hlen : ¬ ([116, 105, 108, 101] :: partsB t).length < 4 := by
    simp only [partsB, List.length_cons, hd]
    have : 0 < (gtail d (wdB t)).length := by
      unfold wdB
      split
      · simp [gtail]
      · exact hglen
    omega
  have e1 : ([116, 105, 108, 101] :: partsB t)[1]?.getD [] = itoa t.H := rfl
  have e2 : ([116, 105, 108, 101] :: partsB t)[2]?.getD [] = lvlB t := rfl
  have e3 : ([116, 105, 108, 101] :: partsB t).drop 3 = gtail d (wdB t) := by rw [partsB, hd]; rfl
  unfold guessV
  rw [if_neg hlen]
  simp only [e1, e2, e3, hpH, hpL, hpD]
  by_cases hw : t.W < 2 ^ t.H.toNat
  · have ew : wdB t = some (itoa t.W) := by unfold wdB; rw [if_pos hw]
    rw [ew]
    have eg : gtail d (some (itoa t.W)) = (groups d).dropLast ++ [(groups d).getLastD [] ++ [46, 112], itoa t.W] := rfl
    have hk : (gtail d (some (itoa t.W))).length = (groups d).length + 1 := by rw [eg, List.length_append, List.length_dropLast]; simp; omega
    have g1 : (gtail d (some (itoa t.W)))[(gtail d (some (itoa t.W))).length - 2]?.getD [] = (groups d).getLastD [] ++ [46, 112] := by
      rw [hk, eg, List.getElem?_append_right (by rw [List.length_dropLast]; omega), List.length_dropLast, show (groups d).length + 1 - 2 - ((groups d).length - 1) = 0 by omega]; rfl
    have g2 : (gtail d (some (itoa t.W)))[(gtail d (some (itoa t.W))).length - 1]?.getD [] = itoa t.W := by
      rw [hk, eg, List.getElem?_append_right (by rw [List.length_dropLast]; omega), List.length_dropLast, show (groups d).length + 1 - 1 - ((groups d).length - 1) = 1 by omega]; rfl
    have g3 : (gtail d (some (itoa t.W))).take ((gtail d (some (itoa t.W))).length - 1) = (groups d).dropLast ++ [(groups d).getLastD [] ++ [46, 112]] := by
      rw [hk, eg, List.take_append, List.take_of_length_le (by rw [List.length_dropLast]; omega), List.length_dropLast, show (groups d).length + 1 - 1 - ((groups d).length - 1) = 1 by omega]; rfl
    have g4 : ((groups d).dropLast ++ [(groups d).getLastD [] ++ [46, 112]]).flatten = (groups d).flatten ++ [46, 112] := by
      have := congrArg List.flatten (last_app hgne)
      rw [List.flatten_append] at this ⊢
      rw [← this]; simp
    have hc : (decide (1 < (gtail d (some (itoa t.W))).length) && hasSuffix ((gtail d (some (itoa t.W)))[(gtail d (some (itoa t.W))).length - 2]?.getD []) [46, 112]) = true := by
      rw [g1, suffix_app, hk, decide_eq_true (by omega)]; rfl
    rw [hc, g2, g3]
    simp only [if_true]
    rw [g4, replaceAll_one, List.filter_append, hflat]
    have : ([46, 112] : List UInt8).filter (· ≠ 120) = [46, 112] := by decide
    rw [this, trim_yes]
    rw [hpN, hpW]
  · have ew : wdB t = none := by unfold wdB; rw [if_neg hw]
    rw [ew]
    have eg : gtail d none = groups d := rfl
    rw [eg]
    have hc : (decide (1 < (groups d).length) && hasSuffix ((groups d)[(groups d).length - 2]?.getD []) [46, 112]) = false := by
      rw [Bool.and_eq_false_iff]
      right
      match hx : (groups d)[(groups d).length - 2]? with
      | none => rfl
      | some g => exact suffix_dot (hgl g (List.mem_of_getElem? hx))
    rw [hc]
    simp only [Bool.false_eq_true, if_false]
    rw [replaceAll_one, hflat, trim_no hdig, hpN]
    have e16 : t.H % 16 = t.H := Int.emod_eq_of_lt (by omega) (by omega)
    have eW2 : (2 : Int) ^ t.H.toNat = t.W := by omega
    rw [e16, eW2]
theorem path_len {t : Tl} (h : okT t) : (pathB t).length ≤ 200 := by
  obtain ⟨h1, h2, h3, h4, h5, h6, h7⟩ := h.bounds
  have hH := h.1
  have l1 := itoa_length_le t.H (by omega) (by omega)
  have l2 := itoa_length_le t.L (by omega) (by omega)
  have l3 := itoa_length_le t.N (by omega) (by omega)
  have l4 := itoa_length_le t.W (by omega) (by omega)
  have sl : ∀ ps, (slashes ps).length = ps.length + ps.flatten.length := by
    intro ps
    induction ps with
    | nil => rfl
    | cons p ps ih => simp only [slashes, List.flatMap_cons, List.length_append, List.length_cons, List.flatten_cons] at *; omega
  have gl : ∀ (n : Nat) (l : List UInt8), l.length ≤ n → (groups l).length ≤ l.length / 3 + 1 ∧ (groups l).flatten.length ≤ l.length + l.length / 3 := by
    intro n
    induction n with
    | zero =>
      intro l hl
      obtain rfl : l = [] := List.eq_nil_of_length_eq_zero (by omega)
      rw [groups_small (by simp)]; simp
    | succ n ih =>
      intro l hl
      by_cases h : l.length ≤ 3
      · rw [groups_small h]; simp
      · have hd : (l.drop 3).length = l.length - 3 := List.length_drop
        obtain ⟨i1, i2⟩ := ih (l.drop 3) (by omega)
        rw [groups_big h]
        simp only [List.length_cons, List.flatten_cons, List.length_append, List.length_take]
        omega
  have l5 := pad_len_le (itoa t.N)
  obtain ⟨g1, g2⟩ := gl _ (pad3 (itoa t.N)) (Nat.le_refl _)
  have lv : (lvlB t).length ≤ 21 := by
    unfold lvlB
    split
    · decide
    · exact l2
  have gt : (gtail (pad3 (itoa t.N)) (wdB t)).length ≤ (groups (pad3 (itoa t.N))).length + 1 ∧ (gtail (pad3 (itoa t.N)) (wdB t)).flatten.length ≤ (groups (pad3 (itoa t.N))).flatten.length + 2 + 21 := by
    unfold wdB
    split
    · have hne := groups_ne (pad3 (itoa t.N))
      have hp : 0 < (groups (pad3 (itoa t.N))).length := List.length_pos_iff.2 hne
      have hf := congrArg (fun g => g.flatten.length) (last_app hne)
      simp only [List.flatten_append, List.length_append, List.flatten_cons, List.flatten_nil, List.append_nil] at hf
      simp only [gtail, List.length_append, List.length_dropLast, List.length_cons, List.length_nil, List.flatten_append, List.flatten_cons, List.flatten_nil, List.append_nil]
      omega
    · simp only [gtail]; omega
  simp only [pathB, List.length_append, sl, partsB, List.length_cons, List.flatten_cons, List.length_nil]
  omega
theorem cut_path {t : Tl} (h : okT t) : cutAt 47 (pathB t) = [116, 105, 108, 101] :: partsB t := cutAt_slashes _ _ (by decide) (parts_slash h)
end Go.Proofs.YtccjncflbbhldaaDoor
