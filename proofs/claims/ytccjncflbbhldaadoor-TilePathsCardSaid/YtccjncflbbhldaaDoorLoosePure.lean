/- Paths read loosely: plain law. -/
import Derived.Test.YtccjncflbbhldaaDoorRefPath2
set_option maxRecDepth 10000
namespace Go.Proofs.YtccjncflbbhldaaDoor
open Go.Sh Go.RowKit Lib

theorem dec_len : ∀ (k u : Nat), u < 10 ^ (k + 1) → (decDigits u).length ≤ k + 1
  | 0, u, h => by rw [decDigits, dif_pos (by simpa using h)]; simp
  | k + 1, u, h => by
    rw [decDigits]
    split
    · simp
    · rw [List.length_append]
      have := dec_len k (u / 10) (by rw [Nat.pow_succ] at h; omega)
      simp; omega
/-- the groups as one text -/
def gs (l : List UInt8) : List UInt8 := if h : l.length ≤ 3 then l else 120 :: l.take 3 ++ 47 :: gs (l.drop 3)
termination_by l.length
decreasing_by simp only [List.length_drop]; omega
theorem gs_tail : ∀ (n : Nat) (l : List UInt8), l.length ≤ n → slashes (gtail l none) = 47 :: gs l ∧ ∀ w, slashes (gtail l (some w)) = 47 :: gs l ++ [46, 112, 47] ++ w := by
  intro n
  induction n with
  | zero =>
    intro l hl
    obtain rfl : l = [] := List.eq_nil_of_length_eq_zero (by omega)
    refine ⟨?_, fun w => ?_⟩
    · rw [gtail_small (by simp), gs, dif_pos (by simp)]; rfl
    · rw [gtail_small (by simp), gs, dif_pos (by simp)]; simp [slashes]
  | succ n ih =>
    intro l hl
    by_cases h : l.length ≤ 3
    · refine ⟨?_, fun w => ?_⟩
      · rw [gtail_small h, gs, dif_pos h]; simp [slashes]
      · rw [gtail_small h, gs, dif_pos h]; simp [slashes]
    · obtain ⟨i1, i2⟩ := ih (l.drop 3) (by rw [List.length_drop]; omega)
      refine ⟨?_, fun w => ?_⟩
      · rw [gtail_big h, gs, dif_neg h]
        have : slashes ((120 :: l.take 3) :: gtail (l.drop 3) none) = 47 :: (120 :: l.take 3) ++ slashes (gtail (l.drop 3) none) := by simp [slashes]
        rw [this, i1]; simp
      · rw [gtail_big h, gs, dif_neg h]
        have : slashes ((120 :: l.take 3) :: gtail (l.drop 3) (some w)) = 47 :: (120 :: l.take 3) ++ slashes (gtail (l.drop 3) (some w)) := by simp [slashes]
        rw [this, i2]; simp
theorem gs_len : ∀ (n : Nat) (l : List UInt8), l.length ≤ n → (gs l).length ≤ 2 * l.length := by
  intro n
  induction n with
  | zero =>
    intro l hl
    rw [gs, dif_pos (by omega)]; omega
  | succ n ih =>
    intro l hl
    by_cases h : l.length ≤ 3
    · rw [gs, dif_pos h]; omega
    · rw [gs, dif_neg h]
      have := ih (l.drop 3) (by rw [List.length_drop]; omega)
      simp only [List.length_append, List.length_cons, List.length_take, List.length_drop] at this ⊢
      omega
/-- a path, piece by piece -/
theorem path_flat (t : Tl) : pathB t = [116, 105, 108, 101, 47] ++ itoa t.H ++ [47] ++ lvlB t ++ [47] ++ gs (pad3 (itoa t.N)) ++ (match wdB t with | none => [] | some w => [46, 112, 47] ++ w) := by
  obtain ⟨g1, g2⟩ := gs_tail _ (pad3 (itoa t.N)) (Nat.le_refl _)
  have e : pathB t = [116, 105, 108, 101, 47] ++ itoa t.H ++ [47] ++ lvlB t ++ slashes (gtail (pad3 (itoa t.N)) (wdB t)) := by
    simp [pathB, partsB, slashes]
  rw [e]
  cases wdB t with
  | none => rw [g1]; simp
  | some w => rw [g2]; simp
theorem path_len100 {t : Tl} (h : okT t) : (pathB t).length ≤ 100 := by
  obtain ⟨h1, h2, h3, h4, h5, h6, h7⟩ := h.bounds
  have hH := h.1
  obtain ⟨uH, eH, dH⟩ := itoa_dig (n := t.H) (by omega)
  obtain ⟨uL, eL, dL⟩ := itoa_dig (n := t.L) h2
  obtain ⟨uN, eN, dN⟩ := itoa_dig (n := t.N) h4
  obtain ⟨uW, eW, dW⟩ := itoa_dig (n := t.W) (by omega)
  have l1 := dec_len 0 uH (by omega)
  have l2 := dec_len 1 uL (by omega)
  have l3 := dec_len 14 uN (by omega)
  have l4 := dec_len 2 uW (by omega)
  have l5 := pad_len_le (itoa t.N)
  have l6 := gs_len _ (pad3 (itoa t.N)) (Nat.le_refl _)
  have lv : (lvlB t).length ≤ 4 := by
    unfold lvlB
    split
    · decide
    · rw [dL]; omega
  rw [path_flat]
  rw [dN] at l5 l6
  have lw : (match wdB t with | none => ([] : List UInt8) | some w => [46, 112, 47] ++ w).length ≤ 6 := by
    unfold wdB
    split
    · simp
    · rename_i w hw
      split at hw
      · cases hw; rw [dW]; simp only [List.length_append, List.length_cons, List.length_nil]; omega
      · cases hw
  simp only [List.length_append, List.length_cons, List.length_nil, dH, dN] at *
  omega
/-- the last two bytes are .p, and there is one more -/
def dotp (l : List UInt8) : Bool := decide (2 < l.length) && decide (l.drop (l.length - 2) = [46, 112])
def looseT (ps : List (List UInt8)) : Tl :=
  let last := ps.length - 1
  let cut := dotp (ps[last - 1]?.getD [])
  { H := looseG 0 (ps[1]?.getD []), L := looseG 0 (ps[2]?.getD []), D := decide (ps[2]?.getD [] = [100, 97, 116, 97]),
    W := if cut then looseG 0 (ps[last]?.getD []) else 2 ^ (looseG 0 (ps[1]?.getD [])),
    N := looseG 0 ((ps.take (if cut then last else last + 1)).drop 3).flatten }
theorem dig120 {l : List UInt8} (h : ∀ b ∈ l, isDig b) : l.filter isDigB = l := List.filter_eq_self.2 fun b hb => isDigB_of (h b hb)
theorem groups_dig : ∀ (n : Nat) (l : List UInt8), l.length ≤ n → (∀ b ∈ l, isDig b) → (groups l).flatten.filter isDigB = l := by
  intro n
  induction n with
  | zero =>
    intro l hl hd
    rw [groups_small (by omega)]; simpa using dig120 hd
  | succ n ih =>
    intro l hl hd
    by_cases h : l.length ≤ 3
    · rw [groups_small h]; simpa using dig120 hd
    · rw [groups_big h, List.flatten_cons, List.filter_append, ih (l.drop 3) (by rw [List.length_drop]; omega) fun b hb => hd b (List.mem_of_mem_drop hb)]
      have : (120 :: l.take 3).filter isDigB = l.take 3 := by
        rw [List.filter_cons_of_neg (by decide)]; exact dig120 fun b hb => hd b (List.mem_of_mem_take hb)
      rw [this, List.take_append_drop]
theorem dotp_app {l : List UInt8} (h : l ≠ []) : dotp (l ++ [46, 112]) = true := by
  have : 0 < l.length := List.length_pos_iff.2 h
  unfold dotp
  have e : (l ++ [46, 112]).length - 2 = l.length := by simp
  rw [e, List.drop_left]
  simp; omega
theorem two_last {α : Type} (pre : List α) (x y : α) {l : List α} (h : l = pre ++ [x, y]) : l[l.length - 1 - 1]? = some x ∧ l[l.length - 1]? = some y ∧ l.take (l.length - 1) = pre ++ [x] := by
  subst h
  have e : (pre ++ [x, y]).length = pre.length + 2 := by simp
  rw [e]
  refine ⟨?_, ?_, ?_⟩
  · rw [List.getElem?_append_right (by omega), show pre.length + 2 - 1 - 1 - pre.length = 0 by omega]; rfl
  · rw [List.getElem?_append_right (by omega), show pre.length + 2 - 1 - pre.length = 1 by omega]; rfl
  · rw [List.take_append, List.take_of_length_le (by omega), show pre.length + 2 - 1 - pre.length = 1 by omega]; rfl
theorem dotp_no {l : List UInt8} (h : ∀ b ∈ l, isDig b ∨ b = 120) : dotp l = false := by
  unfold dotp
  rw [Bool.and_eq_false_iff]
  right
  simp only [decide_eq_false_iff_not]
  intro e
  have hm : (46 : UInt8) ∈ l.drop (l.length - 2) := by rw [e]; simp
  rcases h 46 (List.mem_of_mem_drop hm) with h | h
  · exact absurd h.1 (by decide)
  · exact absurd h (by decide)
theorem loose_path {t : Tl} (h : okT t) : looseT ([116, 105, 108, 101] :: partsB t) = t ∧ 4 ≤ ([116, 105, 108, 101] :: partsB t).length := by
  obtain ⟨h1, h2, h3, h4, h5, h6, h7⟩ := h.bounds
  obtain ⟨hH, _, _, hWle, _, _, hD, _, _⟩ := h
  obtain ⟨uH, eH, dH⟩ := itoa_dig (n := t.H) (by omega)
  obtain ⟨uL, eL, dL⟩ := itoa_dig (n := t.L) h2
  obtain ⟨uN, eN, dN⟩ := itoa_dig (n := t.N) h4
  obtain ⟨uW, eW, dW⟩ := itoa_dig (n := t.W) (by omega)
  have hdig : ∀ b ∈ pad3 (itoa t.N), isDig b := pad_dig (by rw [dN]; exact dec_dig uN)
  have hgne := groups_ne (pad3 (itoa t.N))
  have hflat := groups_dig _ (pad3 (itoa t.N)) (Nat.le_refl _) hdig
  have hgl : ∀ g ∈ groups (pad3 (itoa t.N)), ∀ b ∈ g, isDig b ∨ b = 120 := groups_all (P := fun b => isDig b ∨ b = 120) (.inr rfl) _ (pad3 (itoa t.N)) (Nat.le_refl _) fun b hb => .inl (hdig b hb)
  have hcap := loCap_eq
  have hpN : ((looseG 0 (pad3 (itoa t.N)) : Nat) : Int) = t.N := by rw [dN, pad3, loose_zeros, loose_dec uN (by omega), eN]
  have hpH : ((looseG 0 (itoa t.H) : Nat) : Int) = t.H := by rw [dH, loose_dec uH (by omega), eH]
  have hpW : ((looseG 0 (itoa t.W) : Nat) : Int) = t.W := by rw [dW, loose_dec uW (by omega), eW]
  have hpL : ((looseG 0 (lvlB t) : Nat) : Int) = t.L := by
    unfold lvlB
    split
    · rename_i hd
      rw [hD hd]; rfl
    · rw [dL, loose_dec uL (by omega), eL]
  have hpD : decide (lvlB t = [100, 97, 116, 97]) = t.D := by
    unfold lvlB
    cases hd : t.D with
    | true => rfl
    | false =>
      rw [if_neg (by simp), dL]
      simp only [decide_eq_false_iff_not]
      intro e
      have := dec_dig uL 100 (by rw [e]; simp)
      exact absurd this.2 (by decide)
  have hdne : ∀ g ∈ groups (pad3 (itoa t.N)), g ≠ [] := by
    have key : ∀ (n : Nat) (l : List UInt8), l.length ≤ n → l ≠ [] → ∀ g ∈ groups l, g ≠ [] := by
      intro n
      induction n with
      | zero => intro l hl hne; exact absurd (List.eq_nil_of_length_eq_zero (by omega)) hne
      | succ n ih =>
        intro l hl hne g hg
        by_cases h : l.length ≤ 3
        · rw [groups_small h] at hg; simp only [List.mem_singleton] at hg; rw [hg]; exact hne
        · rw [groups_big h] at hg
          rcases List.mem_cons.1 hg with rfl | hg
          · simp
          · exact ih (l.drop 3) (by rw [List.length_drop]; omega) (fun e => by have := congrArg List.length e; rw [List.length_drop] at this; simp at this; omega) g hg
    refine key _ _ (Nat.le_refl _) ?_
    obtain ⟨c, r, hd, _⟩ := dec_ne uN
    rw [dN, pad3, hd]; simp
  generalize hd : pad3 (itoa t.N) = d at *
  have hglen : 0 < (groups d).length := List.length_pos_iff.2 hgne
  have hlen : ([116, 105, 108, 101] :: partsB t).length = 3 + (gtail d (wdB t)).length := by
    simp only [partsB, List.length_cons, hd]; omega
  have e1 : ([116, 105, 108, 101] :: partsB t)[1]?.getD [] = itoa t.H := rfl
  have e2 : ([116, 105, 108, 101] :: partsB t)[2]?.getD [] = lvlB t := rfl
  have e3 : [116, 105, 108, 101] :: partsB t = [[116, 105, 108, 101], itoa t.H, lvlB t] ++ gtail d (wdB t) := by rw [partsB, hd]; rfl
  by_cases hw : t.W < 2 ^ t.H.toNat
  · have ew : wdB t = some (itoa t.W) := by unfold wdB; rw [if_pos hw]
    have eg : gtail d (some (itoa t.W)) = (groups d).dropLast ++ [(groups d).getLastD [] ++ [46, 112], itoa t.W] := rfl
    have hk : (gtail d (some (itoa t.W))).length = (groups d).length + 1 := by rw [eg, List.length_append, List.length_dropLast]; simp; omega
    rw [ew] at hlen e3
    refine ⟨?_, by omega⟩
    obtain ⟨q1, q2, q3⟩ := two_last ([[116, 105, 108, 101], itoa t.H, lvlB t] ++ (groups d).dropLast) ((groups d).getLastD [] ++ [46, 112]) (itoa t.W) (l := [116, 105, 108, 101] :: partsB t) (by rw [e3, eg, List.append_assoc])
    have g1 : ([116, 105, 108, 101] :: partsB t)[([116, 105, 108, 101] :: partsB t).length - 1 - 1]?.getD [] = (groups d).getLastD [] ++ [46, 112] := by rw [q1]; rfl
    have g2 : ([116, 105, 108, 101] :: partsB t)[([116, 105, 108, 101] :: partsB t).length - 1]?.getD [] = itoa t.W := by rw [q2]; rfl
    have g3 : (([116, 105, 108, 101] :: partsB t).take (([116, 105, 108, 101] :: partsB t).length - 1)).drop 3 = (groups d).dropLast ++ [(groups d).getLastD [] ++ [46, 112]] := by rw [q3]; rfl
    have g4 : ((groups d).dropLast ++ [(groups d).getLastD [] ++ [46, 112]]).flatten = (groups d).flatten ++ [46, 112] := by
      have := congrArg List.flatten (last_app hgne)
      rw [List.flatten_append] at this ⊢
      rw [← this]; simp
    unfold looseT
    simp only [g1, g2, dotp_app (hdne _ (last_mem hgne)), if_true, g3, g4, e1, e2, hpH, hpL, hpD, hpW]
    have : ((looseG 0 ((groups d).flatten ++ [46, 112]) : Nat) : Int) = t.N := by
      rw [← loose_filter, List.filter_append, hflat, show ([46, 112] : List UInt8).filter isDigB = [] by decide, List.append_nil]; exact hpN
    rw [this]
  · have ew : wdB t = none := by unfold wdB; rw [if_neg hw]
    have eg : gtail d none = groups d := rfl
    rw [ew, eg] at hlen e3
    refine ⟨?_, by omega⟩
    have hc : dotp (([116, 105, 108, 101] :: partsB t)[([116, 105, 108, 101] :: partsB t).length - 1 - 1]?.getD []) = false := by
      rw [hlen, e3]
      match hx : ([[116, 105, 108, 101], itoa t.H, lvlB t] ++ groups d)[3 + (groups d).length - 1 - 1]? with
      | none => rfl
      | some g =>
        by_cases hlast : (groups d).length = 1
        · rw [hlast] at hx
          have : g = lvlB t := by simpa using hx.symm
          rw [this]
          unfold lvlB
          split
          · decide
          · exact dotp_no (by rw [dL]; exact fun b hb => .inl (dec_dig uL b hb))
        · rw [List.getElem?_append_right (by simp; omega)] at hx
          exact dotp_no (hgl g (List.mem_of_getElem? hx))
    unfold looseT
    have g3 : (([116, 105, 108, 101] :: partsB t).take (([116, 105, 108, 101] :: partsB t).length - 1 + 1)).drop 3 = groups d := by
      rw [List.take_of_length_le (by omega), e3]; rfl
    simp only [hc, Bool.false_eq_true, if_false, g3, e1, e2, hpL, hpD]
    have : ((looseG 0 (groups d).flatten : Nat) : Int) = t.N := by rw [← loose_filter, hflat]; exact hpN
    rw [this]
    have eW2 : (2 : Int) ^ t.H.toNat = t.W := by omega
    have eHn : looseG 0 (itoa t.H) = t.H.toNat := by omega
    rw [eHn, eW2]
    have : ((t.H.toNat : Nat) : Int) = t.H := by omega
    rw [this]
end Go.Proofs.YtccjncflbbhldaaDoor
