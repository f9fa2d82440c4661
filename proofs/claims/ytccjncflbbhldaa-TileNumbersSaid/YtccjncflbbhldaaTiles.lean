/- Tiles: what span, widthOf, Fresh, All answer. -/
import Derived.Test.YtccjncflbbhldaaShF1
import Derived.Test.YtccjncflbbhldaaTileJoinsLaw
import Derived.Test.YtccjncflbbhldaaShL8
set_option maxRecDepth 10000
namespace Go.Proofs.Ytccjncflbbhldaa
open Go.Sh

structure Tl where
  H : Int
  L : Int
  N : Int
  W : Int
  D : Bool
deriving DecidableEq
def tv (t : Tl) : List Value := [.int .i64 t.H, .int .i64 t.L, .int .i64 t.N, .int .i64 t.W, .bool t.D]
theorem tv_len (t : Tl) : (tv t).length = 5 := rfl
abbrev tvs (l : List Tl) : List Value := l.flatMap tv

theorem T42 : SlT PP 42 49 5 40 := ⟨by kernel_rfl, by kernel_rfl⟩

/-! ### shifts -/
theorem pow_pos2 (k : Nat) : 0 < 2 ^ k := Nat.pow_pos (by decide)
theorem shr_nat (x k : Nat) (hk : k ≤ 64) : shrI .i64 (x : Int) (k : Int) = ((x / 2 ^ k : Nat) : Int) := by
  simp only [shrI, IntKind.bits, Int.toNat_natCast]
  rw [Nat.min_eq_left hk, Int.fdiv_eq_ediv_of_nonneg _ (by exact_mod_cast Nat.zero_le _)]
  norm_cast
theorem shl_nat (x k : Nat) (hk : k ≤ 64) (h : x * 2 ^ k < 9223372036854775808) : shlI .i64 (x : Int) (k : Int) = ((x * 2 ^ k : Nat) : Int) := by
  simp only [shlI, IntKind.bits, Int.toNat_natCast]
  rw [Nat.min_eq_left hk, show (x : Int) * 2 ^ k = ((x * 2 ^ k : Nat) : Int) by norm_cast]
  exact wrap_id (by omega) (by omega)
theorem nn_nat {n : Nat} {p : Prop} (h : p) : nn (n : Int) p := h
theorem pow_le (h : Nat) (hh : h ≤ 8) : 2 ^ h ≤ 256 := by
  have : 2 ^ h ≤ 2 ^ 8 := Nat.pow_le_pow_right (by decide) hh
  simpa using this
theorem full_word {Q : Value → World → Prop} {h : Nat} {w : World} (hh : h ≤ 8) (hQ : Q (.int .i64 ((2 ^ h : Nat) : Int)) w) : C_tile_full #[.int .i64 (h : Int)] w Q := by
  refine C_tile_full_eq _ _ _ (nn_nat ?_)
  have := pow_le h hh
  have e := shl_nat 1 h (by omega) (by omega)
  rw [Nat.one_mul] at e
  have : shlI .i64 1 (h : Int) = ((2 ^ h : Nat) : Int) := e
  rwa [this]

/-- so many nodes of level l -/
def cnt (h l size : Nat) : Nat := size / 2 ^ (h * l)
def wid (h l n size : Nat) : Nat := if 48 / h < l then 0 else if cnt h l size / 2 ^ h < n then 0 else min (cnt h l size - n * 2 ^ h) (2 ^ h)
def spn (h l old size : Nat) : Nat × Nat := if cnt h l old = cnt h l size then (0, 0) else (cnt h l old / 2 ^ h, (cnt h l size + 2 ^ h - 1) / 2 ^ h)
theorem cnt_le (h l size : Nat) : cnt h l size ≤ size := Nat.div_le_self _ _
theorem mul_small {h l : Nat} (h1 : 1 ≤ h) (hl : l ≤ 48 / h) : h * l ≤ 48 := by
  have := Nat.mul_le_mul_left h hl
  have := Nat.mul_div_le 48 h
  omega
theorem tdiv48 (h : Nat) : IntKind.wrap .i64 (Int.tdiv 48 (h : Int)) = ((48 / h : Nat) : Int) := by
  have e : Int.tdiv 48 (h : Int) = ((48 / h : Nat) : Int) := by rw [Int.tdiv_eq_ediv_of_nonneg (by decide)]; rfl
  have : 48 / h ≤ 48 := Nat.div_le_self _ _
  rw [e]; generalize 48 / h = x at *; exact wrap_id (by omega) (by omega)
theorem wrap_mul {h l : Nat} (hl : h * l ≤ 9223372036854775807) : IntKind.wrap .i64 ((h : Int) * (l : Int)) = ((h * l : Nat) : Int) := by
  rw [show (h : Int) * (l : Int) = ((h * l : Nat) : Int) by norm_cast]
  exact wrap_id (by omega) (by omega)

theorem width_word {Q : Value → World → Prop} {h l n size : Nat} {w : World} (h1 : 1 ≤ h) (h8 : h ≤ 8) (hs : size ≤ 281474976710656) (hQ : ∀ w', Chg None w w' → Q (.int .i64 ((wid h l n size : Nat) : Int)) w') :
    C_tile_widthOf #[.int .i64 (h : Int), .int .i64 (l : Int), .int .i64 (n : Int), .int .i64 (size : Int)] w Q := by
  refine C_tile_widthOf_eq _ _ _ _ _ _ ⟨by omega, ?_⟩
  rw [tdiv48]
  unfold wid at hQ
  by_cases hl : 48 / h < l
  · rw [if_pos hl] at hQ
    exact c_gt (by omega) (hQ w (Chg.refl _ _))
  rw [if_neg hl] at hQ
  have hm := mul_small h1 (by omega : l ≤ 48 / h)
  have hp := pow_le h h8
  have hc := cnt_le h l size
  rw [wrap_mul (by omega)]
  refine c_ngt (by omega) (nn_nat (nn_nat ?_))
  rw [shr_nat size _ (by omega), ← cnt, shr_nat _ h (by omega)]
  by_cases hn : cnt h l size / 2 ^ h < n
  · rw [if_pos hn] at hQ
    exact c_gt (by omega) (hQ w (Chg.refl _ _))
  rw [if_neg hn] at hQ
  have hmul : n * 2 ^ h ≤ cnt h l size := by
    have h2 := Nat.mul_le_mul_right (2 ^ h) (by omega : n ≤ cnt h l size / 2 ^ h)
    have h3 := Nat.div_mul_le_self (cnt h l size) (2 ^ h)
    omega
  refine c_ngt (by omega) ?_
  unfold drw
  refine nn_nat (full_word h8 (opnI_s ?_))
  rw [shl_nat n h (by omega) (by omega), wrap_id (by omega) (by omega)]
  have e : (if ((2 ^ h : Nat) : Int) < ((cnt h l size : Nat) : Int) - ((n * 2 ^ h : Nat) : Int) then ((2 ^ h : Nat) : Int) else ((cnt h l size : Nat) : Int) - ((n * 2 ^ h : Nat) : Int)) = ((min (cnt h l size - n * 2 ^ h) (2 ^ h) : Nat) : Int) := by
    split <;> omega
  rw [e]
  exact hQ _ (Chg.drew0 w)

theorem span_word {Q : Value → World → Prop} {h l old size : Nat} {w : World} (h1 : 1 ≤ h) (h8 : h ≤ 8) (hl : l ≤ 48 / h) (ho : old ≤ size) (hs : size ≤ 281474976710656)
    (hQ : ∀ w', Chg None w w' → Q (.tuple #[.int .i64 (((spn h l old size).1 : Nat) : Int), .int .i64 (((spn h l old size).2 : Nat) : Int)]) w') :
    C_tile_span #[.int .i64 (h : Int), .int .i64 (l : Int), .int .i64 (old : Int), .int .i64 (size : Int)] w Q := by
  refine C_tile_span_eq _ _ _ _ _ _ ?_
  unfold drw
  have hm := mul_small h1 hl
  have hp := pow_le h h8
  have hp0 := pow_pos2 h
  have hc := cnt_le h l size
  have hc' := cnt_le h l old
  rw [wrap_mul (by omega)]
  refine nn_nat (nn_nat ?_)
  rw [shr_nat size _ (by omega), shr_nat old _ (by omega), ← cnt, ← cnt]
  by_cases he : cnt h l old = cnt h l size
  · refine c_eq (by omega) ?_
    have := hQ w.drew (Chg.drew0 w)
    rw [spn, if_pos he] at this
    exact this
  · refine c_neq (by omega) ?_
    refine nn_nat (full_word h8 (opnI_s (nn_nat ?_)))
    rw [shr_nat _ h (by omega), wrap_id (n := ((cnt h l size : Nat) : Int) + _) (by omega) (by omega), wrap_id (by omega) (by omega),
      show ((cnt h l size : Nat) : Int) + ((2 ^ h : Nat) : Int) - 1 = ((cnt h l size + 2 ^ h - 1 : Nat) : Int) by omega, shr_nat _ h (by omega)]
    have := hQ w.drew.drew (Chg.drew0 w).drew
    rw [spn, if_neg he] at this
    exact this

/-! ### Fresh -/
def lvl (h l old size : Nat) : List Tl := (List.range ((spn h l old size).2 - (spn h l old size).1)).map fun i => ⟨h, l, ((spn h l old size).1 + i : Nat), wid h l ((spn h l old size).1 + i) size, false⟩
def freshTo (h old size m : Nat) : List Tl := (List.range m).flatMap fun l => lvl h l old size
def freshL (h old size : Nat) : List Tl := freshTo h old size (48 / h + 1)
theorem spn_le {h l old size : Nat} (ho : old ≤ size) : (spn h l old size).1 ≤ (spn h l old size).2 := by
  unfold spn
  split
  · exact Nat.le_refl _
  · have hp0 := pow_pos2 h
    have : cnt h l old ≤ cnt h l size := Nat.div_le_div_right ho
    exact Nat.div_le_div_right (by omega)
theorem lvl_len {h l old size : Nat} : (lvl h l old size).length = (spn h l old size).2 - (spn h l old size).1 := by simp [lvl]
theorem spn_small {h l old size : Nat} (h8 : h ≤ 8) : (spn h l old size).2 ≤ size + 256 := by
  unfold spn
  split
  · simp
  · have hp0 := pow_le h h8
    have := cnt_le h l size
    exact Nat.le_trans (Nat.div_le_self _ _) (by omega)
theorem freshTo_succ (h old size m : Nat) : freshTo h old size (m + 1) = freshTo h old size m ++ lvl h m old size := by
  simp [freshTo, List.range_succ]

theorem freshTo_mono (h old size m : Nat) : ∀ k, (freshTo h old size m).length ≤ (freshTo h old size (m + k)).length
  | 0 => Nat.le_refl _
  | k + 1 => by
    have := freshTo_mono h old size m k
    rw [← Nat.add_assoc, freshTo_succ, List.length_append]; omega

theorem fresh_word {Q : Value → World → Prop} {h old size : Int} {w0 : World}
    (harg : ¬ (1 ≤ h ∧ h ≤ 8 ∧ 0 ≤ old ∧ old ≤ size ∧ size ≤ 281474976710656) → ∀ w', Chg None w0 w' → Q (.tuple #[.slice none 0 0, .int .i64 1]) w')
    (hlong : (1 ≤ h ∧ h ≤ 8 ∧ 0 ≤ old ∧ old ≤ size ∧ size ≤ 281474976710656) → 65536 < (freshL h.toNat old.toNat size.toNat).length → ∀ w', Chg None w0 w' → Q (.tuple #[.slice none 0 0, .int .i64 2]) w')
    (hok : (1 ≤ h ∧ h ≤ 8 ∧ 0 ≤ old ∧ old ≤ size ∧ size ≤ 281474976710656) → ∀ (l : List Tl), l = freshL h.toNat old.toNat size.toNat → l.length ≤ 65536 → ∀ a c w', Own w' 49 5 a l.length c (tvs l) → (∀ k, At a k → w0.heap.size ≤ k) → Chg None w0 w' → Q (.tuple #[.slice a l.length c, .int .i64 0]) w') :
    C_tile_Fresh #[.int .i64 h, .int .i64 old, .int .i64 size] w0 Q := by
  refine C_tile_Fresh_eq _ _ _ _ _ (C_tile_sizes_eq _ _ _ _ ?_)
  by_cases g1 : 1 ≤ h
  case neg => exact c_nge (by omega) (N_tile_Fresh.j2_eq _ _ (harg (by omega) w0 (Chg.refl _ _)))
  refine c_ge g1 ?_
  by_cases g2 : h ≤ 8
  case neg => exact c_nle (by omega) (N_tile_Fresh.j2_eq _ _ (harg (by omega) w0 (Chg.refl _ _)))
  refine c_le g2 ?_
  by_cases g3 : 0 ≤ size
  case neg => exact c_nge (by omega) (N_tile_Fresh.j2_eq _ _ (harg (by omega) w0 (Chg.refl _ _)))
  refine c_ge g3 ?_
  by_cases g4 : size ≤ 281474976710656
  case neg =>
    rw [decide_eq_false g4]
    exact N_tile_Fresh.j2_eq _ _ (harg (by omega) w0 (Chg.refl _ _))
  rw [decide_eq_true g4, opnB_s, Bool.not_true, cond_false]
  by_cases g5 : old < 0
  · exact c_lt g5 (N_tile_Fresh.j2_eq _ _ (harg (by omega) w0 (Chg.refl _ _)))
  refine c_nlt (by omega) ?_
  by_cases g6 : old > size
  · exact c_gt g6 (N_tile_Fresh.j2_eq _ _ (harg (by omega) w0 (Chg.refl _ _)))
  refine c_ngt (by omega) ?_
  have gg : 1 ≤ h ∧ h ≤ 8 ∧ 0 ≤ old ∧ old ≤ size ∧ size ≤ 281474976710656 := by omega
  replace hlong := hlong gg
  replace hok := hok gg
  obtain ⟨h, rfl⟩ := Int.eq_ofNat_of_zero_le (by omega : 0 ≤ h)
  obtain ⟨old, rfl⟩ := Int.eq_ofNat_of_zero_le (by omega : 0 ≤ old)
  obtain ⟨size, rfl⟩ := Int.eq_ofNat_of_zero_le (by omega : 0 ≤ size)
  simp only [Int.toNat_natCast] at hlong hok
  have h1 : 1 ≤ h := by omega
  have h8 : h ≤ 8 := by omega
  have ho : old ≤ size := by omega
  have hs : size ≤ 281474976710656 := by omega
  clear harg gg g1 g2 g3 g4 g5 g6
  have h48 : 48 / h ≤ 48 := Nat.div_le_self _ _
  -- the second pass
  have second : ∀ (k l : Nat) (a : Option Addr) (c : Nat) (w : World), l + k = 48 / h + 1 → (freshL h old size).length ≤ 65536 → Own w 49 5 a (freshTo h old size l).length c (tvs (freshTo h old size l)) → (∀ k, At a k → w0.heap.size ≤ k) → Chg None w0 w →
      N_tile_Fresh.j13 Q h old size a (freshTo h old size l).length c ((l : Nat) : Int) w := by
    intro k
    induction k with
    | zero =>
      intro l a c w hl hm o f k0
      refine N_tile_Fresh.j13_eq (h := ⟨by omega, ?_⟩)
      rw [tdiv48]
      refine c_nle (by omega) ?_
      have e : freshTo h old size l = freshL h old size := by rw [freshL, show l = 48 / h + 1 by omega]
      rw [e] at o ⊢
      exact hok _ rfl hm a c w o f k0
    | succ k ih =>
      intro l a c w hl hm o f k0
      refine N_tile_Fresh.j13_eq (h := ⟨by omega, ?_⟩)
      rw [tdiv48]
      refine c_le (by omega) ?_
      refine span_word h1 h8 (by omega) ho hs fun w1 k1 => ⟨rfl, ⟨rfl, ⟨rfl, ?_⟩⟩⟩
      have hsm := spn_small (l := l) (old := old) (size := size) h8
      have inner : ∀ (m i : Nat) (a : Option Addr) (c : Nat) (w : World), i + m = (spn h l old size).2 - (spn h l old size).1 → Own w 49 5 a ((freshTo h old size l).length + i) c (tvs (freshTo h old size l ++ (lvl h l old size).take i)) → (∀ k, At a k → w0.heap.size ≤ k) → Chg None w0 w →
          N_tile_Fresh.j17 Q h old size a ((freshTo h old size l).length + i) c ((l : Nat) : Int) (((spn h l old size).2 : Nat) : Int) (((spn h l old size).1 + i : Nat) : Int) w := by
        intro m
        induction m with
        | zero =>
          intro i a c w hi o f k0
          refine N_tile_Fresh.j17_eq (h := c_nlt (by have := spn_le (h := h) (l := l) ho; omega) ?_)
          rw [wrap_nat (by omega)]
          have e : freshTo h old size l ++ (lvl h l old size).take i = freshTo h old size (l + 1) := by rw [freshTo_succ, List.take_of_length_le (by rw [lvl_len]; omega)]
          have el : (freshTo h old size l).length + i = (freshTo h old size (l + 1)).length := by rw [freshTo_succ, List.length_append, lvl_len]; omega
          rw [e, el] at o
          rw [el]
          exact ih (l + 1) a c w (by omega) hm o f k0
        | succ m ihm =>
          intro i a c w hi o f k0
          have hii : i < (lvl h l old size).length := by rw [lvl_len]; omega
          refine N_tile_Fresh.j17_eq (h := c_lt (by omega) ?_)
          refine width_word h1 h8 hs fun w2 k2 => ⟨rfl, ?_⟩
          unfold alC
          have ka : Chg None w2 (w2.alloc (.cells #[.int .i64 (h : Int), .int .i64 (l : Int), .int .i64 (((spn h l old size).1 + i : Nat) : Int), .int .i64 ((wid h l ((spn h l old size).1 + i) size : Nat) : Int), .bool false] 49)) := chg_alloc w2 _
          have hel : (lvl h l old size)[i]? = some ⟨h, l, ((spn h l old size).1 + i : Nat), wid h l ((spn h l old size).1 + i) size, false⟩ := by
            rw [lvl, List.getElem?_map, List.getElem?_range (by omega)]; rfl
          have hlen : (freshTo h old size l).length + i + 1 ≤ 65536 := by
            have e1 : (freshTo h old size (l + 1)).length ≤ (freshL h old size).length := by
              rw [freshL, show 48 / h + 1 = (l + 1) + k by omega]
              exact freshTo_mono h old size (l + 1) k
            rw [freshTo_succ, List.length_append] at e1
            omega
          refine append_own T42 (w := w2.alloc _) ((o.chg0 k2).chg0 ka) (src_two (vs := tv ⟨h, l, ((spn h l old size).1 + i : Nat), wid h l ((spn h l old size).1 + i) size, false⟩) (n := 1) T42.ht rfl (by intro u hu; simp [tv] at hu; rcases hu with rfl | rfl | rfl | rfl | rfl <;> rfl)) (by simp only [maxLen]; omega) (by omega) fun a' c' w3 o3 k3 f3 => ?_
          have k0' : Chg None w0 w3 := Chg.fresh ((k0.none_trans k2).none_trans ka) k3 f
          have f' : ∀ k, At a' k → w0.heap.size ≤ k := by
            rcases f3 with rfl | ⟨b, rfl, hb⟩
            · exact f
            · rintro k ⟨p, hp, rfl⟩; cases hp
              exact Nat.le_trans ((k0.none_trans k2).none_trans ka).size hb
          rw [opnL_s, wrap_nat (n := (spn h l old size).1 + i) (by omega)]
          refine ihm (i + 1) a' c' w3 (by omega) ?_ f' k0'
          have e : tvs (freshTo h old size l ++ (lvl h l old size).take (i + 1)) = tvs (freshTo h old size l ++ (lvl h l old size).take i) ++ tv ⟨h, l, ((spn h l old size).1 + i : Nat), wid h l ((spn h l old size).1 + i) size, false⟩ := by
            obtain ⟨hi', he⟩ := List.getElem?_eq_some_iff.1 hel
            rw [← List.take_append_getElem hi', he]
            simp [tvs]
          rw [e]; exact o3
      exact inner ((spn h l old size).2 - (spn h l old size).1) 0 a c w1 (by omega) (by simpa using o.chg0 k1) f (k0.none_trans k1)
  -- the first pass
  have first : ∀ (k l : Nat) (w : World), l + k = 48 / h + 1 → (freshTo h old size l).length ≤ l * 281474976710912 → Chg None w0 w → N_tile_Fresh.j5 Q h old size (((freshTo h old size l).length : Nat) : Int) ((l : Nat) : Int) w := by
    intro k
    induction k with
    | zero =>
      intro l w hl hle k0
      refine N_tile_Fresh.j5_eq (h := ⟨by omega, ?_⟩)
      rw [tdiv48]
      refine c_nle (by omega) ?_
      have e : freshTo h old size l = freshL h old size := by rw [freshL, show l = 48 / h + 1 by omega]
      rw [e]
      by_cases hm : 65536 < (freshL h old size).length
      · exact c_gt (by omega) (hlong hm w k0)
      refine c_ngt (by omega) ?_
      refine make_empty (c := (freshL h old size).length) T42 (by omega) (by omega) fun b w1 o1 k1 hb1 => ?_
      rw [opnL_s]
      exact second (48 / h + 1) 0 _ _ w1 (by omega) (by omega) o1 (by rintro k ⟨p, hp, rfl⟩; cases hp; exact Nat.le_trans k0.size hb1) (k0.none_trans k1)
    | succ k ih =>
      intro l w hl hle k0
      refine N_tile_Fresh.j5_eq (h := ⟨by omega, ?_⟩)
      rw [tdiv48]
      refine c_le (by omega) ?_
      refine span_word h1 h8 (by omega) ho hs fun w1 k1 => ⟨rfl, ⟨rfl, ⟨rfl, ?_⟩⟩⟩
      have hsm := spn_small (l := l) (old := old) (size := size) h8
      have hle' := spn_le (h := h) (l := l) ho
      have e : (freshTo h old size (l + 1)).length = (freshTo h old size l).length + ((spn h l old size).2 - (spn h l old size).1) := by rw [freshTo_succ, List.length_append, lvl_len]
      have hb : l * 281474976710912 ≤ 48 * 281474976710912 := Nat.mul_le_mul_right _ (by omega)
      dsimp only
      rw [wrap_id (n := (((spn h l old size).2 : Nat) : Int) - (((spn h l old size).1 : Nat) : Int)) (by omega) (by omega), wrap_id (n := (((freshTo h old size l).length : Nat) : Int) + ((((spn h l old size).2 : Nat) : Int) - (((spn h l old size).1 : Nat) : Int))) (by omega) (by omega), wrap_nat (by omega),
        show (((freshTo h old size l).length : Nat) : Int) + ((((spn h l old size).2 : Nat) : Int) - (((spn h l old size).1 : Nat) : Int)) = (((freshTo h old size (l + 1)).length : Nat) : Int) by omega]
      exact ih (l + 1) w1 (by omega) (by omega) (k0.none_trans k1)

  exact first (48 / h + 1) 0 w0 (by omega) (by simp [freshTo]) (Chg.refl _ _)

theorem all_word {Q : Value → World → Prop} {h size : Int} {w0 : World}
    (harg : ¬ (1 ≤ h ∧ h ≤ 8 ∧ 0 ≤ size ∧ size ≤ 281474976710656) → ∀ w', Chg None w0 w' → Q (.tuple #[.slice none 0 0, .int .i64 1]) w')
    (hlong : (1 ≤ h ∧ h ≤ 8 ∧ 0 ≤ size ∧ size ≤ 281474976710656) → 65536 < (freshL h.toNat 0 size.toNat).length → ∀ w', Chg None w0 w' → Q (.tuple #[.slice none 0 0, .int .i64 2]) w')
    (hok : (1 ≤ h ∧ h ≤ 8 ∧ 0 ≤ size ∧ size ≤ 281474976710656) → ∀ (l : List Tl), l = freshL h.toNat 0 size.toNat → l.length ≤ 65536 → ∀ a c w', Own w' 49 5 a l.length c (tvs l) → (∀ k, At a k → w0.heap.size ≤ k) → Chg None w0 w' → Q (.tuple #[.slice a l.length c, .int .i64 0]) w') :
    C_tile_All #[.int .i64 h, .int .i64 size] w0 Q := by
  refine C_tile_All_eq _ _ _ _ (fresh_word (fun g w' k => ⟨rfl, ⟨rfl, harg (by omega) w' k⟩⟩) (fun g hm w' k => ⟨rfl, ⟨rfl, hlong (by omega) hm w' k⟩⟩) fun g l hl hm a c w' o f k => ⟨rfl, ⟨rfl, hok (by omega) l hl hm a c w' o f k⟩⟩)
end Go.Proofs.Ytccjncflbbhldaa
