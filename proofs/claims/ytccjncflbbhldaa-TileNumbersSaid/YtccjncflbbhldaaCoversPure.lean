/- Tiles: All holds each node once; Fresh is what All has more. Plain. -/
import Derived.Test.YtccjncflbbhldaaTiles
set_option maxRecDepth 10000
namespace Go.Proofs.Ytccjncflbbhldaa
open Go.Sh

def tl (h l size n : Nat) : Tl := ⟨h, l, n, wid h l n size, false⟩
theorem lvl_eq (h l old size : Nat) : lvl h l old size = (List.range' (spn h l old size).1 ((spn h l old size).2 - (spn h l old size).1)).map (tl h l size) := by
  rw [lvl, List.range'_eq_map_range, List.map_map]; rfl
theorem lt_ceil {c p i : Nat} (hp : 0 < p) : i < (c + p - 1) / p ↔ i * p < c := by
  have h := Nat.le_div_iff_mul_le hp (x := i + 1) (y := c + p - 1)
  rw [Nat.add_mul, Nat.one_mul] at h
  generalize i * p = m at *
  constructor
  · intro g; have := h.1 g; omega
  · intro g; exact h.2 (by omega)
/-- the tiles of a level -/
def num (h l size : Nat) : Nat := (cnt h l size + 2 ^ h - 1) / 2 ^ h
theorem spn_zero (h l size : Nat) : spn h l 0 size = (0, num h l size) := by
  have hp := pow_pos2 h
  have h0 : cnt h l 0 = 0 := Nat.zero_div _
  unfold spn num
  rw [h0]
  split
  · rename_i e
    rw [← e, Nat.zero_add, Nat.div_eq_of_lt (by omega)]
  · rw [Nat.zero_div]
theorem lvl_zero (h l size : Nat) : lvl h l 0 size = (List.range' 0 (num h l size)).map (tl h l size) := by rw [lvl_eq, spn_zero]; rfl
theorem wid_eq {h l n size : Nat} (hl : l ≤ 48 / h) (hn : n < num h l size) : wid h l n size = min (cnt h l size - n * 2 ^ h) (2 ^ h) := by
  have h1 := (lt_ceil (pow_pos2 h)).1 hn
  have h2 : n ≤ cnt h l size / 2 ^ h := (Nat.le_div_iff_mul_le (pow_pos2 h)).2 (by omega)
  rw [wid, if_neg (by omega), if_neg (by omega)]
theorem cnt_zero_of {h l size : Nat} (hs : size < 600) (hl : 10 ≤ h * l) : cnt h l size = 0 := by
  unfold cnt
  apply Nat.div_eq_of_lt
  have : 2 ^ 10 ≤ 2 ^ (h * l) := Nat.pow_le_pow_right (by decide) hl
  omega

/-- what covered answers -/
def covV (h level : Int) (p : Int) : List Tl → Int → Int
  | [], n => n
  | t :: r, n => if t.L ≠ level then covV h level p r n else if t.H ≠ h ∨ IntKind.wrap .i64 (t.N * p) ≠ n ∨ t.W < 1 ∨ p < t.W ∨ t.D = true then -1 else covV h level p r (IntKind.wrap .i64 (n + t.W))
theorem covV_skip {h level p : Int} : ∀ {l r : List Tl} {n : Int}, (∀ t ∈ l, t.L ≠ level) → covV h level p (l ++ r) n = covV h level p r n
  | [], _, _, _ => rfl
  | t :: l, r, n, hl => by
    rw [List.cons_append, covV, if_pos (hl t List.mem_cons_self)]
    exact covV_skip fun x hx => hl x (List.mem_cons_of_mem _ hx)
theorem covV_lvl {h l size : Nat} (h8 : h ≤ 8) (hl : l ≤ 48 / h) (hs : size ≤ 281474976710656) {r : List Tl} : ∀ (m i : Nat), i + m = num h l size → covV h l ((2 ^ h : Nat) : Int) ((List.range' i m).map (tl h l size) ++ r) ((min (cnt h l size) (i * 2 ^ h) : Nat) : Int) = covV h l ((2 ^ h : Nat) : Int) r ((cnt h l size : Nat) : Int)
  | 0, i, hi => by
    have hp := pow_pos2 h
    have : ¬ i * 2 ^ h < cnt h l size := fun g => by have := (lt_ceil hp).2 g; rw [← num] at this; omega
    simp only [List.range'_zero, List.map_nil, List.nil_append]
    rw [Nat.min_eq_left (by omega)]
  | m + 1, i, hi => by
    have hp := pow_pos2 h
    have hp8 := pow_le h h8
    have hw := wid_eq hl (by omega : i < num h l size)
    have hc := cnt_le h l size
    have h1 : i * 2 ^ h < cnt h l size := (lt_ceil hp).1 (by rw [← num]; omega)
    have e1 : (i + 1) * 2 ^ h = i * 2 ^ h + 2 ^ h := by rw [Nat.add_mul, Nat.one_mul]
    rw [List.range'_succ, List.map_cons, List.cons_append, covV, if_neg (by simp [tl])]
    have ew : IntKind.wrap .i64 ((tl h l size i).N * ((2 ^ h : Nat) : Int)) = ((i * 2 ^ h : Nat) : Int) := by
      rw [show (tl h l size i).N * ((2 ^ h : Nat) : Int) = ((i * 2 ^ h : Nat) : Int) by simp [tl]]
      exact wrap_id (by omega) (by omega)
    rw [if_neg (by
      rw [ew]
      simp only [tl, hw]
      rintro (g | g | g | g | g)
      · exact g rfl
      · omega
      · omega
      · omega
      · cases g)]
    rw [show (tl h l size i).W = ((wid h l i size : Nat) : Int) from rfl, hw, wrap_id (by omega) (by omega),
      show ((min (cnt h l size) (i * 2 ^ h) : Nat) : Int) + ((min (cnt h l size - i * 2 ^ h) (2 ^ h) : Nat) : Int) = ((min (cnt h l size) ((i + 1) * 2 ^ h) : Nat) : Int) by rw [e1]; omega]
    exact covV_lvl h8 hl hs m (i + 1) (by omega)
theorem covV_to {h size level : Nat} (h8 : h ≤ 8) (hs : size ≤ 281474976710656) : ∀ (m : Nat), m ≤ 48 / h + 1 → covV h level ((2 ^ h : Nat) : Int) (freshTo h 0 size m) 0 = if level < m then ((cnt h level size : Nat) : Int) else 0
  | 0, _ => by simp [freshTo, covV]
  | m + 1, hm => by
    have ih := covV_to (level := level) h8 hs m (by omega)
    have app : ∀ (l r : List Tl) (n : Int), (∀ t ∈ r, t.L ≠ level) → covV h level ((2 ^ h : Nat) : Int) (l ++ r) n = covV h level ((2 ^ h : Nat) : Int) l n := by
      intro l
      induction l with
      | nil => intro r n hr; rw [List.nil_append]; have := covV_skip (h := h) (level := level) (p := ((2 ^ h : Nat) : Int)) (r := []) (n := n) hr; rwa [List.append_nil] at this
      | cons t l ihl => intro r n hr; simp only [List.cons_append, covV]; split; exact ihl r n hr; split; rfl; exact ihl r _ hr
    rw [freshTo_succ]
    by_cases hlm : level = m
    · subst hlm
      rw [if_pos (by omega), covV_skip, lvl_zero]
      · have := covV_lvl h8 (by omega : level ≤ 48 / h) hs (r := []) (num h level size) 0 (by omega)
        rw [List.append_nil, Nat.zero_mul, Nat.min_eq_right (Nat.zero_le _)] at this
        exact this
      · intro t ht
        simp only [freshTo, List.mem_flatMap, List.mem_range] at ht
        obtain ⟨l, hl, ht⟩ := ht
        rw [lvl_zero] at ht
        obtain ⟨n, _, rfl⟩ := List.mem_map.1 ht
        simp only [tl]; omega
    · rw [app _ _ _ (fun t ht => by
        rw [lvl_zero] at ht
        obtain ⟨n, _, rfl⟩ := List.mem_map.1 ht
        simp only [tl]; omega), ih]
      by_cases g : level < m
      · rw [if_pos g, if_pos (by omega)]
      · rw [if_neg g, if_neg (by omega)]

/-! ### sums -/
def sumW : List Tl → Int
  | [] => 0
  | t :: r => t.W + sumW r
theorem sumW_app (a b : List Tl) : sumW (a ++ b) = sumW a + sumW b := by
  induction a with
  | nil => simp [sumW]
  | cons t a ih => simp only [List.cons_append, sumW, ih]; omega
theorem sumW_lvl {h l size : Nat} (hl : l ≤ 48 / h) : ∀ (m i : Nat), i + m = num h l size → sumW ((List.range' i m).map (tl h l size)) = ((cnt h l size - min (cnt h l size) (i * 2 ^ h) : Nat) : Int)
  | 0, i, hi => by
    have hp := pow_pos2 h
    have : ¬ i * 2 ^ h < cnt h l size := fun g => by have := (lt_ceil hp).2 g; rw [← num] at this; omega
    simp only [List.range'_zero, List.map_nil, sumW]; omega
  | m + 1, i, hi => by
    have hp := pow_pos2 h
    have hw := wid_eq hl (by omega : i < num h l size)
    have h1 : i * 2 ^ h < cnt h l size := (lt_ceil hp).1 (by rw [← num]; omega)
    have e1 : (i + 1) * 2 ^ h = i * 2 ^ h + 2 ^ h := by rw [Nat.add_mul, Nat.one_mul]
    rw [List.range'_succ, List.map_cons, sumW, sumW_lvl hl m (i + 1) (by omega), show (tl h l size i).W = ((wid h l i size : Nat) : Int) from rfl, hw, e1]
    omega
def tot (h size : Nat) : Nat → Nat
  | 0 => 0
  | m + 1 => tot h size m + cnt h m size
theorem sumW_to {h size : Nat} : ∀ (m : Nat), m ≤ 48 / h + 1 → sumW (freshTo h 0 size m) = ((tot h size m : Nat) : Int)
  | 0, _ => rfl
  | m + 1, hm => by
    have := sumW_lvl (h := h) (l := m) (size := size) (by omega) (num h m size) 0 (by omega)
    rw [freshTo_succ, sumW_app, sumW_to m (by omega), lvl_zero, this, tot, Nat.zero_mul]
    omega
theorem tot_le {h size : Nat} : ∀ m, tot h size m ≤ m * size
  | 0 => by simp [tot]
  | m + 1 => by have := tot_le (h := h) (size := size) m; have := cnt_le h m size; rw [tot, Nat.add_mul]; omega
theorem tot_stop {h size m : Nat} (hz : cnt h m size = 0) (h1 : 1 ≤ h) : ∀ k, tot h size (m + k) = tot h size m
  | 0 => rfl
  | k + 1 => by
    have e : cnt h (m + k) size = 0 := by
      unfold cnt at hz ⊢
      have h2 : 2 ^ (h * m) ≤ 2 ^ (h * (m + k)) := Nat.pow_le_pow_right (by decide) (Nat.mul_le_mul_left _ (by omega))
      have h3 := Nat.div_le_div_left h2 (pow_pos2 (h * m)) (a := size)
      rw [hz] at h3
      exact Nat.le_zero.1 h3
    rw [← Nat.add_assoc, tot, tot_stop hz h1 k, e]; rfl

/-! ### in order -/
def before (t u : Tl) : Prop := t.L < u.L ∨ t.L = u.L ∧ t.N < u.N
theorem fresh_sorted (h old size m : Nat) : (freshTo h old size m).Pairwise before := by
  unfold freshTo
  rw [List.pairwise_flatMap]
  refine ⟨fun l _ => ?_, ?_⟩
  · rw [lvl_eq, List.pairwise_map]
    refine List.Pairwise.imp ?_ (List.pairwise_lt_range' (step := 1) (by decide))
    intro a b hab
    exact .inr ⟨rfl, by simp only [tl]; omega⟩
  · refine List.Pairwise.imp ?_ List.pairwise_lt_range
    intro a b hab x hx y hy
    rw [lvl_eq] at hx hy
    obtain ⟨i, _, rfl⟩ := List.mem_map.1 hx
    obtain ⟨j, _, rfl⟩ := List.mem_map.1 hy
    exact .inl (by simp only [tl]; omega)

/-! ### what is new -/
theorem flatMap_congr' {α β : Type} {l : List α} {f g : α → List β} (h : ∀ x ∈ l, f x = g x) : l.flatMap f = l.flatMap g := by simp only [List.flatMap]; rw [List.map_congr_left h]
theorem mem_all {h l size old n : Nat} (hl : l ≤ 48 / h) : tl h l size n ∈ freshL h 0 old ↔ n < num h l old ∧ wid h l n old = wid h l n size := by
  unfold freshL freshTo
  simp only [List.mem_flatMap, List.mem_range]
  constructor
  · rintro ⟨l', _, hm⟩
    rw [lvl_zero] at hm
    obtain ⟨i, hi, he⟩ := List.mem_map.1 hm
    simp only [tl, Tl.mk.injEq] at he
    obtain ⟨_, e1, e2, e3, _⟩ := he
    have e1 : l' = l := by omega
    have e2 : i = n := by omega
    subst e1; subst e2
    simp only [List.mem_range'_1] at hi
    exact ⟨by omega, by omega⟩
  · rintro ⟨h1, h2⟩
    refine ⟨l, by omega, ?_⟩
    rw [lvl_zero]
    refine List.mem_map.2 ⟨n, by simp; omega, ?_⟩
    simp only [tl, h2]
theorem filter_new {h old size : Nat} (ho : old ≤ size) : (freshL h 0 size).filter (fun t => decide (t ∉ freshL h 0 old)) = freshL h old size := by
  rw [show freshL h 0 size = (List.range (48 / h + 1)).flatMap (fun l => lvl h l 0 size) from rfl, show freshL h old size = (List.range (48 / h + 1)).flatMap (fun l => lvl h l old size) from rfl, List.filter_flatMap]
  refine flatMap_congr' fun l hl => ?_
  have hl : l ≤ 48 / h := by simp at hl; omega
  have hp := pow_pos2 h
  have hco : cnt h l old ≤ cnt h l size := Nat.div_le_div_right ho
  have hno : num h l old ≤ num h l size := Nat.div_le_div_right (by omega)
  rw [lvl_zero, lvl_eq]
  by_cases he : cnt h l old = cnt h l size
  · rw [spn, if_pos he, Nat.sub_zero]
    simp only [List.range'_zero, List.map_nil]
    rw [List.filter_eq_nil_iff]
    intro t ht
    obtain ⟨n, hn, rfl⟩ := List.mem_map.1 ht
    have hn' : n < num h l size := by simp at hn; omega
    have en : num h l old = num h l size := by rw [num, num, he]
    have : tl h l size n ∈ freshL h 0 old := (mem_all hl).2 ⟨by omega, by rw [wid_eq hl (by omega), wid_eq hl hn', he]⟩
    simp [this]
  · rw [spn, if_neg he]
    show _ = (List.range' (cnt h l old / 2 ^ h) (num h l size - cnt h l old / 2 ^ h)).map (tl h l size)
    have hk : cnt h l old / 2 ^ h ≤ num h l size := by
      rw [num]; exact Nat.div_le_div_right (by omega)
    have hsplit : List.range' 0 (num h l size) = List.range' 0 (cnt h l old / 2 ^ h) ++ List.range' (cnt h l old / 2 ^ h) (num h l size - cnt h l old / 2 ^ h) := by
      have := List.range'_append (s := 0) (m := cnt h l old / 2 ^ h) (n := num h l size - cnt h l old / 2 ^ h) (step := 1)
      rw [Nat.one_mul, Nat.zero_add] at this
      rw [this]; congr 1; omega
    rw [hsplit, List.map_append, List.filter_append]
    have a1 : ((List.range' 0 (cnt h l old / 2 ^ h)).map (tl h l size)).filter (fun t => decide (t ∉ freshL h 0 old)) = [] := by
      rw [List.filter_eq_nil_iff]
      intro t ht
      obtain ⟨n, hn, rfl⟩ := List.mem_map.1 ht
      have hn' : n < cnt h l old / 2 ^ h := by simp at hn; omega
      have h2 := (Nat.le_div_iff_mul_le hp).1 (show n + 1 ≤ cnt h l old / 2 ^ h from hn')
      rw [Nat.add_mul, Nat.one_mul] at h2
      have hn1 : n < num h l old := (lt_ceil hp).2 (by omega)
      have : tl h l size n ∈ freshL h 0 old := (mem_all hl).2 ⟨hn1, by rw [wid_eq hl hn1, wid_eq hl (by omega)]; omega⟩
      simp [this]
    have a2 : ((List.range' (cnt h l old / 2 ^ h) (num h l size - cnt h l old / 2 ^ h)).map (tl h l size)).filter (fun t => decide (t ∉ freshL h 0 old)) = (List.range' (cnt h l old / 2 ^ h) (num h l size - cnt h l old / 2 ^ h)).map (tl h l size) := by
      rw [List.filter_eq_self]
      intro t ht
      obtain ⟨n, hn, rfl⟩ := List.mem_map.1 ht
      simp only [List.mem_range'_1] at hn
      have hn2 : n < num h l size := by omega
      have h2 := Nat.lt_mul_div_succ (cnt h l old) hp
      have h3 : n * 2 ^ h ≥ (cnt h l old / 2 ^ h) * 2 ^ h := Nat.mul_le_mul_right _ hn.1
      have h4 : (cnt h l old / 2 ^ h) * 2 ^ h ≤ cnt h l old := Nat.div_mul_le_self _ _
      have h5 : n * 2 ^ h < cnt h l size := (lt_ceil hp).1 hn2
      rw [Nat.mul_add, Nat.mul_one, Nat.mul_comm] at h2
      simp only [decide_eq_true_eq]
      intro hm
      obtain ⟨g1, g2⟩ := (mem_all hl).1 hm
      rw [wid_eq hl g1, wid_eq hl hn2] at g2
      omega
    rw [a1, a2, List.nil_append]
end Go.Proofs.Ytccjncflbbhldaa
