/- Level 2: tests, reads and stores at an Int's place; lists of byte slices that share; what stands apart. -/
import Derived.Test.YtbckabomelngmaaDoorShL4
namespace Go.Sh
open Go.ChangeShapes
variable {P : Program}

section
variable {X Y : Prop}
theorem c_t {b : Bool} (h : b = true) (hx : X) : cond b X Y := by subst h; exact hx
theorem c_f {b : Bool} (h : b = false) (hy : Y) : cond b X Y := by subst h; exact hy
theorem c_lt {a b : Int} (h : a < b) (hx : X) : cond (decide (a < b)) X Y := by rw [decide_eq_true h]; exact hx
theorem c_nlt {a b : Int} (h : b ≤ a) (hy : Y) : cond (decide (a < b)) X Y := by rw [decide_eq_false (by omega)]; exact hy
theorem c_gt {a b : Int} (h : b < a) (hx : X) : cond (decide (a > b)) X Y := by rw [decide_eq_true h]; exact hx
theorem c_ngt {a b : Int} (h : a ≤ b) (hy : Y) : cond (decide (a > b)) X Y := by rw [decide_eq_false (by omega)]; exact hy
theorem c_le {a b : Int} (h : a ≤ b) (hx : X) : cond (decide (a ≤ b)) X Y := by rw [decide_eq_true h]; exact hx
theorem c_nle {a b : Int} (h : b < a) (hy : Y) : cond (decide (a ≤ b)) X Y := by rw [decide_eq_false (by omega)]; exact hy
theorem c_ge {a b : Int} (h : b ≤ a) (hx : X) : cond (decide (a ≥ b)) X Y := by rw [decide_eq_true h]; exact hx
theorem c_nge {a b : Int} (h : a < b) (hy : Y) : cond (decide (a ≥ b)) X Y := by rw [decide_eq_false (by omega)]; exact hy
theorem c_eq {a b : Int} (h : a = b) (hx : X) : cond (a == b) X Y := by subst h; rw [beq_self_eq_true]; exact hx
theorem c_neq {a b : Int} (h : a ≠ b) (hy : Y) : cond (a == b) X Y := by rw [beq_eq_false_iff_ne.2 h]; exact hy
theorem c_ne {a b : Int} (h : a ≠ b) (hx : X) : cond (a != b) X Y := by rw [bne_iff_ne.2 h]; exact hx
theorem c_nne {a b : Int} (h : a = b) (hy : Y) : cond (a != b) X Y := by subst h; rw [bne_self_eq_false]; exact hy
theorem c_str_ne {a b : List UInt8} (h : a = b) (hy : Y) : cond (!((⟨a.toArray⟩ : ByteArray).toList == (⟨b.toArray⟩ : ByteArray).toList)) X Y := by subst h; rw [beq_self_eq_true]; exact hy
theorem c_not_true {b : Bool} (h : b = true) (hy : Y) : cond (!b) X Y := by subst h; exact hy
theorem c_not_false {b : Bool} (h : b = false) (hx : X) : cond (!b) X Y := by subst h; exact hx
end

theorem drw_s {w : World} {K : World → Prop} : drw w K = K w.drew := rfl
theorem opnN_more {k x : Value} {A : Prop} {B : Value → Value → Prop} : opnN (.tuple #[.bool true, k, x]) A B = B k x := rfl
theorem opnN_end {A : Prop} {B : Value → Value → Prop} : opnN (.tuple #[.bool false]) A B = A := rfl
theorem opnL_s {a : Option Addr} {n c : Nat} {K : Option Addr → Nat → Nat → Prop} : opnL (some (.slice a n c)) K = K a n c := rfl
theorem opnI_s {k : IntKind} {n : Int} {K : Int → Prop} (h : K n) : opnI k (some (.int k n)) K := ⟨rfl, h⟩
theorem opnB_s {b : Bool} {K : Bool → Prop} : opnB (some (.bool b)) K = K b := rfl
theorem opnS_s {b : ByteArray} {K : ByteArray → Prop} : opnS (some (.string b)) K = K b := rfl
theorem opnP_s {a : Option Addr} {K : Option Addr → Prop} : opnP (some (.pointer a)) K = K a := rfl
theorem opnT_s {cs : Array Value} {K : Array Value → Prop} : opnT (some (.tuple cs)) K = K cs := rfl
theorem opnG_s {cs : Array Value} {K : Array Value → Prop} : opnG (some (.agg cs)) K = K cs := rfl

theorem set_mid {α : Type} (a b : List α) (x v : α) : (a ++ x :: b).set a.length v = a ++ v :: b := by
  rw [List.set_append_right _ _ (Nat.le_refl _), Nat.sub_self, List.set_cons_zero]

theorem set_mid' {α : Type} {a b : List α} {x v : α} {i : Nat} (h : a.length = i) : (a ++ x :: b).set i v = a ++ v :: b := by subst h; exact set_mid a b x v

theorem wrap_len {α : Type} {done : List α} {x : α} (h : done.length < 9223372036854775807) : IntKind.wrap .i64 (((done.length : Nat) : Int) + 1) = (((done ++ [x]).length : Nat) : Int) := by
  rw [wrap_nat h, List.length_append]; rfl

section
variable {w w' : World} {S : Nat → Prop} {a : Option Addr}
theorem Lies.some {l : List Value} (h : Lies w S a l) {j : Nat} (hj : j < l.length) : ∃ p, a = some p := by
  obtain ⟨p, h1, _⟩ := h j l[j] (List.getElem?_eq_getElem hj)
  exact ⟨p, h1⟩
theorem rd_byte {l : List UInt8} (h : Lies w S a (bvs l)) {i : Int} {x : UInt8} (hx : l[i.toNat]? = .some x) {K : Int → Prop} (hK : K (x.toNat : Int)) : opnA a fun ad => opnI .u8 (w.cell? (ad.add (Int.toNat i * 1))) K := by
  obtain ⟨hj, rfl⟩ := List.getElem?_eq_some_iff.1 hx
  exact read_byte h hj hK
theorem rd_rec {rs : List (List UInt8)} (h : Recs w S a rs) {i : Int} {r : List UInt8} (hx : rs[i.toNat]? = .some r) {K : Option Addr → Nat → Nat → Prop} (hK : ∀ q c, r.length ≤ c → Lies w S q (bvs r) → K q r.length c) : opnA a fun ad => opnL (w.cell? (ad.add (Int.toNat i * 1))) K := read_rec h hx hK
theorem st_own {e n c : Nat} {l : List Value} (h : Own w e 1 a n c l) {i : Int} (hi : i.toNat < n) {v : Value} (hv : v.oneCell' = true) {K : World → Prop} (hK : ∀ w', Own w' e 1 a n c (l.set i.toNat v) → Chg (At a) w w' → K w') : opnA a fun ad => stC (ad.add (Int.toNat i * 1)) v w K := store_own h hi hv hK
theorem Own.some {e n c : Nat} {l : List Value} (h : Own w e 1 a n c l) (hn : 0 < n) : ∃ b, a = .some ⟨b, 0, .none⟩ := by
  rcases h.row with ⟨_, h2, _⟩ | ⟨b, _, h1, _⟩
  · omega
  · exact ⟨b, h1⟩
theorem Own.at_lt {e sz n c : Nat} {l : List Value} (h : Own w e sz a n c l) : ∀ k, At a k → k < w.heap.size := fun _ hk => h.lt hk
/-- a cell of one's own, read -/
theorem Own.cell {e n c : Nat} {l : List Value} (h : Own w e 1 a n c l) {j : Nat} {v : Value} (hv : l[j]? = .some v) : ∃ p, a = .some p ∧ w.cell? (p.add j) = .some v := by
  obtain ⟨p, h1, _, h3⟩ := h.lies j v hv
  exact ⟨p, h1, h3⟩
theorem slA_zero (a : Option Addr) (m sz : Nat) : slA a 0 m sz = a := by
  unfold slA
  split
  · rfl
  · cases a <;> simp [Addr.add]
end


/-- s[lo:] and s[:k], of bytes -/
theorem Lies.dropB {w : World} {S : Nat → Prop} {a : Option Addr} {l : List UInt8} (h : Lies w S a (bvs l)) {lo m : Nat} (hm : l.length ≤ m) : Lies w S (Sh.slA a lo m 1) (bvs (l.drop lo)) := by
  have h1 := h.slA lo m
  split at h1
  · rename_i e
    have : l.drop lo = [] := List.drop_eq_nil_of_le (by omega)
    rw [this]; exact Lies.nil
  · rw [bvs, List.map_drop]; exact h1
theorem Lies.takeB {w : World} {S : Nat → Prop} {a : Option Addr} {l : List UInt8} (h : Lies w S a (bvs l)) (k : Nat) : Lies w S a (bvs (l.take k)) := by
  rw [bvs, List.map_take]; exact h.take k
/-- append(nil, ..) -/
theorem append_none {t tx ty e sz by_ : Nat} (T : SlT P t e sz by_) {w : World} {x : Value} {m : Nat} {news : List Value} (hs : Src P sz tx x m news w) (h63 : m ≤ maxLen) (hb : m * by_ ≤ 140737488355328) {K : Value → World → Prop}
    (hK : ∀ a' c' w', Own w' e sz a' m c' news → Chg None w w' → (∀ k, At a' k → w.heap.size ≤ k) → K (.slice a' m c') w') :
    sem P (Builtin.append_ #[t, tx] ty #[.slice none 0 0, x]) w K := by
  refine append_own' T (Own.nil (e := e) (sz := sz)) hs (by omega) (by rw [Nat.zero_add]; exact hb) fun a' c' w' o k f => ?_
  rw [Nat.zero_add] at o ⊢
  refine hK a' c' w' o (k.mono fun x _ hx => by obtain ⟨_, hx, _⟩ := hx; cases hx) ?_
  rcases f with rfl | ⟨b, rfl, hb, _⟩
  · rintro k ⟨p, hp, _⟩; cases hp
  · rintro k ⟨p, hp, rfl⟩; cases hp; exact hb

/-! ### a list of byte slices, whose elements lie in blocks of E -/
structure Lst (w : World) (t : Nat) (E : Nat → Prop) (a : Option Addr) (n c : Nat) (rs : List (List UInt8)) : Prop where
  own : ∃ vals, Own w t 1 a n c vals ∧ vals.length = rs.length ∧ ∀ (j : Nat) (r : List UInt8), rs[j]? = some r → ∃ q cq, vals[j]? = some (.slice q r.length cq) ∧ r.length ≤ cq ∧ Lies w E q (bvs r)
  apart : ∀ k, E k → ¬ At a k ∧ k < w.heap.size
section
variable {w w' : World} {t : Nat} {E : Nat → Prop} {a : Option Addr} {n c : Nat} {rs : List (List UInt8)}
theorem Lst.len (h : Lst w t E a n c rs) : rs.length = n := by
  obtain ⟨vals, h1, h2, _⟩ := h.own
  have := h1.len
  omega
theorem Lst.nil (hE : ∀ k, E k → k < w.heap.size) : Lst w t E .none 0 0 [] := ⟨⟨[], Own.nil, rfl, fun j r h => by simp at h⟩, fun k hk => ⟨(by rintro ⟨p, hp, _⟩; cases hp), hE k hk⟩⟩
theorem Lst.at_lt (h : Lst w t E a n c rs) : ∀ k, At a k → k < w.heap.size := fun k hk => by
  obtain ⟨vals, h1, _⟩ := h.own
  exact h1.lt hk
theorem Lst.chg {D : Nat → Prop} (h : Lst w t E a n c rs) (k : Chg D w w') (h1 : ∀ x, At a x → ¬ D x) (h2 : ∀ x, E x → ¬ D x) : Lst w' t E a n c rs := by
  obtain ⟨vals, g1, g2, g3⟩ := h.own
  refine ⟨⟨vals, g1.chg k h1, g2, fun j r hj => ?_⟩, fun x hx => ⟨(h.apart x hx).1, Nat.lt_of_lt_of_le (h.apart x hx).2 k.size⟩⟩
  obtain ⟨q, cq, k1, k2, k3⟩ := g3 j r hj
  exact ⟨q, cq, k1, k2, k3.chg k fun x _ hx => h2 x hx⟩
theorem Lst.chg0 (h : Lst w t E a n c rs) (k : Chg None w w') : Lst w' t E a n c rs := h.chg k (fun _ _ h => h) (fun _ _ h => h)
theorem Lst.recs (h : Lst w t E a n c rs) : Recs w (fun k => E k ∨ At a k) a rs := by
  intro j r hj
  obtain ⟨vals, g1, _, g3⟩ := h.own
  obtain ⟨q, cq, k1, k2, k3⟩ := g3 j r hj
  obtain ⟨p, p1, p2, p3⟩ := g1.lies j _ k1
  exact ⟨p, q, cq, p1, .inr p2, p3, k2, k3.mono fun k hk => .inl hk⟩
theorem Lst.more {E' : Nat → Prop} (h : Lst w t E a n c rs) (hE : ∀ k, E k → E' k) (hE' : ∀ k, E' k → ¬ At a k ∧ k < w.heap.size) : Lst w t E' a n c rs := by
  obtain ⟨vals, g1, g2, g3⟩ := h.own
  refine ⟨⟨vals, g1, g2, fun j r hj => ?_⟩, hE'⟩
  obtain ⟨q, cq, k1, k2, k3⟩ := g3 j r hj
  exact ⟨q, cq, k1, k2, k3.mono hE⟩
/-- One more. -/
theorem lst_push {tl : Nat} (T : SlT P tl t 1 24) (h : Lst w t E a n c rs) {q : Option Addr} {r : List UInt8} {cq : Nat} (hq : Lies w E q (bvs r)) (hr : r.length ≤ cq) (hn : (n + 1) * 24 ≤ 140737488355328) {K : Option Addr → Nat → Nat → World → Prop}
    (hK : ∀ a' c' w', Lst w' t E a' (n + 1) c' (rs ++ [r]) → Chg (At a) w w' → (a' = a ∨ ∃ b, a' = some ⟨b, 0, .none⟩ ∧ w.heap.size ≤ b) → K a' (n + 1) c' w') :
    alC #[.slice q r.length cq] t w fun p w2 => sem P (Builtin.append_ #[tl, tl] tl #[.slice a n c, .slice (some p) 1 1]) w2 fun v w3 => opnL (some v) fun x xn xc => K x xn xc w3 := by
  obtain ⟨vals, g1, g2, g3⟩ := h.own
  unfold alC
  have ka : Chg None w (w.alloc (.cells #[.slice q r.length cq] t)) := chg_alloc w _
  have hs : Src P 1 tl (.slice (some ⟨w.heap.size, 0, .none⟩) 1 1) 1 [.slice q r.length cq] (w.alloc (.cells #[.slice q r.length cq] t)) :=
    src_two (vs := [.slice q r.length cq]) T.ht rfl (by intro u hu; simp at hu; subst hu; rfl)
  refine append_own T (w := w.alloc (.cells #[.slice q r.length cq] t)) (g1.chg0 ka) hs (by simp only [maxLen]; omega) hn fun a' c' w' o k3 f => ?_
  have hsz := ka.size
  have kk : Chg (At a) w w' := Chg.trans ka k3 (fun _ _ h => h.elim) (fun _ _ h => h)
  have hnew : a' = a ∨ ∃ b, a' = some ⟨b, 0, .none⟩ ∧ w.heap.size ≤ b := by
    rcases f with rfl | ⟨b, rfl, hb⟩
    · exact .inl rfl
    · exact .inr ⟨b, rfl, Nat.le_trans hsz hb⟩
  refine hK a' c' w' ⟨⟨_, o, by simp [g2], fun j r' hj => ?_⟩, fun x hx => ⟨fun hx' => ?_, Nat.lt_of_lt_of_le (h.apart x hx).2 kk.size⟩⟩ kk hnew
  · rcases Nat.lt_or_ge j rs.length with hjl | hjl
    · rw [List.getElem?_append_left hjl] at hj
      obtain ⟨q', cq', k1, k2, k3⟩ := g3 j r' hj
      exact ⟨q', cq', by rw [List.getElem?_append_left (by omega)]; exact k1, k2, k3.chg kk fun x _ hx => (h.apart x hx).1⟩
    · rw [List.getElem?_append_right hjl] at hj
      have : j - rs.length = 0 := by
        have := (List.getElem?_eq_some_iff.1 hj).1
        simp at this; omega
      rw [this] at hj
      cases hj
      exact ⟨q, cq, by rw [List.getElem?_append_right (by omega), show j - vals.length = 0 by omega]; rfl, hr, hq.chg kk fun x _ hx => (h.apart x hx).1⟩
  · rcases hnew with rfl | ⟨b, rfl, hb⟩
    · exact (h.apart x hx).1 hx'
    · obtain ⟨p, hp, rfl⟩ := hx'; cases hp
      have := (h.apart _ hx).2
      simp only at this; omega
end


theorem u8w (n : Nat) : IntKind.wrap .u8 (n : Int) = ((UInt8.ofNat n).toNat : Int) := by
  have := u8_eq n
  simp only [bv, Value.int.injEq, true_and] at this
  exact this.symm
theorem rd_own_slice {w : World} {e n c : Nat} {a : Option Addr} {vals : List Value} (h : Own w e 1 a n c vals) {i : Int} {q : Option Addr} {m cq : Nat} (hv : vals[i.toNat]? = some (.slice q m cq)) {K : Option Addr → Nat → Nat → Prop} (hK : K q m cq) : opnA a fun ad => opnL (w.cell? (ad.add (Int.toNat i * 1))) K := by
  obtain ⟨p, rfl, hc⟩ := h.cell hv
  simp only [opnA, Nat.mul_one, hc, opnL]
  exact hK
theorem Lies.bound {w : World} {S : Nat → Prop} {a : Option Addr} {l : List Value} (h : Lies w S a l) : Lies w (fun k => S k ∧ k < w.heap.size) a l := fun j v hj => by
  obtain ⟨p, g1, g2, g3⟩ := h j v hj
  exact ⟨p, g1, ⟨g2, by have := World.block_lt_of_cell? _ _ g3; rwa [block_add] at this⟩, g3⟩
theorem nodup_map_on {α β : Type} {f : α → β} {l : List α} (hf : ∀ x ∈ l, ∀ y ∈ l, f x = f y → x = y) (h : l.Nodup) : (l.map f).Nodup := by
  rw [List.Nodup, List.pairwise_map]
  exact List.Pairwise.imp_of_mem (fun {x y} hx hy hne e => hne (hf x hx y hy e)) h
theorem Recs.bound {w : World} {S : Nat → Prop} {a : Option Addr} {rs : List (List UInt8)} (h : Recs w S a rs) : Recs w (fun k => S k ∧ k < w.heap.size) a rs := fun j r hj => by
  obtain ⟨p, q, c, h1, h2, h3, h4, h5⟩ := h j r hj
  refine ⟨p, q, c, h1, ⟨h2, ?_⟩, h3, h4, fun i v hi => ?_⟩
  · have := World.block_lt_of_cell? _ _ h3; rwa [block_add] at this
  · obtain ⟨p', g1, g2, g3⟩ := h5 i v hi
    exact ⟨p', g1, ⟨g2, by have := World.block_lt_of_cell? _ _ g3; rwa [block_add] at this⟩, g3⟩

/-! ### things that stand apart -/
structure HP where
  holds : World → Prop
  foot : Nat → Prop
structure HP.Ok (P : HP) : Prop where
  keep : ∀ {D : Nat → Prop} {w w' : World}, P.holds w → Chg D w w' → (∀ k, P.foot k → ¬ D k) → P.holds w'
  lt : ∀ {w : World}, P.holds w → ∀ k, P.foot k → k < w.heap.size
structure Sep (w : World) (l : List HP) : Prop where
  ok : ∀ p ∈ l, p.Ok
  holds : ∀ p ∈ l, p.holds w
  apart : l.Pairwise fun p q => ∀ k, p.foot k → ¬ q.foot k
def hOwn (e sz : Nat) (a : Option Addr) (n c : Nat) (l : List Value) : HP := ⟨fun w => Own w e sz a n c l, At a⟩
theorem hOwn.ok {e sz n c : Nat} {a : Option Addr} {l : List Value} : (hOwn e sz a n c l).Ok := ⟨fun h k hd => Own.chg h k hd, fun h _ hk => Own.lt h hk⟩
def hRecs (F : Nat → Prop) (a : Option Addr) (rs : List (List UInt8)) : HP := ⟨fun w => Recs w F a rs ∧ ∀ k, F k → k < w.heap.size, F⟩
theorem hRecs.ok {F : Nat → Prop} {a : Option Addr} {rs : List (List UInt8)} : (hRecs F a rs).Ok := ⟨fun h k hd => ⟨h.1.chg k fun x _ hx => hd x hx, fun x hx => Nat.lt_of_lt_of_le (h.2 x hx) k.size⟩, fun h => h.2⟩
section
variable {w w' : World}
theorem Sep.nil : Sep w [] := ⟨by simp, by simp, .nil⟩
theorem Sep.get {l r : List HP} {p : HP} (h : Sep w (l ++ p :: r)) : p.holds w := h.holds p (by simp)
theorem Sep.mem {l : List HP} {p : HP} (h : Sep w l) (hp : p ∈ l) : p.holds w := h.holds p hp
/-- What is done to one of them and to new memory. -/
theorem Sep.step {l r : List HP} {p : HP} (h : Sep w (l ++ p :: r)) (k : Chg p.foot w w') {p' : HP} (ok : p'.Ok) (hp : p'.holds w') (hf : ∀ x, p'.foot x → p.foot x ∨ w.heap.size ≤ x) : Sep w' (l ++ p' :: r) := by
  have h1 := h.ok
  have h2 := h.holds
  have h3 := h.apart
  rw [List.pairwise_append, List.pairwise_cons] at h3
  obtain ⟨a1, ⟨a2, a3⟩, a4⟩ := h3
  have hl : ∀ q ∈ l, ∀ x, q.foot x → ¬ p.foot x := fun q hq => a4 q hq p (by simp)
  have hr : ∀ q ∈ r, ∀ x, q.foot x → ¬ p.foot x := fun q hq x hx hx' => a2 q hq x hx' hx
  have lt : ∀ q ∈ l ++ p :: r, ∀ x, q.foot x → x < w.heap.size := fun q hq => (h1 q hq).lt (h2 q hq)
  refine ⟨fun q hq => ?_, fun q hq => ?_, ?_⟩
  · simp only [List.mem_append, List.mem_cons] at hq
    rcases hq with hq | rfl | hq
    · exact h1 q (by simp [hq])
    · exact ok
    · exact h1 q (by simp [hq])
  · simp only [List.mem_append, List.mem_cons] at hq
    rcases hq with hq | rfl | hq
    · exact (h1 q (by simp [hq])).keep (h2 q (by simp [hq])) k (hl q hq)
    · exact hp
    · exact (h1 q (by simp [hq])).keep (h2 q (by simp [hq])) k (hr q hq)
  · rw [List.pairwise_append, List.pairwise_cons]
    refine ⟨a1, ⟨fun q hq x hx hx' => ?_, a3⟩, fun q hq q' hq' => ?_⟩
    · rcases hf x hx with h | h
      · exact hr q hq x hx' h
      · have := lt q (by simp [hq]) x hx'; omega
    · rcases List.mem_cons.1 hq' with rfl | hq'
      · intro x hx hx'
        rcases hf x hx' with h | h
        · exact hl q hq x hx h
        · have := lt q (by simp [hq]) x hx; omega
      · exact a4 q hq q' (by simp [hq'])
/-- One more, of new memory. -/
theorem Sep.push {l : List HP} (h : Sep w l) (k : Chg None w w') {p' : HP} (ok : p'.Ok) (hp : p'.holds w') (hf : ∀ x, p'.foot x → w.heap.size ≤ x) : Sep w' (l ++ [p']) := by
  refine ⟨fun q hq => ?_, fun q hq => ?_, List.pairwise_append.2 ⟨h.apart, by simp, fun q hq q' hq' x hx hx' => ?_⟩⟩
  · rcases List.mem_append.1 hq with hq | hq
    · exact h.ok q hq
    · simp at hq; subst hq; exact ok
  · rcases List.mem_append.1 hq with hq | hq
    · exact (h.ok q hq).keep (h.holds q hq) k (fun _ _ h => h)
    · simp at hq; subst hq; exact hp
  · simp at hq'; subst hq'
    have := (h.ok q hq).lt (h.holds q hq) x hx
    have := hf x hx'
    omega
theorem Sep.chg {l : List HP} {D : Nat → Prop} (h : Sep w l) (k : Chg D w w') (hd : ∀ p ∈ l, ∀ x, p.foot x → ¬ D x) : Sep w' l := ⟨h.ok, fun q hq => (h.ok q hq).keep (h.holds q hq) k (hd q hq), h.apart⟩
theorem Sep.chg0 {l : List HP} (h : Sep w l) (k : Chg None w w') : Sep w' l := h.chg k fun _ _ _ _ h => h
theorem Sep.perm {l l' : List HP} (h : Sep w l) (hp : l.Perm l') : Sep w l' :=
  ⟨fun q hq => h.ok q (hp.mem_iff.2 hq), fun q hq => h.holds q (hp.mem_iff.2 hq), (hp.pairwise_iff fun {_ _} h k hq hp => h k hp hq).1 h.apart⟩
theorem Sep.sub {l l' : List HP} (h : Sep w l) (hs : l'.Sublist l) : Sep w l' :=
  ⟨fun q hq => h.ok q (hs.subset hq), fun q hq => h.holds q (hs.subset hq), h.apart.sublist hs⟩
theorem Parts.sep {B e2 e1 n c : Nat} {a : Option Addr} {ps : List Part} (h : Parts w B e2 e1 a n c ps) : Sep w (hOwn e2 1 a n c (ps.map pv) :: ps.map fun x => hOwn e1 1 x.1 x.2.2.length x.2.1 (bvs x.2.2)) := by
  refine ⟨fun q hq => ?_, fun q hq => ?_, ?_⟩
  · rcases List.mem_cons.1 hq with rfl | hq
    · exact hOwn.ok
    · obtain ⟨x, _, rfl⟩ := List.mem_map.1 hq; exact hOwn.ok
  · rcases List.mem_cons.1 hq with rfl | hq
    · exact h.own
    · obtain ⟨x, hx, rfl⟩ := List.mem_map.1 hq; exact (h.each x hx).1
  · rw [List.pairwise_cons, List.pairwise_map]
    refine ⟨fun q hq k hk hk' => ?_, h.apart⟩
    obtain ⟨x, hx, rfl⟩ := List.mem_map.1 hq
    exact ((h.each x hx).2 k hk').2 hk
end
end Go.Sh
