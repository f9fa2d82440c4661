/- ShL6, ShM1, ShU1, ShL9, ShU2, DkModel, ShL8, ShL10, ShL14, ShL15, ShM2, ShL20, ShT, DkMem, DkLay, ShF0 -/
import Derived.Test.YtfjhhpoabdpdhaaGreatDoorPkA
import Derived.MapKept
import Derived.Laws.IdiomRangeMap
import Derived.Lib.SpaceU
import Derived.Laws.RangeString
import Derived.Lib.Strings
import Derived.Laws.StructEq
import Derived.ChangeKeysEq
import Derived.Laws.Tables
import Derived.Laws.Pointers
import Derived.Lib.SliceRun
import Derived.Lib.AppendZeros
import Derived.Deep.Upon
import Derived.Test.YtfjhhpoabdpdhaaGreatDoorProg
import Derived.KernelRfl
import Derived.Shelf.Strings.Prefix
import Derived.Shelf.Strings.Split
/-! ## ShL6 -/
namespace Go.Sh
open Go.ChangeShapes
variable {P : Program}

section
variable {X Y : Prop}
theorem c_t {b : Bool} (h : b = true) (hx : X) : cond b X Y := by subst h; exact hx
theorem c_f {b : Bool} (h : b = false) (hy : Y) : cond b X Y := by subst h; exact hy
theorem c_lt {a b : Int} (h : a < b) (hx : X) : cond (decide (a < b)) X Y := by rw [decide_eq_true h]; exact hx
theorem c_nlt {a b : Int} (h : b ≤ a) (hy : Y) : cond (decide (a < b)) X Y := by rw [decide_eq_false (by omega)]; exact hy
theorem c_gt {a b : Int} (h : b < a) (hx : X) : cond (decide (a > b)) X Y := by rw [decide_eq_true h]; exact hx
theorem c_ngt {a b : Int} (h : a ≤ b) (hy : Y) : cond (decide (a > b)) X Y := by rw [decide_eq_false (by omega)]; exact hy
theorem c_le {a b : Int} (h : a ≤ b) (hx : X) : cond (decide (a ≤ b)) X Y := by rw [decide_eq_true h]; exact hx
theorem c_nle {a b : Int} (h : b < a) (hy : Y) : cond (decide (a ≤ b)) X Y := by rw [decide_eq_false (by omega)]; exact hy
theorem c_ge {a b : Int} (h : b ≤ a) (hx : X) : cond (decide (a ≥ b)) X Y := by rw [decide_eq_true h]; exact hx
theorem c_nge {a b : Int} (h : a < b) (hy : Y) : cond (decide (a ≥ b)) X Y := by rw [decide_eq_false (by omega)]; exact hy
theorem c_eq {a b : Int} (h : a = b) (hx : X) : cond (a == b) X Y := by subst h; rw [beq_self_eq_true]; exact hx
theorem c_neq {a b : Int} (h : a ≠ b) (hy : Y) : cond (a == b) X Y := by rw [beq_eq_false_iff_ne.2 h]; exact hy
theorem c_ne {a b : Int} (h : a ≠ b) (hx : X) : cond (a != b) X Y := by rw [bne_iff_ne.2 h]; exact hx
theorem c_nne {a b : Int} (h : a = b) (hy : Y) : cond (a != b) X Y := by subst h; rw [bne_self_eq_false]; exact hy
theorem c_str_ne {a b : List UInt8} (h : a = b) (hy : Y) : cond (!((⟨a.toArray⟩ : ByteArray).toList == (⟨b.toArray⟩ : ByteArray).toList)) X Y := by subst h; rw [beq_self_eq_true]; exact hy
theorem c_not_true {b : Bool} (h : b = true) (hy : Y) : cond (!b) X Y := by subst h; exact hy
theorem c_not_false {b : Bool} (h : b = false) (hx : X) : cond (!b) X Y := by subst h; exact hx
end

theorem drw_s {w : World} {K : World → Prop} : drw w K = K w.drew := rfl
theorem opnN_more {k x : Value} {A : Prop} {B : Value → Value → Prop} : opnN (.tuple #[.bool true, k, x]) A B = B k x := rfl
theorem opnN_end {A : Prop} {B : Value → Value → Prop} : opnN (.tuple #[.bool false]) A B = A := rfl
theorem opnL_s {a : Option Addr} {n c : Nat} {K : Option Addr → Nat → Nat → Prop} : opnL (some (.slice a n c)) K = K a n c := rfl
theorem opnI_s {k : IntKind} {n : Int} {K : Int → Prop} (h : K n) : opnI k (some (.int k n)) K := ⟨rfl, h⟩
theorem opnB_s {b : Bool} {K : Bool → Prop} : opnB (some (.bool b)) K = K b := rfl
theorem opnS_s {b : ByteArray} {K : ByteArray → Prop} : opnS (some (.string b)) K = K b := rfl
theorem opnP_s {a : Option Addr} {K : Option Addr → Prop} : opnP (some (.pointer a)) K = K a := rfl
theorem opnT_s {cs : Array Value} {K : Array Value → Prop} : opnT (some (.tuple cs)) K = K cs := rfl
theorem opnG_s {cs : Array Value} {K : Array Value → Prop} : opnG (some (.agg cs)) K = K cs := rfl

theorem set_mid {α : Type} (a b : List α) (x v : α) : (a ++ x :: b).set a.length v = a ++ v :: b := by
  rw [List.set_append_right _ _ (Nat.le_refl _), Nat.sub_self, List.set_cons_zero]

theorem set_mid' {α : Type} {a b : List α} {x v : α} {i : Nat} (h : a.length = i) : (a ++ x :: b).set i v = a ++ v :: b := by subst h; exact set_mid a b x v

theorem wrap_len {α : Type} {done : List α} {x : α} (h : done.length < 9223372036854775807) : IntKind.wrap .i64 (((done.length : Nat) : Int) + 1) = (((done ++ [x]).length : Nat) : Int) := by
  rw [wrap_nat h, List.length_append]; rfl

section
variable {w w' : World} {S : Nat → Prop} {a : Option Addr}
theorem Lies.some {l : List Value} (h : Lies w S a l) {j : Nat} (hj : j < l.length) : ∃ p, a = some p := by
  obtain ⟨p, h1, _⟩ := h j l[j] (List.getElem?_eq_getElem hj)
  exact ⟨p, h1⟩
theorem rd_byte {l : List UInt8} (h : Lies w S a (bvs l)) {i : Int} {x : UInt8} (hx : l[i.toNat]? = .some x) {K : Int → Prop} (hK : K (x.toNat : Int)) : opnA a fun ad => opnI .u8 (w.cell? (ad.add (Int.toNat i * 1))) K := by
  obtain ⟨hj, rfl⟩ := List.getElem?_eq_some_iff.1 hx
  exact read_byte h hj hK
theorem rd_rec {rs : List (List UInt8)} (h : Recs w S a rs) {i : Int} {r : List UInt8} (hx : rs[i.toNat]? = .some r) {K : Option Addr → Nat → Nat → Prop} (hK : ∀ q c, r.length ≤ c → Lies w S q (bvs r) → K q r.length c) : opnA a fun ad => opnL (w.cell? (ad.add (Int.toNat i * 1))) K := read_rec h hx hK
theorem st_own {e n c : Nat} {l : List Value} (h : Own w e 1 a n c l) {i : Int} (hi : i.toNat < n) {v : Value} (hv : v.oneCell' = true) {K : World → Prop} (hK : ∀ w', Own w' e 1 a n c (l.set i.toNat v) → Chg (At a) w w' → K w') : opnA a fun ad => stC (ad.add (Int.toNat i * 1)) v w K := store_own h hi hv hK
theorem Own.some {e n c : Nat} {l : List Value} (h : Own w e 1 a n c l) (hn : 0 < n) : ∃ b, a = .some ⟨b, 0, .none⟩ := by
  rcases h.row with ⟨_, h2, _⟩ | ⟨b, _, h1, _⟩
  · omega
  · exact ⟨b, h1⟩
theorem Own.at_lt {e sz n c : Nat} {l : List Value} (h : Own w e sz a n c l) : ∀ k, At a k → k < w.heap.size := fun _ hk => h.lt hk
/-- a cell of one's own, read -/
theorem Own.cell {e n c : Nat} {l : List Value} (h : Own w e 1 a n c l) {j : Nat} {v : Value} (hv : l[j]? = .some v) : ∃ p, a = .some p ∧ w.cell? (p.add j) = .some v := by
  obtain ⟨p, h1, _, h3⟩ := h.lies j v hv
  exact ⟨p, h1, h3⟩
theorem slA_zero (a : Option Addr) (m sz : Nat) : slA a 0 m sz = a := by
  unfold slA
  split
  · rfl
  · cases a <;> simp [Addr.add]
end


/-- s[lo:] and s[:k], of bytes -/
theorem Lies.dropB {w : World} {S : Nat → Prop} {a : Option Addr} {l : List UInt8} (h : Lies w S a (bvs l)) {lo m : Nat} (hm : l.length ≤ m) : Lies w S (Sh.slA a lo m 1) (bvs (l.drop lo)) := by
  have h1 := h.slA lo m
  split at h1
  · rename_i e
    have : l.drop lo = [] := List.drop_eq_nil_of_le (by omega)
    rw [this]; exact Lies.nil
  · rw [bvs, List.map_drop]; exact h1
theorem Lies.takeB {w : World} {S : Nat → Prop} {a : Option Addr} {l : List UInt8} (h : Lies w S a (bvs l)) (k : Nat) : Lies w S a (bvs (l.take k)) := by
  rw [bvs, List.map_take]; exact h.take k
/-- append(nil, ..) -/
theorem append_none {t tx ty e sz by_ : Nat} (T : SlT P t e sz by_) {w : World} {x : Value} {m : Nat} {news : List Value} (hs : Src P sz tx x m news w) (h63 : m ≤ maxLen) (hb : m * by_ ≤ 140737488355328) {K : Value → World → Prop}
    (hK : ∀ a' c' w', Own w' e sz a' m c' news → Chg None w w' → (∀ k, At a' k → w.heap.size ≤ k) → K (.slice a' m c') w') :
    sem P (Builtin.append_ #[t, tx] ty #[.slice none 0 0, x]) w K := by
  refine append_own' T (Own.nil (e := e) (sz := sz)) hs (by omega) (by rw [Nat.zero_add]; exact hb) fun a' c' w' o k f => ?_
  rw [Nat.zero_add] at o ⊢
  refine hK a' c' w' o (k.mono fun x _ hx => by obtain ⟨_, hx, _⟩ := hx; cases hx) ?_
  rcases f with rfl | ⟨b, rfl, hb, _⟩
  · rintro k ⟨p, hp, _⟩; cases hp
  · rintro k ⟨p, hp, rfl⟩; cases hp; exact hb

/-! ### a list of byte slices, whose elements lie in blocks of E -/
structure Lst (w : World) (t : Nat) (E : Nat → Prop) (a : Option Addr) (n c : Nat) (rs : List (List UInt8)) : Prop where
  own : ∃ vals, Own w t 1 a n c vals ∧ vals.length = rs.length ∧ ∀ (j : Nat) (r : List UInt8), rs[j]? = some r → ∃ q cq, vals[j]? = some (.slice q r.length cq) ∧ r.length ≤ cq ∧ Lies w E q (bvs r)
  apart : ∀ k, E k → ¬ At a k ∧ k < w.heap.size
section
variable {w w' : World} {t : Nat} {E : Nat → Prop} {a : Option Addr} {n c : Nat} {rs : List (List UInt8)}
theorem Lst.len (h : Lst w t E a n c rs) : rs.length = n := by
  obtain ⟨vals, h1, h2, _⟩ := h.own
  have := h1.len
  omega
theorem Lst.nil (hE : ∀ k, E k → k < w.heap.size) : Lst w t E .none 0 0 [] := ⟨⟨[], Own.nil, rfl, fun j r h => by simp at h⟩, fun k hk => ⟨(by rintro ⟨p, hp, _⟩; cases hp), hE k hk⟩⟩
theorem Lst.at_lt (h : Lst w t E a n c rs) : ∀ k, At a k → k < w.heap.size := fun k hk => by
  obtain ⟨vals, h1, _⟩ := h.own
  exact h1.lt hk
theorem Lst.chg {D : Nat → Prop} (h : Lst w t E a n c rs) (k : Chg D w w') (h1 : ∀ x, At a x → ¬ D x) (h2 : ∀ x, E x → ¬ D x) : Lst w' t E a n c rs := by
  obtain ⟨vals, g1, g2, g3⟩ := h.own
  refine ⟨⟨vals, g1.chg k h1, g2, fun j r hj => ?_⟩, fun x hx => ⟨(h.apart x hx).1, Nat.lt_of_lt_of_le (h.apart x hx).2 k.size⟩⟩
  obtain ⟨q, cq, k1, k2, k3⟩ := g3 j r hj
  exact ⟨q, cq, k1, k2, k3.chg k fun x _ hx => h2 x hx⟩
theorem Lst.chg0 (h : Lst w t E a n c rs) (k : Chg None w w') : Lst w' t E a n c rs := h.chg k (fun _ _ h => h) (fun _ _ h => h)
theorem Lst.recs (h : Lst w t E a n c rs) : Recs w (fun k => E k ∨ At a k) a rs := by
  intro j r hj
  obtain ⟨vals, g1, _, g3⟩ := h.own
  obtain ⟨q, cq, k1, k2, k3⟩ := g3 j r hj
  obtain ⟨p, p1, p2, p3⟩ := g1.lies j _ k1
  exact ⟨p, q, cq, p1, .inr p2, p3, k2, k3.mono fun k hk => .inl hk⟩
theorem Lst.more {E' : Nat → Prop} (h : Lst w t E a n c rs) (hE : ∀ k, E k → E' k) (hE' : ∀ k, E' k → ¬ At a k ∧ k < w.heap.size) : Lst w t E' a n c rs := by
  obtain ⟨vals, g1, g2, g3⟩ := h.own
  refine ⟨⟨vals, g1, g2, fun j r hj => ?_⟩, hE'⟩
  obtain ⟨q, cq, k1, k2, k3⟩ := g3 j r hj
  exact ⟨q, cq, k1, k2, k3.mono hE⟩
/-- One more. -/
theorem lst_push {tl : Nat} (T : SlT P tl t 1 24) (h : Lst w t E a n c rs) {q : Option Addr} {r : List UInt8} {cq : Nat} (hq : Lies w E q (bvs r)) (hr : r.length ≤ cq) (hn : (n + 1) * 24 ≤ 140737488355328) {K : Option Addr → Nat → Nat → World → Prop}
    (hK : ∀ a' c' w', Lst w' t E a' (n + 1) c' (rs ++ [r]) → Chg (At a) w w' → (a' = a ∨ ∃ b, a' = some ⟨b, 0, .none⟩ ∧ w.heap.size ≤ b) → K a' (n + 1) c' w') :
    alC #[.slice q r.length cq] t w fun p w2 => sem P (Builtin.append_ #[tl, tl] tl #[.slice a n c, .slice (some p) 1 1]) w2 fun v w3 => opnL (some v) fun x xn xc => K x xn xc w3 := by
  obtain ⟨vals, g1, g2, g3⟩ := h.own
  unfold alC
  have ka : Chg None w (w.alloc (.cells #[.slice q r.length cq] t)) := chg_alloc w _
  have hs : Src P 1 tl (.slice (some ⟨w.heap.size, 0, .none⟩) 1 1) 1 [.slice q r.length cq] (w.alloc (.cells #[.slice q r.length cq] t)) :=
    src_two (vs := [.slice q r.length cq]) T.ht rfl (by intro u hu; simp at hu; subst hu; rfl)
  refine append_own T (w := w.alloc (.cells #[.slice q r.length cq] t)) (g1.chg0 ka) hs (by simp only [maxLen]; omega) hn fun a' c' w' o k3 f => ?_
  have hsz := ka.size
  have kk : Chg (At a) w w' := Chg.trans ka k3 (fun _ _ h => h.elim) (fun _ _ h => h)
  have hnew : a' = a ∨ ∃ b, a' = some ⟨b, 0, .none⟩ ∧ w.heap.size ≤ b := by
    rcases f with rfl | ⟨b, rfl, hb⟩
    · exact .inl rfl
    · exact .inr ⟨b, rfl, Nat.le_trans hsz hb⟩
  refine hK a' c' w' ⟨⟨_, o, by simp [g2], fun j r' hj => ?_⟩, fun x hx => ⟨fun hx' => ?_, Nat.lt_of_lt_of_le (h.apart x hx).2 kk.size⟩⟩ kk hnew
  · rcases Nat.lt_or_ge j rs.length with hjl | hjl
    · rw [List.getElem?_append_left hjl] at hj
      obtain ⟨q', cq', k1, k2, k3⟩ := g3 j r' hj
      exact ⟨q', cq', by rw [List.getElem?_append_left (by omega)]; exact k1, k2, k3.chg kk fun x _ hx => (h.apart x hx).1⟩
    · rw [List.getElem?_append_right hjl] at hj
      have : j - rs.length = 0 := by
        have := (List.getElem?_eq_some_iff.1 hj).1
        simp at this; omega
      rw [this] at hj
      cases hj
      exact ⟨q, cq, by rw [List.getElem?_append_right (by omega), show j - vals.length = 0 by omega]; rfl, hr, hq.chg kk fun x _ hx => (h.apart x hx).1⟩
  · rcases hnew with rfl | ⟨b, rfl, hb⟩
    · exact (h.apart x hx).1 hx'
    · obtain ⟨p, hp, rfl⟩ := hx'; cases hp
      have := (h.apart _ hx).2
      simp only at this; omega
end


theorem u8w (n : Nat) : IntKind.wrap .u8 (n : Int) = ((UInt8.ofNat n).toNat : Int) := by
  have := u8_eq n
  simp only [bv, Value.int.injEq, true_and] at this
  exact this.symm
theorem rd_own_slice {w : World} {e n c : Nat} {a : Option Addr} {vals : List Value} (h : Own w e 1 a n c vals) {i : Int} {q : Option Addr} {m cq : Nat} (hv : vals[i.toNat]? = some (.slice q m cq)) {K : Option Addr → Nat → Nat → Prop} (hK : K q m cq) : opnA a fun ad => opnL (w.cell? (ad.add (Int.toNat i * 1))) K := by
  obtain ⟨p, rfl, hc⟩ := h.cell hv
  simp only [opnA, Nat.mul_one, hc, opnL]
  exact hK
theorem Lies.bound {w : World} {S : Nat → Prop} {a : Option Addr} {l : List Value} (h : Lies w S a l) : Lies w (fun k => S k ∧ k < w.heap.size) a l := fun j v hj => by
  obtain ⟨p, g1, g2, g3⟩ := h j v hj
  exact ⟨p, g1, ⟨g2, by have := World.block_lt_of_cell? _ _ g3; rwa [block_add] at this⟩, g3⟩
theorem nodup_map_on {α β : Type} {f : α → β} {l : List α} (hf : ∀ x ∈ l, ∀ y ∈ l, f x = f y → x = y) (h : l.Nodup) : (l.map f).Nodup := by
  rw [List.Nodup, List.pairwise_map]
  exact List.Pairwise.imp_of_mem (fun {x y} hx hy hne e => hne (hf x hx y hy e)) h
theorem Recs.bound {w : World} {S : Nat → Prop} {a : Option Addr} {rs : List (List UInt8)} (h : Recs w S a rs) : Recs w (fun k => S k ∧ k < w.heap.size) a rs := fun j r hj => by
  obtain ⟨p, q, c, h1, h2, h3, h4, h5⟩ := h j r hj
  refine ⟨p, q, c, h1, ⟨h2, ?_⟩, h3, h4, fun i v hi => ?_⟩
  · have := World.block_lt_of_cell? _ _ h3; rwa [block_add] at this
  · obtain ⟨p', g1, g2, g3⟩ := h5 i v hi
    exact ⟨p', g1, ⟨g2, by have := World.block_lt_of_cell? _ _ g3; rwa [block_add] at this⟩, g3⟩

/-! ### things that stand apart -/
structure HP where
  holds : World → Prop
  foot : Nat → Prop
structure HP.Ok (P : HP) : Prop where
  keep : ∀ {D : Nat → Prop} {w w' : World}, P.holds w → Chg D w w' → (∀ k, P.foot k → ¬ D k) → P.holds w'
  lt : ∀ {w : World}, P.holds w → ∀ k, P.foot k → k < w.heap.size
structure Sep (w : World) (l : List HP) : Prop where
  ok : ∀ p ∈ l, p.Ok
  holds : ∀ p ∈ l, p.holds w
  apart : l.Pairwise fun p q => ∀ k, p.foot k → ¬ q.foot k
def hOwn (e sz : Nat) (a : Option Addr) (n c : Nat) (l : List Value) : HP := ⟨fun w => Own w e sz a n c l, At a⟩
theorem hOwn.ok {e sz n c : Nat} {a : Option Addr} {l : List Value} : (hOwn e sz a n c l).Ok := ⟨fun h k hd => Own.chg h k hd, fun h _ hk => Own.lt h hk⟩
def hRecs (F : Nat → Prop) (a : Option Addr) (rs : List (List UInt8)) : HP := ⟨fun w => Recs w F a rs ∧ ∀ k, F k → k < w.heap.size, F⟩
theorem hRecs.ok {F : Nat → Prop} {a : Option Addr} {rs : List (List UInt8)} : (hRecs F a rs).Ok := ⟨fun h k hd => ⟨h.1.chg k fun x _ hx => hd x hx, fun x hx => Nat.lt_of_lt_of_le (h.2 x hx) k.size⟩, fun h => h.2⟩
section
variable {w w' : World}
theorem Sep.nil : Sep w [] := ⟨by simp, by simp, .nil⟩
theorem Sep.get {l r : List HP} {p : HP} (h : Sep w (l ++ p :: r)) : p.holds w := h.holds p (by simp)
theorem Sep.mem {l : List HP} {p : HP} (h : Sep w l) (hp : p ∈ l) : p.holds w := h.holds p hp
/-- What is done to one of them and to new memory. -/
theorem Sep.step {l r : List HP} {p : HP} (h : Sep w (l ++ p :: r)) (k : Chg p.foot w w') {p' : HP} (ok : p'.Ok) (hp : p'.holds w') (hf : ∀ x, p'.foot x → p.foot x ∨ w.heap.size ≤ x) : Sep w' (l ++ p' :: r) := by
  have h1 := h.ok
  have h2 := h.holds
  have h3 := h.apart
  rw [List.pairwise_append, List.pairwise_cons] at h3
  obtain ⟨a1, ⟨a2, a3⟩, a4⟩ := h3
  have hl : ∀ q ∈ l, ∀ x, q.foot x → ¬ p.foot x := fun q hq => a4 q hq p (by simp)
  have hr : ∀ q ∈ r, ∀ x, q.foot x → ¬ p.foot x := fun q hq x hx hx' => a2 q hq x hx' hx
  have lt : ∀ q ∈ l ++ p :: r, ∀ x, q.foot x → x < w.heap.size := fun q hq => (h1 q hq).lt (h2 q hq)
  refine ⟨fun q hq => ?_, fun q hq => ?_, ?_⟩
  · simp only [List.mem_append, List.mem_cons] at hq
    rcases hq with hq | rfl | hq
    · exact h1 q (by simp [hq])
    · exact ok
    · exact h1 q (by simp [hq])
  · simp only [List.mem_append, List.mem_cons] at hq
    rcases hq with hq | rfl | hq
    · exact (h1 q (by simp [hq])).keep (h2 q (by simp [hq])) k (hl q hq)
    · exact hp
    · exact (h1 q (by simp [hq])).keep (h2 q (by simp [hq])) k (hr q hq)
  · rw [List.pairwise_append, List.pairwise_cons]
    refine ⟨a1, ⟨fun q hq x hx hx' => ?_, a3⟩, fun q hq q' hq' => ?_⟩
    · rcases hf x hx with h | h
      · exact hr q hq x hx' h
      · have := lt q (by simp [hq]) x hx'; omega
    · rcases List.mem_cons.1 hq' with rfl | hq'
      · intro x hx hx'
        rcases hf x hx' with h | h
        · exact hl q hq x hx h
        · have := lt q (by simp [hq]) x hx; omega
      · exact a4 q hq q' (by simp [hq'])
/-- One more, of new memory. -/
theorem Sep.push {l : List HP} (h : Sep w l) (k : Chg None w w') {p' : HP} (ok : p'.Ok) (hp : p'.holds w') (hf : ∀ x, p'.foot x → w.heap.size ≤ x) : Sep w' (l ++ [p']) := by
  refine ⟨fun q hq => ?_, fun q hq => ?_, List.pairwise_append.2 ⟨h.apart, by simp, fun q hq q' hq' x hx hx' => ?_⟩⟩
  · rcases List.mem_append.1 hq with hq | hq
    · exact h.ok q hq
    · simp at hq; subst hq; exact ok
  · rcases List.mem_append.1 hq with hq | hq
    · exact (h.ok q hq).keep (h.holds q hq) k (fun _ _ h => h)
    · simp at hq; subst hq; exact hp
  · simp at hq'; subst hq'
    have := (h.ok q hq).lt (h.holds q hq) x hx
    have := hf x hx'
    omega
theorem Sep.chg {l : List HP} {D : Nat → Prop} (h : Sep w l) (k : Chg D w w') (hd : ∀ p ∈ l, ∀ x, p.foot x → ¬ D x) : Sep w' l := ⟨h.ok, fun q hq => (h.ok q hq).keep (h.holds q hq) k (hd q hq), h.apart⟩
theorem Sep.chg0 {l : List HP} (h : Sep w l) (k : Chg None w w') : Sep w' l := h.chg k fun _ _ _ _ h => h
theorem Sep.perm {l l' : List HP} (h : Sep w l) (hp : l.Perm l') : Sep w l' :=
  ⟨fun q hq => h.ok q (hp.mem_iff.2 hq), fun q hq => h.holds q (hp.mem_iff.2 hq), (hp.pairwise_iff fun {_ _} h k hq hp => h k hp hq).1 h.apart⟩
theorem Sep.sub {l l' : List HP} (h : Sep w l) (hs : l'.Sublist l) : Sep w l' :=
  ⟨fun q hq => h.ok q (hs.subset hq), fun q hq => h.holds q (hs.subset hq), h.apart.sublist hs⟩
theorem Parts.sep {B e2 e1 n c : Nat} {a : Option Addr} {ps : List Part} (h : Parts w B e2 e1 a n c ps) : Sep w (hOwn e2 1 a n c (ps.map pv) :: ps.map fun x => hOwn e1 1 x.1 x.2.2.length x.2.1 (bvs x.2.2)) := by
  refine ⟨fun q hq => ?_, fun q hq => ?_, ?_⟩
  · rcases List.mem_cons.1 hq with rfl | hq
    · exact hOwn.ok
    · obtain ⟨x, _, rfl⟩ := List.mem_map.1 hq; exact hOwn.ok
  · rcases List.mem_cons.1 hq with rfl | hq
    · exact h.own
    · obtain ⟨x, hx, rfl⟩ := List.mem_map.1 hq; exact (h.each x hx).1
  · rw [List.pairwise_cons, List.pairwise_map]
    refine ⟨fun q hq k hk hk' => ?_, h.apart⟩
    obtain ⟨x, hx, rfl⟩ := List.mem_map.1 hq
    exact ((h.each x hx).2 k hk').2 hk
end
end Go.Sh
/-! ## ShM1 -/
namespace Go.Sh
open Go.ChangeShapes Go.Instr
variable {P : Program} {κ : Type}
section
variable [DecidableEq κ]

abbrev Ent (κ : Type) := κ × Value × Nat
def ent (enc : κ → Value) (x : Ent κ) : MapEntry := { key := enc x.1, val := x.2.1, born := x.2.2 }
def kv (x : Ent κ) : κ × Value := (x.1, x.2.1)
def fnd (a : κ) : List (Ent κ) → Nat → Option (Nat × Value)
  | [], _ => none
  | x :: l, i => if x.1 = a then some (i, x.2.1) else fnd a l (i + 1)
/-- Keys of a type, as Lean's values. -/
structure KeyT (P : Program) (kt : Nat) (enc : κ → Value) : Prop where
  check : ∀ (w : World) (a : κ) (e : Bool), (checkKey e 10000 kt (enc a)).run P w = .ok () w
  find : ∀ (w : World) (a : κ) (l : List (Ent κ)), (findKey kt (enc a) (l.map (ent enc))).run P w = .ok (fnd a l 0) w
  same : ∀ a, sameBits 10000 (enc a) (enc a) = true

def look {β : Type} (a : κ) : List (κ × β) → Option β
  | [] => none
  | x :: m => if x.1 = a then some x.2 else look a m
def put {β : Type} (a : κ) (v : β) : List (κ × β) → List (κ × β)
  | [] => [(a, v)]
  | x :: m => if x.1 = a then (a, v) :: m else x :: put a v m
def del {β : Type} (a : κ) : List (κ × β) → List (κ × β)
  | [] => []
  | x :: m => if x.1 = a then m else x :: del a m

structure Mp (w : World) (enc : κ → Value) (r : Nat) (l : List (Ent κ)) (clock : Nat) : Prop where
  heap : w.heap[r]? = some (.map (l.map (ent enc)).toArray clock)
  borns : (l.map (·.2.2)).Nodup
  young : ∀ x ∈ l, x.2.2 < clock
end
/-- The map in block r: its entries, in the order in which they came. -/
structure HMap (w : World) (enc : κ → Value) (r : Nat) (m : List (κ × Value)) : Prop where
  ex : ∃ l clock, Mp w enc r l clock ∧ l.map kv = m
  keys : (m.map (·.1)).Nodup
section
variable {w w' : World} {enc : κ → Value} {r : Nat} {m : List (κ × Value)}
theorem HMap.lt (h : HMap w enc r m) : r < w.heap.size := by
  obtain ⟨l, c, h, _⟩ := h.ex
  exact (Array.getElem?_eq_some_iff.1 h.heap).1
theorem HMap.chg {D : Nat → Prop} (h : HMap w enc r m) (k : Chg D w w') (hd : ¬ D r) : HMap w' enc r m := by
  have hlt := h.lt
  obtain ⟨l, c, ⟨h1, h2, h3⟩, h4⟩ := h.ex
  exact ⟨⟨l, c, ⟨by rw [k.block r hlt hd]; exact h1, h2, h3⟩, h4⟩, h.keys⟩
theorem HMap.chg0 (h : HMap w enc r m) (k : Chg None w w') : HMap w' enc r m := h.chg k fun h => h
theorem map_made (enc : κ → Value) : HMap (w.alloc (.map #[] 0)) enc w.heap.size ([] : List (κ × Value)) := ⟨⟨[], 0, ⟨by show (w.heap.push _)[w.heap.size]? = _; simp, .nil, by simp⟩, rfl⟩, .nil⟩
theorem run_getObj {w : World} {r : Nat} {es : Array MapEntry} {c : Nat} (h : w.heap[r]? = some (.map es c)) : (getObj r).run P w = .ok (.map es c) w := by
  simp only [getObj, Sem.run_bind, Sem.run, h]
theorem map_len {t ty kt et : Nat} (ht : P.underlying t = some (.map kt et)) (h : HMap w enc r m) {K : Value → Prop} (hK : K (.int .i64 (m.length : Int))) : semR P (Builtin.len_ #[t] ty #[.map (some r)]) w K := by
  obtain ⟨l, c, ⟨h1, _, _⟩, rfl⟩ := h.ex
  unfold semR
  simp [Builtin.len_, run_underlying ht, run_getObj h1, goInt] at hK ⊢
  exact hK
variable [DecidableEq κ]

theorem fnd_look (a : κ) : ∀ (l : List (Ent κ)) (i : Nat), (fnd a l i).map (·.2) = look a (l.map kv)
  | [], _ => rfl
  | x :: l, i => by
    simp only [fnd, List.map_cons, look, kv]
    split
    · rfl
    · exact fnd_look a l (i + 1)
theorem fnd_some (a : κ) : ∀ (l : List (Ent κ)) (i j : Nat) (v : Value), fnd a l i = some (j, v) → ∃ l1 x l2, l = l1 ++ x :: l2 ∧ j = i + l1.length ∧ x.1 = a ∧ x.2.1 = v ∧ ∀ y ∈ l1, y.1 ≠ a
  | [], _, _, _, h => by cases h
  | x :: l, i, j, v, h => by
    simp only [fnd] at h
    split at h
    · rename_i hx
      cases h
      exact ⟨[], x, l, rfl, by simp, hx, rfl, by simp⟩
    · rename_i hx
      obtain ⟨l1, y, l2, rfl, rfl, h3, h4, h5⟩ := fnd_some a l (i + 1) j v h
      refine ⟨x :: l1, y, l2, rfl, by simp; omega, h3, h4, fun z hz => ?_⟩
      rcases List.mem_cons.1 hz with rfl | hz
      · exact hx
      · exact h5 z hz
theorem fnd_none (a : κ) : ∀ (l : List (Ent κ)) (i : Nat), fnd a l i = none → ∀ y ∈ l, y.1 ≠ a
  | [], _, _ => by simp
  | x :: l, i, h => by
    simp only [fnd] at h
    split at h
    · cases h
    · rename_i hx
      intro y hy
      rcases List.mem_cons.1 hy with rfl | hy
      · exact hx
      · exact fnd_none a l (i + 1) h y hy
theorem put_app {β : Type} {a : κ} {v : β} : ∀ {l1 : List (κ × β)} {x : κ × β} {l2 : List (κ × β)}, x.1 = a → (∀ y ∈ l1, y.1 ≠ a) → put a v (l1 ++ x :: l2) = l1 ++ (a, v) :: l2
  | [], x, l2, hx, _ => by simp [put, hx]
  | y :: l1, x, l2, hx, h => by
    simp only [List.cons_append, put]
    rw [if_neg (h y (by simp)), put_app hx fun z hz => h z (by simp [hz])]
theorem put_new {β : Type} {a : κ} {v : β} : ∀ {m : List (κ × β)}, (∀ y ∈ m, y.1 ≠ a) → put a v m = m ++ [(a, v)]
  | [], _ => rfl
  | y :: m, h => by
    simp only [put, List.cons_append]
    rw [if_neg (h y (by simp)), put_new fun z hz => h z (by simp [hz])]
theorem del_app {β : Type} {a : κ} : ∀ {l1 : List (κ × β)} {x : κ × β} {l2 : List (κ × β)}, x.1 = a → (∀ y ∈ l1, y.1 ≠ a) → del a (l1 ++ x :: l2) = l1 ++ l2
  | [], x, l2, hx, _ => by simp [del, hx]
  | y :: l1, x, l2, hx, h => by
    simp only [List.cons_append, del]
    rw [if_neg (h y (by simp)), del_app hx fun z hz => h z (by simp [hz])]
theorem del_none {β : Type} {a : κ} : ∀ {m : List (κ × β)}, (∀ y ∈ m, y.1 ≠ a) → del a m = m
  | [], _ => rfl
  | y :: m, h => by
    simp only [del]
    rw [if_neg (h y (by simp)), del_none fun z hz => h z (by simp [hz])]
theorem mem_put {β : Type} {a : κ} {v : β} : ∀ {m : List (κ × β)} {k : κ}, k ∈ (put a v m).map (·.1) ↔ k = a ∨ k ∈ m.map (·.1)
  | [], k => by simp [put]
  | x :: m, k => by
    simp only [put]
    split
    · rename_i hx
      simp only [List.map_cons, List.mem_cons, hx]
      constructor
      · rintro (h | h)
        · exact .inl h
        · exact .inr (.inr h)
      · rintro (h | h | h)
        · exact .inl h
        · exact .inl h
        · exact .inr h
    · have := mem_put (a := a) (v := v) (m := m) (k := k)
      simp only [List.map_cons, List.mem_cons, this]
      constructor
      · rintro (h | h | h)
        · exact .inr (.inl h)
        · exact .inl h
        · exact .inr (.inr h)
      · rintro (h | h | h)
        · exact .inr (.inl h)
        · exact .inl h
        · exact .inr (.inr h)
theorem put_nodup {β : Type} {a : κ} {v : β} : ∀ {m : List (κ × β)}, (m.map (·.1)).Nodup → ((put a v m).map (·.1)).Nodup
  | [], _ => by simp [put]
  | x :: m, h => by
    simp only [put]
    split
    · rename_i hx
      simpa [hx] using h
    · rename_i hx
      simp only [List.map_cons, List.nodup_cons] at h ⊢
      refine ⟨fun hm => ?_, put_nodup h.2⟩
      rcases mem_put.1 hm with e | e
      · exact hx e
      · exact h.1 e
theorem del_sub {β : Type} {a : κ} : ∀ {m : List (κ × β)}, (del a m).Sublist m
  | [] => List.Sublist.refl _
  | x :: m => by
    simp only [del]
    split
    · exact List.sublist_cons_self _ _
    · exact del_sub.cons_cons x
theorem del_nodup {β : Type} {a : κ} {m : List (κ × β)} (h : (m.map (·.1)).Nodup) : ((del a m).map (·.1)).Nodup := h.sublist (del_sub.map _)
theorem look_put {β : Type} {a b : κ} {v : β} : ∀ {m : List (κ × β)}, look b (put a v m) = if b = a then some v else look b m
  | [] => by
    simp only [put, look]
    by_cases h : b = a
    · subst h; simp
    · rw [if_neg (fun e => h e.symm), if_neg h]
  | x :: m => by
    simp only [put]
    split
    · rename_i hx
      simp only [look]
      by_cases h : b = a
      · subst h; simp
      · rw [if_neg (fun e => h e.symm), if_neg h, if_neg (fun e => h (e.symm.trans hx))]
    · rename_i hx
      simp only [look]
      rw [look_put]
      by_cases h : b = a
      · subst h; rw [if_neg hx, if_pos rfl, if_pos rfl]
      · rw [if_neg h, if_neg h]
theorem look_none {β : Type} {a : κ} : ∀ {m : List (κ × β)}, look a m = none ↔ a ∉ m.map (·.1)
  | [] => by simp [look]
  | x :: m => by
    simp only [look, List.map_cons, List.mem_cons, not_or]
    split
    · rename_i h; simp [h]
    · rename_i h
      rw [look_none]
      constructor
      · intro g; exact ⟨fun e => h e.symm, g⟩
      · intro g; exact g.2
theorem look_mem {β : Type} {a : κ} {v : β} : ∀ {m : List (κ × β)}, look a m = some v → (a, v) ∈ m
  | [], h => by cases h
  | x :: m, h => by
    simp only [look] at h
    split at h
    · rename_i hx; cases h; subst hx; simp
    · exact List.mem_cons_of_mem _ (look_mem h)
theorem mem_look {β : Type} {a : κ} {v : β} : ∀ {m : List (κ × β)}, (m.map (·.1)).Nodup → (a, v) ∈ m → look a m = some v
  | x :: m, hn, h => by
    simp only [List.map_cons, List.nodup_cons] at hn
    simp only [look]
    rcases List.mem_cons.1 h with rfl | h
    · rw [if_pos rfl]
    · rw [if_neg (fun e => hn.1 (by rw [e]; exact List.mem_map_of_mem (f := (·.1)) h))]
      exact mem_look hn.2 h
theorem look_del {β : Type} {a b : κ} : ∀ {m : List (κ × β)}, (m.map (·.1)).Nodup → look b (del a m) = if b = a then none else look b m
  | [], _ => by simp [del, look]
  | x :: m, hn => by
    simp only [List.map_cons, List.nodup_cons] at hn
    simp only [del]
    split
    · rename_i hx
      by_cases h : b = a
      · subst h; rw [if_pos rfl, look_none, ← hx]; exact hn.1
      · rw [if_neg h]; simp only [look]; rw [if_neg (fun e => h (e.symm.trans hx))]
    · rename_i hx
      simp only [look]
      rw [look_del hn.2]
      by_cases h : b = a
      · subst h; rw [if_neg hx, if_pos rfl, if_pos rfl]
      · rw [if_neg h, if_neg h]

/-! ### what the program's acts on a map do -/
theorem run_setObj {w : World} {r : Nat} {es : Array MapEntry} {c : Nat} {o : Obj} (h : w.heap[r]? = some (.map es c)) : (setObj r o).run P w = .ok () { w with heap := w.heap.setIfInBounds r o } := by
  simp only [setObj, Sem.run_bind, Sem.run, h]
theorem chg_set {w : World} {r : Nat} {o : Obj} : Chg (fun k => k = r) w { w with heap := w.heap.setIfInBounds r o } :=
  ⟨rfl, rfl, rfl, by simp, fun k _ hn => by show (w.heap.setIfInBounds r o)[k]? = _; rw [Array.getElem?_setIfInBounds, if_neg fun e : r = k => hn e.symm]⟩
theorem modify_mid {α : Type} (f : α → α) : ∀ (a : List α) (x : α) (b : List α), (a ++ x :: b).modify a.length f = a ++ f x :: b
  | [], x, b => rfl
  | y :: a, x, b => by simp only [List.cons_append, List.length_cons, List.modify_succ_cons, modify_mid f a x b]
theorem get_set {w : World} {r : Nat} {o : Obj} (h : r < w.heap.size) : ({ w with heap := w.heap.setIfInBounds r o } : World).heap[r]? = some o := by
  show (w.heap.setIfInBounds r o)[r]? = _
  rw [Array.getElem?_setIfInBounds]; simp [h]

theorem map_lookup {t kt et : Nat} {z : Value} (ht : P.underlying t = some (.map kt et)) (K1 : KeyT P kt enc) (hz : (P.info? et).bind (·.zero) = some z) (h : HMap w enc r m) (a : κ) {K : Value → Prop} (hK : K ((look a m).getD z)) : semR P (Instr.lookup t (.map (some r)) (enc a) false) w K := by
  obtain ⟨l, c, ⟨h1, _, _⟩, rfl⟩ := h.ex
  obtain ⟨i, hi, hz⟩ := Option.bind_eq_some_iff.1 hz
  have hzero : (zeroValue et).run P w = .ok z w := by simp [zeroValue, typeInfo, hi, hz, go_sem]
  unfold semR
  have hf := fnd_look a l 0
  cases hfd : fnd a l 0 with
  | none =>
    rw [hfd] at hf
    simp only [Option.map_none] at hf
    rw [← hf] at hK
    simp only [Instr.lookup, Sem.run_bind, run_underlying ht, Result.andThen_ok, run_getObj h1, K1.check, K1.find, hfd, hzero, Sem.run_pure]
    simpa using hK
  | some x =>
    rw [hfd] at hf
    simp only [Option.map_some] at hf
    rw [← hf] at hK
    simp only [Instr.lookup, Sem.run_bind, run_underlying ht, Result.andThen_ok, run_getObj h1, K1.check, K1.find, hfd, Sem.run_pure]
    simpa using hK
theorem map_lookup_ok {t kt et : Nat} {z : Value} (ht : P.underlying t = some (.map kt et)) (K1 : KeyT P kt enc) (hz : (P.info? et).bind (·.zero) = some z) (h : HMap w enc r m) (a : κ) {K : Value → Prop} (hK : K (.tuple #[(look a m).getD z, .bool (look a m).isSome])) : semR P (Instr.lookup t (.map (some r)) (enc a) true) w K := by
  obtain ⟨l, c, ⟨h1, _, _⟩, rfl⟩ := h.ex
  obtain ⟨i, hi, hz⟩ := Option.bind_eq_some_iff.1 hz
  have hzero : (zeroValue et).run P w = .ok z w := by simp [zeroValue, typeInfo, hi, hz, go_sem]
  unfold semR
  have hf := fnd_look a l 0
  cases hfd : fnd a l 0 with
  | none =>
    rw [hfd] at hf
    simp only [Option.map_none] at hf
    rw [← hf] at hK
    simp only [Instr.lookup, Sem.run_bind, run_underlying ht, Result.andThen_ok, run_getObj h1, K1.check, K1.find, hfd, hzero, Sem.run_pure]
    simpa using hK
  | some x =>
    rw [hfd] at hf
    simp only [Option.map_some] at hf
    rw [← hf] at hK
    simp only [Instr.lookup, Sem.run_bind, run_underlying ht, Result.andThen_ok, run_getObj h1, K1.check, K1.find, hfd, Sem.run_pure]
    simpa using hK
theorem map_update {t kt et : Nat} (ht : P.underlying t = some (.map kt et)) (K1 : KeyT P kt enc) (h : HMap w enc r m) (a : κ) (v : Value) {K : World → Prop} (hK : ∀ w', HMap w' enc r (put a v m) → Chg (fun k => k = r) w w' → K w') : semU P (Instr.mapUpdate t (.map (some r)) (enc a) v) w K := by
  have hlt := h.lt
  have hkeys := h.keys
  obtain ⟨l, c, ⟨h1, h2, h3⟩, rfl⟩ := h.ex
  unfold semU
  cases hfd : fnd a l 0 with
  | none =>
    have hno := fnd_none a l 0 hfd
    simp only [Instr.mapUpdate, Sem.run_bind, run_underlying ht, Result.andThen_ok, run_getObj h1, K1.check, K1.find, hfd, run_setObj h1]
    refine hK _ ⟨⟨l ++ [(a, v, c)], c + 1, ⟨?_, ?_, ?_⟩, ?_⟩, put_nodup hkeys⟩ chg_set
    · rw [get_set hlt]
      congr 2
      simp [ent]
    · rw [List.map_append, List.nodup_append]
      refine ⟨h2, by simp, fun x hx y hy => ?_⟩
      obtain ⟨z, hz, rfl⟩ := List.mem_map.1 hx
      simp only [List.map_cons, List.map_nil, List.mem_singleton] at hy
      have := h3 z hz
      omega
    · intro x hx
      rcases List.mem_append.1 hx with hx | hx
      · have := h3 x hx; omega
      · simp at hx; subst hx; simp
    · rw [put_new (by intro y hy; obtain ⟨z, hz, rfl⟩ := List.mem_map.1 hy; exact hno z hz)]
      simp [kv]
  | some x =>
    obtain ⟨j, v0⟩ := x
    obtain ⟨l1, x, l2, rfl, rfl, hx, rfl, hl1⟩ := fnd_some a l 0 j v0 hfd
    have hold : ((((l1 ++ x :: l2).map (ent enc)).toArray[0 + l1.length]?).map (·.key)).getD (enc a) = enc a := by
      simp [ent, hx]
    simp only [Instr.mapUpdate, Sem.run_bind, run_underlying ht, Result.andThen_ok, run_getObj h1, K1.check, K1.find, hfd, hold, keyThatStays, K1.same, if_true, Sem.run_pure, run_setObj h1]
    have hmod : (((l1 ++ x :: l2).map (ent enc)).toArray.modify (0 + l1.length) fun e => { e with key := enc a, val := v }) = ((l1 ++ (a, v, x.2.2) :: l2).map (ent enc)).toArray := by
      apply Array.ext'
      rw [Array.toList_modify]
      simp only [Nat.zero_add, List.map_append, List.map_cons]
      rw [show l1.length = (l1.map (ent enc)).length by simp, modify_mid]
      simp [ent]
    rw [hmod]
    refine hK _ ⟨⟨l1 ++ (a, v, x.2.2) :: l2, c, ⟨by rw [get_set hlt], ?_, ?_⟩, ?_⟩, put_nodup hkeys⟩ chg_set
    · simpa using h2
    · intro y hy
      simp only [List.mem_append, List.mem_cons] at hy
      rcases hy with hy | rfl | hy
      · exact h3 y (by simp [hy])
      · exact h3 x (by simp)
      · exact h3 y (by simp [hy])
    · rw [List.map_append, List.map_cons, List.map_append, List.map_cons, put_app (x := kv x) hx (by intro y hy; obtain ⟨z, hz, rfl⟩ := List.mem_map.1 hy; exact hl1 z hz)]
      rfl
theorem map_delete {t kt et ty : Nat} {k' : Nat} (ht : P.underlying t = some (.map kt et)) (K1 : KeyT P kt enc) (h : HMap w enc r m) (a : κ) {K : Value → World → Prop} (hK : ∀ w', HMap w' enc r (del a m) → Chg (fun k => k = r) w w' → K (.tuple #[]) w') : sem P (Builtin.delete_ #[t, k'] ty #[.map (some r), enc a]) w K := by
  have hlt := h.lt
  have hkeys := h.keys
  obtain ⟨l, c, ⟨h1, h2, h3⟩, rfl⟩ := h.ex
  unfold sem
  cases hfd : fnd a l 0 with
  | none =>
    have hno := fnd_none a l 0 hfd
    have e1 : (Builtin.delete_ #[t, k'] ty #[.map (some r), enc a]).run P w = .ok (.tuple #[]) { w with heap := w.heap.setIfInBounds r (.map (l.map (ent enc)).toArray c) } := by
      simp [Builtin.delete_, Sem.run_bind, run_underlying ht, run_getObj h1, K1.check, K1.find, hfd, run_setObj h1]
    rw [e1]
    refine hK _ ⟨⟨l, c, ⟨get_set hlt, h2, h3⟩, ?_⟩, del_nodup hkeys⟩ chg_set
    rw [del_none (by intro y hy; obtain ⟨z, hz, rfl⟩ := List.mem_map.1 hy; exact hno z hz)]
  | some x =>
    obtain ⟨j, v0⟩ := x
    obtain ⟨l1, x, l2, rfl, rfl, hx, rfl, hl1⟩ := fnd_some a l 0 j v0 hfd
    have hmod : (((l1 ++ x :: l2).map (ent enc)).toArray.eraseIdxIfInBounds (0 + l1.length)) = ((l1 ++ l2).map (ent enc)).toArray := by
      apply Array.ext'
      unfold Array.eraseIdxIfInBounds
      rw [dif_pos (by simp)]
      simp only [Array.toList_eraseIdx, Nat.zero_add, List.map_append, List.map_cons]
      rw [show l1.length = (l1.map (ent enc)).length by simp, List.eraseIdx_append_of_length_le (Nat.le_refl _)]
      simp
    have e1 : (Builtin.delete_ #[t, k'] ty #[.map (some r), enc a]).run P w = .ok (.tuple #[]) { w with heap := w.heap.setIfInBounds r (.map ((l1 ++ l2).map (ent enc)).toArray c) } := by
      have hfind := K1.find w a (l1 ++ x :: l2)
      rw [hfd] at hfind
      rw [← hmod]
      generalize (l1 ++ x :: l2).map (ent enc) = L at hfind h1
      simp [Builtin.delete_, Sem.run_bind, run_underlying ht, run_getObj h1, K1.check, hfind, run_setObj h1]
    rw [e1]
    refine hK _ ⟨⟨l1 ++ l2, c, ⟨get_set hlt, ?_, ?_⟩, ?_⟩, del_nodup hkeys⟩ chg_set
    · refine h2.sublist ?_
      simp
    · intro y hy
      exact h3 y (by simp only [List.mem_append, List.mem_cons] at hy ⊢; rcases hy with h | h; exact .inl h; exact .inr (.inr h))
    · rw [List.map_append, List.map_append, List.map_cons, del_app (x := kv x) hx (by intro y hy; obtain ⟨z, hz, rfl⟩ := List.mem_map.1 hy; exact hl1 z hz)]
end
end Go.Sh
/-! ## ShU1 -/
set_option maxRecDepth 10000
namespace Go.Sh
open Go.Lib (decodeL isSpaceR)

/-- the byte k of l as a number; 0 behind the end -/
def nb (l : List UInt8) (k : Nat) : Nat := (l.getD k 0).toNat
def ctB (l : List UInt8) (k : Nat) : Bool := decide (k < l.length) && nb l k / 64 == 2
theorem nb_lt (l : List UInt8) (k : Nat) : nb l k < 256 := (l.getD k 0).toNat_lt
theorem get_ba (l : List UInt8) (k : Nat) : ((⟨l.toArray⟩ : ByteArray).get! k).toNat = nb l k := by
  unfold nb
  show ((l.toArray)[k]!).toNat = _
  rw [getElem!_def]
  simp only [List.getElem?_toArray, List.getD_eq_getElem?_getD]
  cases l[k]? <;> rfl
/-- the model's decoding, on a list -/
def decN (l : List UInt8) : Nat × Nat :=
  if nb l 0 < 0x80 then (nb l 0, 1)
  else if nb l 0 / 32 == 6 && ctB l 1 then
    if (nb l 0 % 32) * 64 + nb l 1 % 64 ≥ 0x80 then ((nb l 0 % 32) * 64 + nb l 1 % 64, 2) else (0xFFFD, 1)
  else if nb l 0 / 16 == 14 && ctB l 1 && ctB l 2 then
    if (nb l 0 % 16) * 4096 + (nb l 1 % 64) * 64 + nb l 2 % 64 ≥ 0x800 && Utf8.valid ((nb l 0 % 16) * 4096 + (nb l 1 % 64) * 64 + nb l 2 % 64 : Nat) then ((nb l 0 % 16) * 4096 + (nb l 1 % 64) * 64 + nb l 2 % 64, 3) else (0xFFFD, 1)
  else if nb l 0 / 8 == 30 && ctB l 1 && ctB l 2 && ctB l 3 then
    if (nb l 0 % 8) * 262144 + (nb l 1 % 64) * 4096 + (nb l 2 % 64) * 64 + nb l 3 % 64 ≥ 0x10000 && Utf8.valid ((nb l 0 % 8) * 262144 + (nb l 1 % 64) * 4096 + (nb l 2 % 64) * 64 + nb l 3 % 64 : Nat) then ((nb l 0 % 8) * 262144 + (nb l 1 % 64) * 4096 + (nb l 2 % 64) * 64 + nb l 3 % 64, 4) else (0xFFFD, 1)
  else (0xFFFD, 1)
theorem nb_drop (l : List UInt8) (i k : Nat) : nb (l.drop i) k = nb l (i + k) := by
  unfold nb; simp [List.getD_eq_getElem?_getD, List.getElem?_drop]
theorem ctB_drop (l : List UInt8) (i k : Nat) : ctB (l.drop i) k = (decide (i + k < l.length) && nb l (i + k) / 64 == 2) := by
  unfold ctB; rw [nb_drop, List.length_drop]; congr 1; exact decide_eq_decide.2 (by omega)
theorem decode_drop (l : List UInt8) (i : Nat) : Utf8.decode ⟨l.toArray⟩ i = decN (l.drop i) := by
  unfold Utf8.decode decN
  simp only [get_ba, nb_drop, ctB_drop]
  rfl
theorem decodeL_eq (l : List UInt8) : decodeL l = decN l := by unfold decodeL; rw [decode_drop]; rfl

/-- how many bytes the letter at the front takes; 0: there is none -/
def letN (l : List UInt8) : Nat := if (decN l).1 = 0xFFFD ∧ (decN l).2 = 1 then 0 else (decN l).2
/-- what a letter at the front is -/
structure Two (l : List UInt8) (r k : Nat) : Prop where
  len : 2 ≤ l.length
  a : nb l 0 / 32 = 6
  b : nb l 1 / 64 = 2
  hr : r = (nb l 0 % 32) * 64 + nb l 1 % 64
  lo : 128 ≤ r
  hk : k = 2
structure Three (l : List UInt8) (r k : Nat) : Prop where
  len : 3 ≤ l.length
  a : nb l 0 / 16 = 14
  b : nb l 1 / 64 = 2
  c : nb l 2 / 64 = 2
  hr : r = (nb l 0 % 16) * 4096 + (nb l 1 % 64) * 64 + nb l 2 % 64
  lo : 2048 ≤ r
  hk : k = 3
structure Four (l : List UInt8) (r k : Nat) : Prop where
  len : 4 ≤ l.length
  a : nb l 0 / 8 = 30
  b : nb l 1 / 64 = 2
  c : nb l 2 / 64 = 2
  d : nb l 3 / 64 = 2
  hr : r = (nb l 0 % 8) * 262144 + (nb l 1 % 64) * 4096 + (nb l 2 % 64) * 64 + nb l 3 % 64
  lo : 65536 ≤ r
  hk : k = 4
def Let (l : List UInt8) (r k : Nat) : Prop := (nb l 0 < 128 ∧ r = nb l 0 ∧ k = 1) ∨ Two l r k ∨ Three l r k ∨ Four l r k
theorem let_of {l : List UInt8} (h : ¬ ((decN l).1 = 0xFFFD ∧ (decN l).2 = 1)) : Let l (decN l).1 (decN l).2 := by
  revert h
  unfold decN
  split
  · intro _; exact .inl ⟨by omega, rfl, rfl⟩
  split
  · rename_i h1 h2
    simp only [Bool.and_eq_true, beq_iff_eq, ctB, decide_eq_true_eq] at h2
    split
    · intro _; exact .inr (.inl ⟨by omega, h2.1, h2.2.2, rfl, by omega, rfl⟩)
    · intro h; exact absurd ⟨rfl, rfl⟩ h
  split
  · rename_i h1 h2 h3
    simp only [Bool.and_eq_true, beq_iff_eq, ctB, decide_eq_true_eq] at h3
    split
    · rename_i h4
      simp only [Bool.and_eq_true, decide_eq_true_eq] at h4
      intro _; exact .inr (.inr (.inl ⟨by omega, h3.1.1, h3.1.2.2, h3.2.2, rfl, by omega, rfl⟩))
    · intro h; exact absurd ⟨rfl, rfl⟩ h
  split
  · rename_i h1 h2 h3 h4
    simp only [Bool.and_eq_true, beq_iff_eq, ctB, decide_eq_true_eq] at h4
    split
    · rename_i h5
      simp only [Bool.and_eq_true, decide_eq_true_eq] at h5
      intro _; exact .inr (.inr (.inr ⟨by omega, h4.1.1.1, h4.1.1.2.2, h4.1.2.2, h4.2.2, rfl, by omega, rfl⟩))
    · intro h; exact absurd ⟨rfl, rfl⟩ h
  · intro h; exact absurd ⟨rfl, rfl⟩ h
theorem decN_pos (l : List UInt8) : 1 ≤ (decN l).2 := by
  unfold decN
  repeat' split
  all_goals simp
theorem decN_le {l : List UInt8} (h : l ≠ []) : (decN l).2 ≤ l.length := by
  have h0 : 0 < l.length := List.length_pos_iff.2 h
  by_cases g : (decN l).1 = 0xFFFD ∧ (decN l).2 = 1
  · rw [g.2]; omega
  · rcases let_of g with ⟨_, _, h3⟩ | h3 | h3 | h3
    · omega
    all_goals (have := h3.len; have := h3.hk; omega)
/-- no letter that may not be: all well, and none a control letter but the line's end -/
def goodL (l : List UInt8) : Bool := !decide ((decN l).1 = 0xFFFD ∧ (decN l).2 = 1) && !decide ((decN l).1 < 32 ∧ (decN l).1 ≠ 10 ∨ (decN l).1 = 127)
def plainF : Nat → List UInt8 → Bool
  | 0, l => l.isEmpty
  | _ + 1, [] => true
  | n + 1, l => goodL l && plainF n (l.drop (decN l).2)
def plain (l : List UInt8) : Bool := plainF l.length l
theorem plainF_more : ∀ (n m : Nat) (l : List UInt8), l.length ≤ n → l.length ≤ m → plainF n l = plainF m l := by
  intro n
  induction n with
  | zero =>
    intro m l h1 h2
    have : l = [] := List.eq_nil_of_length_eq_zero (by omega)
    subst this
    cases m <;> rfl
  | succ n ih =>
    intro m l h1 h2
    cases l with
    | nil => cases m <;> rfl
    | cons c r =>
      cases m with
      | zero => simp at h2
      | succ m =>
        have := decN_pos (c :: r)
        show (goodL _ && plainF n _) = (goodL _ && plainF m _)
        rw [ih m _ (by rw [List.length_drop]; omega) (by rw [List.length_drop]; omega)]
theorem plain_nil : plain [] = true := rfl
theorem plain_cons {l : List UInt8} (h : l ≠ []) : plain l = (goodL l && plain (l.drop (decN l).2)) := by
  cases l with
  | nil => exact absurd rfl h
  | cons c r =>
    have := decN_pos (c :: r)
    show (goodL _ && plainF r.length _) = _
    unfold plain
    rw [plainF_more _ _ _ (by rw [List.length_drop, List.length_cons]; omega) (Nat.le_refl _)]
/-- is one of the letters a blank? -/
def spaceF : Nat → List UInt8 → Bool
  | 0, _ => false
  | _ + 1, [] => false
  | n + 1, l => isSpaceR (decN l).1 || spaceF n (l.drop (decN l).2)
def spaced (l : List UInt8) : Bool := spaceF l.length l
theorem spaceF_more : ∀ (n m : Nat) (l : List UInt8), l.length ≤ n → l.length ≤ m → spaceF n l = spaceF m l := by
  intro n
  induction n with
  | zero =>
    intro m l h1 h2
    have : l = [] := List.eq_nil_of_length_eq_zero (by omega)
    subst this
    cases m <;> rfl
  | succ n ih =>
    intro m l h1 h2
    cases l with
    | nil => cases m <;> rfl
    | cons c r =>
      cases m with
      | zero => simp at h2
      | succ m =>
        have := decN_pos (c :: r)
        show (isSpaceR _ || spaceF n _) = (isSpaceR _ || spaceF m _)
        rw [ih m _ (by rw [List.length_drop]; omega) (by rw [List.length_drop]; omega)]
theorem spaced_cons {l : List UInt8} (h : l ≠ []) : spaced l = (isSpaceR (decN l).1 || spaced (l.drop (decN l).2)) := by
  cases l with
  | nil => exact absurd rfl h
  | cons c r =>
    have := decN_pos (c :: r)
    show (isSpaceR _ || spaceF r.length _) = _
    unfold spaced
    rw [spaceF_more _ _ _ (by rw [List.length_drop, List.length_cons]; omega) (Nat.le_refl _)]

/-! ### blanks as bytes -/
def blanks : List (List UInt8) := [[0xc2, 0x85], [0xc2, 0xa0], [0xe1, 0x9a, 0x80], [0xe2, 0x80, 0x80], [0xe2, 0x80, 0x81], [0xe2, 0x80, 0x82], [0xe2, 0x80, 0x83], [0xe2, 0x80, 0x84], [0xe2, 0x80, 0x85], [0xe2, 0x80, 0x86], [0xe2, 0x80, 0x87], [0xe2, 0x80, 0x88], [0xe2, 0x80, 0x89], [0xe2, 0x80, 0x8a], [0xe2, 0x80, 0xa8], [0xe2, 0x80, 0xa9], [0xe2, 0x80, 0xaf], [0xe2, 0x81, 0x9f], [0xe3, 0x80, 0x80]]
/-- does a blank stand at the front? -/
def blankAt (l : List UInt8) : Bool :=
  (nb l 0 == 0xc2 && decide (2 ≤ l.length) && (nb l 1 == 0x85 || nb l 1 == 0xa0)) ||
  (decide (3 ≤ l.length) && ((nb l 0 == 0xe1 && nb l 1 == 0x9a && nb l 2 == 0x80) || (nb l 0 == 0xe2 && nb l 1 == 0x80 && (decide (0x80 ≤ nb l 2 ∧ nb l 2 ≤ 0x8a) || nb l 2 == 0xa8 || nb l 2 == 0xa9 || nb l 2 == 0xaf)) || (nb l 0 == 0xe2 && nb l 1 == 0x81 && nb l 2 == 0x9f) || (nb l 0 == 0xe3 && nb l 1 == 0x80 && nb l 2 == 0x80)))
def badByte (c : UInt8) : Bool := decide (c.toNat ≤ 32) || c.toNat == 43 || c.toNat == 127
/-- the document's: a byte that may not be, or a blank's bytes anywhere -/
def refused : List UInt8 → Bool
  | [] => false
  | c :: r => badByte c || blankAt (c :: r) || refused r
theorem refused_skip {c : UInt8} {r : List UInt8} (h : c.toNat / 64 = 2) : refused (c :: r) = refused r := by
  have h1 : badByte c = false := by unfold badByte; simp; omega
  have h0 : nb (c :: r) 0 = c.toNat := rfl
  have h2 : blankAt (c :: r) = false := by unfold blankAt; rw [h0]; simp; omega
  show (badByte c || blankAt (c :: r) || refused r) = _
  rw [h1, h2]; rfl
theorem nb_cons0 (c : UInt8) (r : List UInt8) : nb (c :: r) 0 = c.toNat := rfl
theorem nb_cons1 (c d : UInt8) (r : List UInt8) : nb (c :: d :: r) 1 = d.toNat := rfl
theorem nb_cons2 (c d e : UInt8) (r : List UInt8) : nb (c :: d :: e :: r) 2 = e.toNat := rfl
theorem nb_cons3 (c d e f : UInt8) (r : List UInt8) : nb (c :: d :: e :: f :: r) 3 = f.toNat := rfl
theorem plus_mem {l : List UInt8} {c : UInt8} (h : 128 ≤ c.toNat) : ((c :: l).contains 43) = l.contains 43 := by
  rw [List.contains_cons]
  have : (43 : UInt8) ≠ c := by intro e; subst e; revert h; decide
  simp [this]
theorem blank2 {c d : Nat} (h1 : c / 32 = 6) (h2 : d / 64 = 2) (h3 : 128 ≤ (c % 32) * 64 + d % 64) : isSpaceR ((c % 32) * 64 + d % 64) = (c == 0xc2 && (d == 0x85 || d == 0xa0)) := by
  apply Bool.eq_iff_iff.2
  unfold isSpaceR
  simp only [Bool.or_eq_true, Bool.and_eq_true, beq_iff_eq, decide_eq_true_eq]
  omega
theorem blank3 {c d f : Nat} (h1 : c / 16 = 14) (h2 : d / 64 = 2) (h3 : f / 64 = 2) (h4 : 2048 ≤ (c % 16) * 4096 + (d % 64) * 64 + f % 64) : isSpaceR ((c % 16) * 4096 + (d % 64) * 64 + f % 64) = ((c == 0xe1 && d == 0x9a && f == 0x80) || (c == 0xe2 && d == 0x80 && (decide (0x80 ≤ f ∧ f ≤ 0x8a) || f == 0xa8 || f == 0xa9 || f == 0xaf)) || (c == 0xe2 && d == 0x81 && f == 0x9f) || (c == 0xe3 && d == 0x80 && f == 0x80)) := by
  obtain ⟨c', rfl⟩ : ∃ x, c = 224 + x := ⟨c - 224, by omega⟩
  obtain ⟨d', rfl⟩ : ∃ x, d = 128 + x := ⟨d - 128, by omega⟩
  obtain ⟨f', rfl⟩ : ∃ x, f = 128 + x := ⟨f - 128, by omega⟩
  have hc : c' < 16 := by omega
  have hd : d' < 64 := by omega
  have hf : f' < 64 := by omega
  have e : ((224 + c') % 16) * 4096 + ((128 + d') % 64) * 64 + (128 + f') % 64 = c' * 4096 + d' * 64 + f' := by omega
  rw [e] at h4 ⊢
  apply Bool.eq_iff_iff.2
  unfold isSpaceR
  simp only [Bool.or_eq_true, Bool.and_eq_true, beq_iff_eq, decide_eq_true_eq]
  constructor
  · intro h
    rcases h with ((((((((h | h) | h) | h) | h) | h) | h) | h) | h) | h <;> omega
  · intro h
    rcases h with ((h | ⟨h, h'⟩) | h) | h
    · omega
    · rcases h' with ((h' | h') | h') | h' <;> omega
    all_goals omega
theorem len2 {l : List UInt8} (h : 2 ≤ l.length) : ∃ c d t, l = c :: d :: t := by
  match l, h with
  | c :: d :: t, _ => exact ⟨c, d, t, rfl⟩
theorem len3 {l : List UInt8} (h : 3 ≤ l.length) : ∃ c d f t, l = c :: d :: f :: t := by
  match l, h with
  | c :: d :: f :: t, _ => exact ⟨c, d, f, t, rfl⟩
theorem len4 {l : List UInt8} (h : 4 ≤ l.length) : ∃ c d f g t, l = c :: d :: f :: g :: t := by
  match l, h with
  | c :: d :: f :: g :: t, _ => exact ⟨c, d, f, g, t, rfl⟩
theorem refused_eq : ∀ (n : Nat) (l : List UInt8), l.length ≤ n → plain l = true → refused l = (l.contains 43 || spaced l) := by
  intro n
  induction n with
  | zero =>
    intro l h _
    have : l = [] := List.eq_nil_of_length_eq_zero (by omega)
    subst this; rfl
  | succ n ih =>
    intro l hn hp
    by_cases hne : l = []
    · subst hne; rfl
    rw [plain_cons hne, Bool.and_eq_true] at hp
    have hle := decN_le hne
    have hpos := decN_pos l
    obtain ⟨hg, hp⟩ := hp
    have IH := ih _ (by rw [List.length_drop]; omega) hp
    rw [spaced_cons hne]
    unfold goodL at hg
    simp only [Bool.and_eq_true, Bool.not_eq_true', decide_eq_false_iff_not] at hg
    obtain ⟨hg1, hg2⟩ := hg
    have hL := let_of hg1
    generalize hr : (decN l).1 = r at *
    generalize hk : (decN l).2 = k at *
    rcases hL with ⟨h, rfl, rfl⟩ | ⟨h1, h2, h3, rfl, h4, rfl⟩ | ⟨h1, h2, h3, h4, rfl, h5, rfl⟩ | ⟨h1, h2, h3, h4, h5, rfl, h6, rfl⟩
    · cases l with
      | nil => exact absurd rfl hne
      | cons c t =>
        rw [nb_cons0] at *
        show (badByte c || blankAt (c :: t) || refused t) = _
        have hb : blankAt (c :: t) = false := by unfold blankAt; rw [nb_cons0]; simp; omega
        rw [hb, List.contains_cons]
        have e : t = (c :: t).drop 1 := rfl
        rw [e, IH]
        have h43 : ((43 : UInt8) == c) = (c.toNat == 43) := by
          apply Bool.eq_iff_iff.2
          rw [beq_iff_eq, beq_iff_eq]
          constructor
          · intro e; subst e; rfl
          · intro e; exact (UInt8.toNat_inj.1 e).symm
        rw [h43]
        have hs : isSpaceR c.toNat = decide (c.toNat ≤ 32) := by
          apply Bool.eq_iff_iff.2
          unfold isSpaceR
          simp
          omega
        rw [hs]
        unfold badByte
        have h127 : (c.toNat == 127) = false := by simp; omega
        rw [h127]
        cases decide (c.toNat ≤ 32) <;> cases (c.toNat == 43) <;> cases ((c :: t).drop 1).contains 43 <;> simp
    · obtain ⟨c, d, t, rfl⟩ := len2 h1
      · skip
        rw [nb_cons0, nb_cons1] at *
        have e : (c :: d :: t).drop 2 = t := rfl
        rw [e] at IH
        show (badByte c || blankAt (c :: d :: t) || refused (d :: t)) = _
        rw [refused_skip h3, plus_mem (by omega), plus_mem (by omega), e, IH]
        have hbb : badByte c = false := by unfold badByte; simp; omega
        rw [hbb]
        have hb : blankAt (c :: d :: t) = isSpaceR ((c.toNat % 32) * 64 + d.toNat % 64) := by
          rw [blank2 h2 h3 h4]
          unfold blankAt
          rw [nb_cons0, nb_cons1]
          have g1 : (c.toNat == 0xe1) = false := by simp; omega
          have g2 : (c.toNat == 0xe2) = false := by simp; omega
          have g3 : (c.toNat == 0xe3) = false := by simp; omega
          have g4 : decide (2 ≤ (c :: d :: t).length) = true := by simp
          rw [g1, g2, g3, g4]
          simp
        rw [hb]
        cases isSpaceR ((c.toNat % 32) * 64 + d.toNat % 64) <;> cases t.contains 43 <;> simp
    · obtain ⟨c, d, f, t, rfl⟩ := len3 h1
      · skip
        rw [nb_cons0, nb_cons1, nb_cons2] at *
        have e : (c :: d :: f :: t).drop 3 = t := rfl
        rw [e] at IH
        show (badByte c || blankAt (c :: d :: f :: t) || refused (d :: f :: t)) = _
        rw [refused_skip h3, refused_skip h4, plus_mem (by omega), plus_mem (by omega), plus_mem (by omega), e, IH]
        have hbb : badByte c = false := by unfold badByte; simp; omega
        rw [hbb]
        have hb : blankAt (c :: d :: f :: t) = isSpaceR ((c.toNat % 16) * 4096 + (d.toNat % 64) * 64 + f.toNat % 64) := by
          rw [blank3 h2 h3 h4 h5]
          unfold blankAt
          rw [nb_cons0, nb_cons1, nb_cons2]
          have g1 : (c.toNat == 0xc2) = false := by simp; omega
          have g4 : decide (3 ≤ (c :: d :: f :: t).length) = true := by simp
          rw [g1, g4, Bool.false_and, Bool.false_and, Bool.false_or, Bool.true_and]
        rw [hb]
        cases isSpaceR ((c.toNat % 16) * 4096 + (d.toNat % 64) * 64 + f.toNat % 64) <;> cases t.contains 43 <;> simp
    · obtain ⟨c, d, f, g, t, rfl⟩ := len4 h1
      · skip
        rw [nb_cons0, nb_cons1, nb_cons2, nb_cons3] at *
        have e : (c :: d :: f :: g :: t).drop 4 = t := rfl
        rw [e] at IH
        show (badByte c || blankAt (c :: d :: f :: g :: t) || refused (d :: f :: g :: t)) = _
        rw [refused_skip h3, refused_skip h4, refused_skip h5, plus_mem (by omega), plus_mem (by omega), plus_mem (by omega), plus_mem (by omega), e, IH]
        have hbb : badByte c = false := by unfold badByte; simp; omega
        rw [hbb]
        have hb : blankAt (c :: d :: f :: g :: t) = false := by
          unfold blankAt
          rw [nb_cons0, nb_cons1, nb_cons2]
          simp
          omega
        have hs : isSpaceR ((c.toNat % 8) * 262144 + (d.toNat % 64) * 4096 + (f.toNat % 64) * 64 + g.toNat % 64) = false := by
          unfold isSpaceR
          simp
          omega
        rw [hb, hs]
        rfl
/-- does w stand somewhere in the list? -/
def holdsB (w : List UInt8) : List UInt8 → Bool
  | [] => w.isEmpty
  | c :: r => w.isPrefixOf (c :: r) || holdsB w r
theorem of_nat {c : UInt8} {n : Nat} (h : c.toNat = n) : c = UInt8.ofNat n := by rw [← h, UInt8.ofNat_toNat]
theorem pre_cons (a c : UInt8) (w l : List UInt8) : (a :: w).isPrefixOf (c :: l) = (a == c && w.isPrefixOf l) := rfl
theorem pre_nil (a : UInt8) (w : List UInt8) : (a :: w).isPrefixOf ([] : List UInt8) = false := rfl
theorem pre_all (l : List UInt8) : ([] : List UInt8).isPrefixOf l = true := by cases l <;> rfl
theorem blankAt_of {l : List UInt8} (h : blankAt l = true) : blanks.any (·.isPrefixOf l) = true := by
  unfold blankAt at h
  simp only [Bool.or_eq_true, Bool.and_eq_true, beq_iff_eq, decide_eq_true_eq] at h
  rcases h with ⟨⟨h1, h2⟩, h3⟩ | ⟨h1, h2⟩
  · obtain ⟨c, d, t, rfl⟩ := len2 h2
    rw [nb_cons0] at h1
    rw [nb_cons1] at h3
    have e1 := of_nat h1
    subst e1
    rcases h3 with h3 | h3 <;> (have e := of_nat h3; subst e; rfl)
  · obtain ⟨c, d, f, t, rfl⟩ := len3 h1
    rw [nb_cons0, nb_cons1, nb_cons2] at h2
    rcases h2 with ((⟨⟨h1, h2⟩, h3⟩ | ⟨⟨h1, h2⟩, h3⟩) | ⟨⟨h1, h2⟩, h3⟩) | ⟨⟨h1, h2⟩, h3⟩ <;> (have e1 := of_nat h1; subst e1; have e2 := of_nat h2; subst e2)
    · have e := of_nat h3; subst e; rfl
    · have h4 : f.toNat = 128 ∨ f.toNat = 129 ∨ f.toNat = 130 ∨ f.toNat = 131 ∨ f.toNat = 132 ∨ f.toNat = 133 ∨ f.toNat = 134 ∨ f.toNat = 135 ∨ f.toNat = 136 ∨ f.toNat = 137 ∨ f.toNat = 138 ∨ f.toNat = 168 ∨ f.toNat = 169 ∨ f.toNat = 175 := by omega
      rcases h4 with h4 | h4 | h4 | h4 | h4 | h4 | h4 | h4 | h4 | h4 | h4 | h4 | h4 | h4 <;> (have e := of_nat h4; subst e; rfl)
    · have e := of_nat h3; subst e; rfl
    · have e := of_nat h3; subst e; rfl
theorem pre_eq : ∀ {w l : List UInt8}, w.isPrefixOf l = true → ∃ t, l = w ++ t := by
  intro w l h
  obtain ⟨t, ht⟩ := List.isPrefixOf_iff_prefix.1 h
  exact ⟨t, ht.symm⟩
theorem of_blank {l : List UInt8} (h : blanks.any (·.isPrefixOf l) = true) : blankAt l = true := by
  obtain ⟨w, hw, hp⟩ := List.any_eq_true.1 h
  obtain ⟨t, rfl⟩ := pre_eq hp
  clear hp h
  unfold blanks at hw
  simp only [List.mem_cons, List.not_mem_nil, or_false] at hw
  rcases hw with h | h | h | h | h | h | h | h | h | h | h | h | h | h | h | h | h | h | h <;> (subst h; simp [blankAt, nb])
theorem blankAt_eq (l : List UInt8) : blankAt l = blanks.any (·.isPrefixOf l) := Bool.eq_iff_iff.2 ⟨blankAt_of, of_blank⟩
theorem refused_any (l : List UInt8) : refused l = (l.any badByte || blanks.any (holdsB · l)) := by
  induction l with
  | nil => rfl
  | cons c r ih =>
    show (badByte c || blankAt (c :: r) || refused r) = _
    have e : blanks.any (holdsB · (c :: r)) = (blankAt (c :: r) || blanks.any (holdsB · r)) := by
      rw [blankAt_eq]
      generalize blanks = bs
      induction bs with
      | nil => rfl
      | cons w bs ih2 =>
        simp only [List.any_cons, ih2]
        show ((w.isPrefixOf (c :: r) || holdsB w r) || _) = _
        cases w.isPrefixOf (c :: r) <;> cases holdsB w r <;> cases bs.any (·.isPrefixOf (c :: r)) <;> cases bs.any (holdsB · r) <;> rfl
    rw [ih, e, List.any_cons]
    cases badByte c <;> cases blankAt (c :: r) <;> cases r.any badByte <;> cases blanks.any (holdsB · r) <;> rfl
/-! ### how many bytes the letter takes, case by case -/
theorem letN_one {l : List UInt8} (h : nb l 0 < 128) : letN l = 1 := by
  have e : decN l = (nb l 0, 1) := by unfold decN; rw [if_pos h]
  unfold letN
  rw [e]
  exact if_neg (fun h' => by have := h'.1; simp only at this; omega)
theorem letN_bad {l : List UInt8} (e : decN l = (0xFFFD, 1)) : letN l = 0 := by unfold letN; rw [e]; rfl
theorem letN_val {l : List UInt8} {v k : Nat} (e : decN l = (v, k)) (hk : k ≠ 1) : letN l = k := by unfold letN; rw [e]; exact if_neg fun h => hk h.2
theorem letN_no {l : List UInt8} (h0 : 128 ≤ nb l 0) (h1 : ¬ (nb l 0 / 32 = 6)) (h2 : ¬ (nb l 0 / 16 = 14)) (h3 : ¬ (nb l 0 / 8 = 30)) : letN l = 0 := by
  refine letN_bad ?_
  unfold decN
  rw [if_neg (by omega), beq_eq_false_iff_ne.2 h1, beq_eq_false_iff_ne.2 h2, beq_eq_false_iff_ne.2 h3]
  rfl
def val2 (l : List UInt8) : Nat := (nb l 0 % 32) * 64 + nb l 1 % 64
def val3 (l : List UInt8) : Nat := (nb l 0 % 16) * 4096 + (nb l 1 % 64) * 64 + nb l 2 % 64
def val4 (l : List UInt8) : Nat := (nb l 0 % 8) * 262144 + (nb l 1 % 64) * 4096 + (nb l 2 % 64) * 64 + nb l 3 % 64
theorem letN_two {l : List UInt8} (h : nb l 0 / 32 = 6) : letN l = if ctB l 1 = true ∧ 128 ≤ val2 l then 2 else 0 := by
  have e : decN l = if ctB l 1 = true then (if 128 ≤ val2 l then (val2 l, 2) else (0xFFFD, 1)) else (0xFFFD, 1) := by
    unfold decN val2
    rw [if_neg (show ¬ nb l 0 < 128 by omega), beq_iff_eq.2 h, Bool.true_and, beq_eq_false_iff_ne.2 (show nb l 0 / 16 ≠ 14 by omega), beq_eq_false_iff_ne.2 (show nb l 0 / 8 ≠ 30 by omega)]
    rfl
  by_cases c : ctB l 1 = true
  · rw [if_pos c] at e
    by_cases g : 128 ≤ val2 l
    · rw [if_pos g] at e; rw [if_pos ⟨c, g⟩]; exact letN_val e (by decide)
    · rw [if_neg g] at e; rw [if_neg (fun h => g h.2)]; exact letN_bad e
  · rw [if_neg c] at e; rw [if_neg (fun h => c h.1)]; exact letN_bad e
theorem valid_iff (n : Nat) : Utf8.valid ((n : Nat) : Int) = true ↔ n ≤ 1114111 ∧ ¬ (55296 ≤ n ∧ n ≤ 57343) := by
  unfold Utf8.valid
  simp only [Bool.or_eq_true, Bool.and_eq_true, decide_eq_true_eq]
  omega
theorem letN_three {l : List UInt8} (h : nb l 0 / 16 = 14) : letN l = if ctB l 1 = true ∧ ctB l 2 = true ∧ 2048 ≤ val3 l ∧ val3 l ≤ 1114111 ∧ ¬ (55296 ≤ val3 l ∧ val3 l ≤ 57343) then 3 else 0 := by
  have e : decN l = if (ctB l 1 && ctB l 2) = true then (if (decide (2048 ≤ val3 l) && Utf8.valid ((val3 l : Nat) : Int)) = true then (val3 l, 3) else (0xFFFD, 1)) else (0xFFFD, 1) := by
    unfold decN val3
    rw [if_neg (show ¬ nb l 0 < 128 by omega), beq_eq_false_iff_ne.2 (show nb l 0 / 32 ≠ 6 by omega), beq_iff_eq.2 h, Bool.true_and, beq_eq_false_iff_ne.2 (show nb l 0 / 8 ≠ 30 by omega)]
    rfl
  by_cases c : (ctB l 1 && ctB l 2) = true
  · rw [if_pos c] at e
    rw [Bool.and_eq_true] at c
    by_cases g : 2048 ≤ val3 l ∧ val3 l ≤ 1114111 ∧ ¬ (55296 ≤ val3 l ∧ val3 l ≤ 57343)
    · rw [if_pos (by rw [Bool.and_eq_true, valid_iff]; exact ⟨decide_eq_true g.1, g.2⟩)] at e; rw [if_pos ⟨c.1, c.2, g⟩]; exact letN_val e (by decide)
    · rw [if_neg (by rw [Bool.and_eq_true, valid_iff]; exact fun h' => g ⟨of_decide_eq_true h'.1, h'.2⟩)] at e; rw [if_neg (fun h => g h.2.2)]; exact letN_bad e
  · rw [if_neg c] at e; rw [if_neg (fun h => c (by rw [h.1, h.2.1]; rfl))]; exact letN_bad e
theorem letN_four {l : List UInt8} (h : nb l 0 / 8 = 30) : letN l = if ctB l 1 = true ∧ ctB l 2 = true ∧ ctB l 3 = true ∧ 65536 ≤ val4 l ∧ val4 l ≤ 1114111 ∧ ¬ (55296 ≤ val4 l ∧ val4 l ≤ 57343) then 4 else 0 := by
  have e : decN l = if (ctB l 1 && ctB l 2 && ctB l 3) = true then (if (decide (65536 ≤ val4 l) && Utf8.valid ((val4 l : Nat) : Int)) = true then (val4 l, 4) else (0xFFFD, 1)) else (0xFFFD, 1) := by
    unfold decN val4
    rw [if_neg (show ¬ nb l 0 < 128 by omega), beq_eq_false_iff_ne.2 (show nb l 0 / 32 ≠ 6 by omega), beq_eq_false_iff_ne.2 (show nb l 0 / 16 ≠ 14 by omega), beq_iff_eq.2 h, Bool.true_and]
    rfl
  by_cases c : (ctB l 1 && ctB l 2 && ctB l 3) = true
  · rw [if_pos c] at e
    rw [Bool.and_eq_true, Bool.and_eq_true] at c
    by_cases g : 65536 ≤ val4 l ∧ val4 l ≤ 1114111 ∧ ¬ (55296 ≤ val4 l ∧ val4 l ≤ 57343)
    · rw [if_pos (by rw [Bool.and_eq_true, valid_iff]; exact ⟨decide_eq_true g.1, g.2⟩)] at e; rw [if_pos ⟨c.1.1, c.1.2, c.2, g⟩]; exact letN_val e (by decide)
    · rw [if_neg (by rw [Bool.and_eq_true, valid_iff]; exact fun h' => g ⟨of_decide_eq_true h'.1, h'.2⟩)] at e; rw [if_neg (fun h => g h.2.2.2)]; exact letN_bad e
  · rw [if_neg c] at e; rw [if_neg (fun h => c (by rw [h.1, h.2.1, h.2.2.1]; rfl))]; exact letN_bad e
/-- good: a letter stands there, and no control letter -/
theorem goodL_eq {l : List UInt8} (h : l ≠ []) : goodL l = (!decide (letN l = 0) && !(nb l 0 == 127) && (!decide (nb l 0 < 32) || nb l 0 == 10)) := by
  have hp := decN_pos l
  unfold goodL letN
  by_cases g : (decN l).1 = 0xFFFD ∧ (decN l).2 = 1
  · rw [if_pos g, decide_eq_true g]; rfl
  · rw [if_neg g, decide_eq_false g, decide_eq_false (show ¬ (decN l).2 = 0 by omega)]
    have hb := nb_lt l 0
    apply Bool.eq_iff_iff.2
    simp only [Bool.not_false, Bool.true_and, Bool.and_eq_true, Bool.or_eq_true, Bool.not_eq_true', decide_eq_false_iff_not, beq_iff_eq, beq_eq_false_iff_ne]
    rcases let_of g with ⟨h1, h2, _⟩ | h2 | h2 | h2
    · rw [h2]; omega
    · have := h2.a; have := h2.lo; omega
    · have := h2.a; have := h2.lo; omega
    · have := h2.a; have := h2.lo; omega
theorem letN_step {l : List UInt8} (h : letN l ≠ 0) : letN l = (decN l).2 := by
  unfold letN at *
  split
  · rename_i g; rw [if_pos g] at h; exact absurd rfl h
  · rfl
end Go.Sh
/-! ## ShL9 -/
namespace Go.Sh
open Go.ChangeShapes
section
variable {w : World} {b : Nat} {t : TypeId}
theorem Blk.rd {l : List Value} (h : Blk w b t l) (j : Nat) {v : Value} (hv : l[j]? = some v) : w.cell? ((⟨b, 0, none⟩ : Addr).add j) = some v := by
  rw [Addr.add_lit, Nat.zero_add, h.cell]; exact hv
/-- in a box that lies further in -/
theorem Blk.rd2 {l : List Value} (h : Blk w b t l) (i j : Nat) {v : Value} (hv : l[i + j]? = some v) : w.cell? (((⟨b, 0, none⟩ : Addr).add i).add j) = some v := by
  rw [add_add', Addr.add_lit, Nat.zero_add, h.cell]; exact hv
theorem opnI_c {k : IntKind} {o : Option Value} {n : Int} (h : o = some (.int k n)) {K : Int → Prop} (hK : K n) : opnI k o K := by subst h; exact ⟨rfl, hK⟩
theorem opnB_c {o : Option Value} {n : Bool} (h : o = some (.bool n)) {K : Bool → Prop} (hK : K n) : opnB o K := by subst h; exact hK
theorem opnS_c {o : Option Value} {n : ByteArray} (h : o = some (.string n)) {K : ByteArray → Prop} (hK : K n) : opnS o K := by subst h; exact hK
theorem opnL_c {o : Option Value} {a : Option Addr} {n c : Nat} (h : o = some (.slice a n c)) {K : Option Addr → Nat → Nat → Prop} (hK : K a n c) : opnL o K := by subst h; exact hK
theorem opnP_c {o : Option Value} {a : Option Addr} (h : o = some (.pointer a)) {K : Option Addr → Prop} (hK : K a) : opnP o K := by subst h; exact hK
theorem opnM_c {o : Option Value} {a : Option Nat} (h : o = some (.map a)) {K : Option Nat → Prop} (hK : K a) : opnM o K := by subst h; exact hK
theorem opnV_c {o : Option Value} {v : Value} (h : o = some v) {K : Value → Prop} (hK : K v) : opnV o K := by subst h; exact hK
theorem box_stL {K : World → Prop} : ∀ (vs done old : List Value) (w : World), Blk w b t (done ++ old) → vs.length = old.length → (∀ v ∈ vs, v.oneCell' = true) → (∀ w', Blk w' b t (done ++ vs) → Chg (fun k => k = b) w w' → K w') → stL ⟨b, 0, none⟩ done.length vs w K
  | [], done, old, w, h, hl, _, hK => by
    have : old = [] := List.eq_nil_of_length_eq_zero hl.symm
    subst this
    exact hK w h (Chg.refl _ _)
  | v :: vs, done, x :: old, w, h, hl, h1, hK => by
    show stC ((⟨b, 0, none⟩ : Addr).add done.length) v w fun w' => stL ⟨b, 0, none⟩ (done.length + 1) vs w' K
    rw [Addr.add_lit, Nat.zero_add]
    refine h.store (by simp) (h1 v (by simp)) fun h' k' => ?_
    rw [set_mid] at h'
    have := box_stL (K := K) vs (done ++ [v]) old _ (by simpa using h') (by simpa using hl) (fun u hu => h1 u (by simp [hu])) (fun w' hb k => hK w' (by simpa using hb) (Chg.trans k' k (fun _ _ h => h) (fun _ _ h => h)))
    simpa using this
  | _ :: _, _, [], _, _, hl, _, _ => by simp at hl
theorem box_all {K : World → Prop} {vs old : List Value} (h : Blk w b t old) (hl : vs.length = old.length) (h1 : ∀ v ∈ vs, v.oneCell' = true) (hK : ∀ w', Blk w' b t vs → Chg (fun k => k = b) w w' → K w') : stL ⟨b, 0, none⟩ 0 vs w K := box_stL vs [] old w h hl h1 hK
theorem box_set {l : List Value} (h : Blk w b t l) {j : Nat} (hj : j < l.length) {v : Value} (hv : v.oneCell' = true) {K : World → Prop} (hK : ∀ w', Blk w' b t (l.set j v) → Chg (fun k => k = b) w w' → K w') : stC ((⟨b, 0, none⟩ : Addr).add j) v w K := by
  rw [Addr.add_lit, Nat.zero_add]
  exact h.store hj hv fun h' k' => hK _ h' k'
theorem alC_box {cs : Array Value} {K : Addr → World → Prop} (hK : ∀ b w', Blk w' b t cs.toList → Chg None w w' → w.heap.size ≤ b → K ⟨b, 0, none⟩ w') : alC cs t w K := hK _ _ blk_alloc (chg_alloc w _) (Nat.le_refl _)
theorem box2 {old : List Value} {v0 v1 : Value} {K : World → Prop} (h : Blk w b t old) (hl : old.length = 2) (h1 : ([v0, v1] : List Value).all Value.oneCell' = true) (hK : ∀ w', Blk w' b t [v0, v1] → Chg (fun k => k = b) w w' → K w') : stC ((⟨b, 0, none⟩ : Addr).add 0) v0 w fun w1 => stC ((⟨b, 0, none⟩ : Addr).add 1) v1 w1 fun w2 => K w2 := box_all h (by rw [hl]; rfl) (List.all_eq_true.1 h1) hK
theorem box3 {old : List Value} {v0 v1 v2 : Value} {K : World → Prop} (h : Blk w b t old) (hl : old.length = 3) (h1 : ([v0, v1, v2] : List Value).all Value.oneCell' = true) (hK : ∀ w', Blk w' b t [v0, v1, v2] → Chg (fun k => k = b) w w' → K w') : stC ((⟨b, 0, none⟩ : Addr).add 0) v0 w fun w1 => stC ((⟨b, 0, none⟩ : Addr).add 1) v1 w1 fun w2 => stC ((⟨b, 0, none⟩ : Addr).add 2) v2 w2 fun w3 => K w3 := box_all h (by rw [hl]; rfl) (List.all_eq_true.1 h1) hK
theorem box4 {old : List Value} {v0 v1 v2 v3 : Value} {K : World → Prop} (h : Blk w b t old) (hl : old.length = 4) (h1 : ([v0, v1, v2, v3] : List Value).all Value.oneCell' = true) (hK : ∀ w', Blk w' b t [v0, v1, v2, v3] → Chg (fun k => k = b) w w' → K w') : stC ((⟨b, 0, none⟩ : Addr).add 0) v0 w fun w1 => stC ((⟨b, 0, none⟩ : Addr).add 1) v1 w1 fun w2 => stC ((⟨b, 0, none⟩ : Addr).add 2) v2 w2 fun w3 => stC ((⟨b, 0, none⟩ : Addr).add 3) v3 w3 fun w4 => K w4 := box_all h (by rw [hl]; rfl) (List.all_eq_true.1 h1) hK
theorem box5 {old : List Value} {v0 v1 v2 v3 v4 : Value} {K : World → Prop} (h : Blk w b t old) (hl : old.length = 5) (h1 : ([v0, v1, v2, v3, v4] : List Value).all Value.oneCell' = true) (hK : ∀ w', Blk w' b t [v0, v1, v2, v3, v4] → Chg (fun k => k = b) w w' → K w') : stC ((⟨b, 0, none⟩ : Addr).add 0) v0 w fun w1 => stC ((⟨b, 0, none⟩ : Addr).add 1) v1 w1 fun w2 => stC ((⟨b, 0, none⟩ : Addr).add 2) v2 w2 fun w3 => stC ((⟨b, 0, none⟩ : Addr).add 3) v3 w3 fun w4 => stC ((⟨b, 0, none⟩ : Addr).add 4) v4 w4 fun w5 => K w5 := box_all h (by rw [hl]; rfl) (List.all_eq_true.1 h1) hK
theorem box6 {old : List Value} {v0 v1 v2 v3 v4 v5 : Value} {K : World → Prop} (h : Blk w b t old) (hl : old.length = 6) (h1 : ([v0, v1, v2, v3, v4, v5] : List Value).all Value.oneCell' = true) (hK : ∀ w', Blk w' b t [v0, v1, v2, v3, v4, v5] → Chg (fun k => k = b) w w' → K w') : stC ((⟨b, 0, none⟩ : Addr).add 0) v0 w fun w1 => stC ((⟨b, 0, none⟩ : Addr).add 1) v1 w1 fun w2 => stC ((⟨b, 0, none⟩ : Addr).add 2) v2 w2 fun w3 => stC ((⟨b, 0, none⟩ : Addr).add 3) v3 w3 fun w4 => stC ((⟨b, 0, none⟩ : Addr).add 4) v4 w4 fun w5 => stC ((⟨b, 0, none⟩ : Addr).add 5) v5 w5 fun w6 => K w6 := box_all h (by rw [hl]; rfl) (List.all_eq_true.1 h1) hK
theorem box7 {old : List Value} {v0 v1 v2 v3 v4 v5 v6 : Value} {K : World → Prop} (h : Blk w b t old) (hl : old.length = 7) (h1 : ([v0, v1, v2, v3, v4, v5, v6] : List Value).all Value.oneCell' = true) (hK : ∀ w', Blk w' b t [v0, v1, v2, v3, v4, v5, v6] → Chg (fun k => k = b) w w' → K w') : stC ((⟨b, 0, none⟩ : Addr).add 0) v0 w fun w1 => stC ((⟨b, 0, none⟩ : Addr).add 1) v1 w1 fun w2 => stC ((⟨b, 0, none⟩ : Addr).add 2) v2 w2 fun w3 => stC ((⟨b, 0, none⟩ : Addr).add 3) v3 w3 fun w4 => stC ((⟨b, 0, none⟩ : Addr).add 4) v4 w4 fun w5 => stC ((⟨b, 0, none⟩ : Addr).add 5) v5 w5 fun w6 => stC ((⟨b, 0, none⟩ : Addr).add 6) v6 w6 fun w7 => K w7 := box_all h (by rw [hl]; rfl) (List.all_eq_true.1 h1) hK
theorem box8 {old : List Value} {v0 v1 v2 v3 v4 v5 v6 v7 : Value} {K : World → Prop} (h : Blk w b t old) (hl : old.length = 8) (h1 : ([v0, v1, v2, v3, v4, v5, v6, v7] : List Value).all Value.oneCell' = true) (hK : ∀ w', Blk w' b t [v0, v1, v2, v3, v4, v5, v6, v7] → Chg (fun k => k = b) w w' → K w') : stC ((⟨b, 0, none⟩ : Addr).add 0) v0 w fun w1 => stC ((⟨b, 0, none⟩ : Addr).add 1) v1 w1 fun w2 => stC ((⟨b, 0, none⟩ : Addr).add 2) v2 w2 fun w3 => stC ((⟨b, 0, none⟩ : Addr).add 3) v3 w3 fun w4 => stC ((⟨b, 0, none⟩ : Addr).add 4) v4 w4 fun w5 => stC ((⟨b, 0, none⟩ : Addr).add 5) v5 w5 fun w6 => stC ((⟨b, 0, none⟩ : Addr).add 6) v6 w6 fun w7 => stC ((⟨b, 0, none⟩ : Addr).add 7) v7 w7 fun w8 => K w8 := box_all h (by rw [hl]; rfl) (List.all_eq_true.1 h1) hK
theorem box9 {old : List Value} {v0 v1 v2 v3 v4 v5 v6 v7 v8 : Value} {K : World → Prop} (h : Blk w b t old) (hl : old.length = 9) (h1 : ([v0, v1, v2, v3, v4, v5, v6, v7, v8] : List Value).all Value.oneCell' = true) (hK : ∀ w', Blk w' b t [v0, v1, v2, v3, v4, v5, v6, v7, v8] → Chg (fun k => k = b) w w' → K w') : stC ((⟨b, 0, none⟩ : Addr).add 0) v0 w fun w1 => stC ((⟨b, 0, none⟩ : Addr).add 1) v1 w1 fun w2 => stC ((⟨b, 0, none⟩ : Addr).add 2) v2 w2 fun w3 => stC ((⟨b, 0, none⟩ : Addr).add 3) v3 w3 fun w4 => stC ((⟨b, 0, none⟩ : Addr).add 4) v4 w4 fun w5 => stC ((⟨b, 0, none⟩ : Addr).add 5) v5 w5 fun w6 => stC ((⟨b, 0, none⟩ : Addr).add 6) v6 w6 fun w7 => stC ((⟨b, 0, none⟩ : Addr).add 7) v7 w7 fun w8 => stC ((⟨b, 0, none⟩ : Addr).add 8) v8 w8 fun w9 => K w9 := box_all h (by rw [hl]; rfl) (List.all_eq_true.1 h1) hK
theorem box10 {old : List Value} {v0 v1 v2 v3 v4 v5 v6 v7 v8 v9 : Value} {K : World → Prop} (h : Blk w b t old) (hl : old.length = 10) (h1 : ([v0, v1, v2, v3, v4, v5, v6, v7, v8, v9] : List Value).all Value.oneCell' = true) (hK : ∀ w', Blk w' b t [v0, v1, v2, v3, v4, v5, v6, v7, v8, v9] → Chg (fun k => k = b) w w' → K w') : stC ((⟨b, 0, none⟩ : Addr).add 0) v0 w fun w1 => stC ((⟨b, 0, none⟩ : Addr).add 1) v1 w1 fun w2 => stC ((⟨b, 0, none⟩ : Addr).add 2) v2 w2 fun w3 => stC ((⟨b, 0, none⟩ : Addr).add 3) v3 w3 fun w4 => stC ((⟨b, 0, none⟩ : Addr).add 4) v4 w4 fun w5 => stC ((⟨b, 0, none⟩ : Addr).add 5) v5 w5 fun w6 => stC ((⟨b, 0, none⟩ : Addr).add 6) v6 w6 fun w7 => stC ((⟨b, 0, none⟩ : Addr).add 7) v7 w7 fun w8 => stC ((⟨b, 0, none⟩ : Addr).add 8) v8 w8 fun w9 => stC ((⟨b, 0, none⟩ : Addr).add 9) v9 w9 fun w10 => K w10 := box_all h (by rw [hl]; rfl) (List.all_eq_true.1 h1) hK
theorem box11 {old : List Value} {v0 v1 v2 v3 v4 v5 v6 v7 v8 v9 v10 : Value} {K : World → Prop} (h : Blk w b t old) (hl : old.length = 11) (h1 : ([v0, v1, v2, v3, v4, v5, v6, v7, v8, v9, v10] : List Value).all Value.oneCell' = true) (hK : ∀ w', Blk w' b t [v0, v1, v2, v3, v4, v5, v6, v7, v8, v9, v10] → Chg (fun k => k = b) w w' → K w') : stC ((⟨b, 0, none⟩ : Addr).add 0) v0 w fun w1 => stC ((⟨b, 0, none⟩ : Addr).add 1) v1 w1 fun w2 => stC ((⟨b, 0, none⟩ : Addr).add 2) v2 w2 fun w3 => stC ((⟨b, 0, none⟩ : Addr).add 3) v3 w3 fun w4 => stC ((⟨b, 0, none⟩ : Addr).add 4) v4 w4 fun w5 => stC ((⟨b, 0, none⟩ : Addr).add 5) v5 w5 fun w6 => stC ((⟨b, 0, none⟩ : Addr).add 6) v6 w6 fun w7 => stC ((⟨b, 0, none⟩ : Addr).add 7) v7 w7 fun w8 => stC ((⟨b, 0, none⟩ : Addr).add 8) v8 w8 fun w9 => stC ((⟨b, 0, none⟩ : Addr).add 9) v9 w9 fun w10 => stC ((⟨b, 0, none⟩ : Addr).add 10) v10 w10 fun w11 => K w11 := box_all h (by rw [hl]; rfl) (List.all_eq_true.1 h1) hK
theorem box12 {old : List Value} {v0 v1 v2 v3 v4 v5 v6 v7 v8 v9 v10 v11 : Value} {K : World → Prop} (h : Blk w b t old) (hl : old.length = 12) (h1 : ([v0, v1, v2, v3, v4, v5, v6, v7, v8, v9, v10, v11] : List Value).all Value.oneCell' = true) (hK : ∀ w', Blk w' b t [v0, v1, v2, v3, v4, v5, v6, v7, v8, v9, v10, v11] → Chg (fun k => k = b) w w' → K w') : stC ((⟨b, 0, none⟩ : Addr).add 0) v0 w fun w1 => stC ((⟨b, 0, none⟩ : Addr).add 1) v1 w1 fun w2 => stC ((⟨b, 0, none⟩ : Addr).add 2) v2 w2 fun w3 => stC ((⟨b, 0, none⟩ : Addr).add 3) v3 w3 fun w4 => stC ((⟨b, 0, none⟩ : Addr).add 4) v4 w4 fun w5 => stC ((⟨b, 0, none⟩ : Addr).add 5) v5 w5 fun w6 => stC ((⟨b, 0, none⟩ : Addr).add 6) v6 w6 fun w7 => stC ((⟨b, 0, none⟩ : Addr).add 7) v7 w7 fun w8 => stC ((⟨b, 0, none⟩ : Addr).add 8) v8 w8 fun w9 => stC ((⟨b, 0, none⟩ : Addr).add 9) v9 w9 fun w10 => stC ((⟨b, 0, none⟩ : Addr).add 10) v10 w10 fun w11 => stC ((⟨b, 0, none⟩ : Addr).add 11) v11 w11 fun w12 => K w12 := box_all h (by rw [hl]; rfl) (List.all_eq_true.1 h1) hK
/-- a box made and filled -/
theorem mkbox2 {v0 v1 z0 z1 : Value} {K : Addr → World → Prop} (h1 : ([v0, v1] : List Value).all Value.oneCell' = true) (hK : ∀ b w', Blk w' b t [v0, v1] → Chg None w w' → w.heap.size ≤ b → K ⟨b, 0, none⟩ w') : alC #[z0, z1] t w fun p w0 => Array.size (#[v0, v1] : Array Value) = 2 ∧ stC (p.add 0) v0 w0 fun w1 => stC (p.add 1) v1 w1 fun w2 => K p w2 := by
  refine alC_box fun b w' hb k hlt => ⟨rfl, box2 hb rfl h1 fun w2 hb2 k2 => ?_⟩
  exact hK b w2 hb2 (Chg.fresh k k2 fun x hx => by rw [hx]; exact hlt) hlt
/-- a box made and filled -/
theorem mkbox3 {v0 v1 v2 z0 z1 z2 : Value} {K : Addr → World → Prop} (h1 : ([v0, v1, v2] : List Value).all Value.oneCell' = true) (hK : ∀ b w', Blk w' b t [v0, v1, v2] → Chg None w w' → w.heap.size ≤ b → K ⟨b, 0, none⟩ w') : alC #[z0, z1, z2] t w fun p w0 => Array.size (#[v0, v1, v2] : Array Value) = 3 ∧ stC (p.add 0) v0 w0 fun w1 => stC (p.add 1) v1 w1 fun w2 => stC (p.add 2) v2 w2 fun w3 => K p w3 := by
  refine alC_box fun b w' hb k hlt => ⟨rfl, box3 hb rfl h1 fun w2 hb2 k2 => ?_⟩
  exact hK b w2 hb2 (Chg.fresh k k2 fun x hx => by rw [hx]; exact hlt) hlt
/-- a box made and filled -/
theorem mkbox4 {v0 v1 v2 v3 z0 z1 z2 z3 : Value} {K : Addr → World → Prop} (h1 : ([v0, v1, v2, v3] : List Value).all Value.oneCell' = true) (hK : ∀ b w', Blk w' b t [v0, v1, v2, v3] → Chg None w w' → w.heap.size ≤ b → K ⟨b, 0, none⟩ w') : alC #[z0, z1, z2, z3] t w fun p w0 => Array.size (#[v0, v1, v2, v3] : Array Value) = 4 ∧ stC (p.add 0) v0 w0 fun w1 => stC (p.add 1) v1 w1 fun w2 => stC (p.add 2) v2 w2 fun w3 => stC (p.add 3) v3 w3 fun w4 => K p w4 := by
  refine alC_box fun b w' hb k hlt => ⟨rfl, box4 hb rfl h1 fun w2 hb2 k2 => ?_⟩
  exact hK b w2 hb2 (Chg.fresh k k2 fun x hx => by rw [hx]; exact hlt) hlt
/-- a box made and filled -/
theorem mkbox5 {v0 v1 v2 v3 v4 z0 z1 z2 z3 z4 : Value} {K : Addr → World → Prop} (h1 : ([v0, v1, v2, v3, v4] : List Value).all Value.oneCell' = true) (hK : ∀ b w', Blk w' b t [v0, v1, v2, v3, v4] → Chg None w w' → w.heap.size ≤ b → K ⟨b, 0, none⟩ w') : alC #[z0, z1, z2, z3, z4] t w fun p w0 => Array.size (#[v0, v1, v2, v3, v4] : Array Value) = 5 ∧ stC (p.add 0) v0 w0 fun w1 => stC (p.add 1) v1 w1 fun w2 => stC (p.add 2) v2 w2 fun w3 => stC (p.add 3) v3 w3 fun w4 => stC (p.add 4) v4 w4 fun w5 => K p w5 := by
  refine alC_box fun b w' hb k hlt => ⟨rfl, box5 hb rfl h1 fun w2 hb2 k2 => ?_⟩
  exact hK b w2 hb2 (Chg.fresh k k2 fun x hx => by rw [hx]; exact hlt) hlt
/-- a box made and filled -/
theorem mkbox6 {v0 v1 v2 v3 v4 v5 z0 z1 z2 z3 z4 z5 : Value} {K : Addr → World → Prop} (h1 : ([v0, v1, v2, v3, v4, v5] : List Value).all Value.oneCell' = true) (hK : ∀ b w', Blk w' b t [v0, v1, v2, v3, v4, v5] → Chg None w w' → w.heap.size ≤ b → K ⟨b, 0, none⟩ w') : alC #[z0, z1, z2, z3, z4, z5] t w fun p w0 => Array.size (#[v0, v1, v2, v3, v4, v5] : Array Value) = 6 ∧ stC (p.add 0) v0 w0 fun w1 => stC (p.add 1) v1 w1 fun w2 => stC (p.add 2) v2 w2 fun w3 => stC (p.add 3) v3 w3 fun w4 => stC (p.add 4) v4 w4 fun w5 => stC (p.add 5) v5 w5 fun w6 => K p w6 := by
  refine alC_box fun b w' hb k hlt => ⟨rfl, box6 hb rfl h1 fun w2 hb2 k2 => ?_⟩
  exact hK b w2 hb2 (Chg.fresh k k2 fun x hx => by rw [hx]; exact hlt) hlt
/-- a box made and filled -/
theorem mkbox7 {v0 v1 v2 v3 v4 v5 v6 z0 z1 z2 z3 z4 z5 z6 : Value} {K : Addr → World → Prop} (h1 : ([v0, v1, v2, v3, v4, v5, v6] : List Value).all Value.oneCell' = true) (hK : ∀ b w', Blk w' b t [v0, v1, v2, v3, v4, v5, v6] → Chg None w w' → w.heap.size ≤ b → K ⟨b, 0, none⟩ w') : alC #[z0, z1, z2, z3, z4, z5, z6] t w fun p w0 => Array.size (#[v0, v1, v2, v3, v4, v5, v6] : Array Value) = 7 ∧ stC (p.add 0) v0 w0 fun w1 => stC (p.add 1) v1 w1 fun w2 => stC (p.add 2) v2 w2 fun w3 => stC (p.add 3) v3 w3 fun w4 => stC (p.add 4) v4 w4 fun w5 => stC (p.add 5) v5 w5 fun w6 => stC (p.add 6) v6 w6 fun w7 => K p w7 := by
  refine alC_box fun b w' hb k hlt => ⟨rfl, box7 hb rfl h1 fun w2 hb2 k2 => ?_⟩
  exact hK b w2 hb2 (Chg.fresh k k2 fun x hx => by rw [hx]; exact hlt) hlt
/-- a box made and filled -/
theorem mkbox8 {v0 v1 v2 v3 v4 v5 v6 v7 z0 z1 z2 z3 z4 z5 z6 z7 : Value} {K : Addr → World → Prop} (h1 : ([v0, v1, v2, v3, v4, v5, v6, v7] : List Value).all Value.oneCell' = true) (hK : ∀ b w', Blk w' b t [v0, v1, v2, v3, v4, v5, v6, v7] → Chg None w w' → w.heap.size ≤ b → K ⟨b, 0, none⟩ w') : alC #[z0, z1, z2, z3, z4, z5, z6, z7] t w fun p w0 => Array.size (#[v0, v1, v2, v3, v4, v5, v6, v7] : Array Value) = 8 ∧ stC (p.add 0) v0 w0 fun w1 => stC (p.add 1) v1 w1 fun w2 => stC (p.add 2) v2 w2 fun w3 => stC (p.add 3) v3 w3 fun w4 => stC (p.add 4) v4 w4 fun w5 => stC (p.add 5) v5 w5 fun w6 => stC (p.add 6) v6 w6 fun w7 => stC (p.add 7) v7 w7 fun w8 => K p w8 := by
  refine alC_box fun b w' hb k hlt => ⟨rfl, box8 hb rfl h1 fun w2 hb2 k2 => ?_⟩
  exact hK b w2 hb2 (Chg.fresh k k2 fun x hx => by rw [hx]; exact hlt) hlt
/-- a box made and filled -/
theorem mkbox9 {v0 v1 v2 v3 v4 v5 v6 v7 v8 z0 z1 z2 z3 z4 z5 z6 z7 z8 : Value} {K : Addr → World → Prop} (h1 : ([v0, v1, v2, v3, v4, v5, v6, v7, v8] : List Value).all Value.oneCell' = true) (hK : ∀ b w', Blk w' b t [v0, v1, v2, v3, v4, v5, v6, v7, v8] → Chg None w w' → w.heap.size ≤ b → K ⟨b, 0, none⟩ w') : alC #[z0, z1, z2, z3, z4, z5, z6, z7, z8] t w fun p w0 => Array.size (#[v0, v1, v2, v3, v4, v5, v6, v7, v8] : Array Value) = 9 ∧ stC (p.add 0) v0 w0 fun w1 => stC (p.add 1) v1 w1 fun w2 => stC (p.add 2) v2 w2 fun w3 => stC (p.add 3) v3 w3 fun w4 => stC (p.add 4) v4 w4 fun w5 => stC (p.add 5) v5 w5 fun w6 => stC (p.add 6) v6 w6 fun w7 => stC (p.add 7) v7 w7 fun w8 => stC (p.add 8) v8 w8 fun w9 => K p w9 := by
  refine alC_box fun b w' hb k hlt => ⟨rfl, box9 hb rfl h1 fun w2 hb2 k2 => ?_⟩
  exact hK b w2 hb2 (Chg.fresh k k2 fun x hx => by rw [hx]; exact hlt) hlt
/-- a box made and filled -/
theorem mkbox10 {v0 v1 v2 v3 v4 v5 v6 v7 v8 v9 z0 z1 z2 z3 z4 z5 z6 z7 z8 z9 : Value} {K : Addr → World → Prop} (h1 : ([v0, v1, v2, v3, v4, v5, v6, v7, v8, v9] : List Value).all Value.oneCell' = true) (hK : ∀ b w', Blk w' b t [v0, v1, v2, v3, v4, v5, v6, v7, v8, v9] → Chg None w w' → w.heap.size ≤ b → K ⟨b, 0, none⟩ w') : alC #[z0, z1, z2, z3, z4, z5, z6, z7, z8, z9] t w fun p w0 => Array.size (#[v0, v1, v2, v3, v4, v5, v6, v7, v8, v9] : Array Value) = 10 ∧ stC (p.add 0) v0 w0 fun w1 => stC (p.add 1) v1 w1 fun w2 => stC (p.add 2) v2 w2 fun w3 => stC (p.add 3) v3 w3 fun w4 => stC (p.add 4) v4 w4 fun w5 => stC (p.add 5) v5 w5 fun w6 => stC (p.add 6) v6 w6 fun w7 => stC (p.add 7) v7 w7 fun w8 => stC (p.add 8) v8 w8 fun w9 => stC (p.add 9) v9 w9 fun w10 => K p w10 := by
  refine alC_box fun b w' hb k hlt => ⟨rfl, box10 hb rfl h1 fun w2 hb2 k2 => ?_⟩
  exact hK b w2 hb2 (Chg.fresh k k2 fun x hx => by rw [hx]; exact hlt) hlt
/-- a box made and filled -/
theorem mkbox11 {v0 v1 v2 v3 v4 v5 v6 v7 v8 v9 v10 z0 z1 z2 z3 z4 z5 z6 z7 z8 z9 z10 : Value} {K : Addr → World → Prop} (h1 : ([v0, v1, v2, v3, v4, v5, v6, v7, v8, v9, v10] : List Value).all Value.oneCell' = true) (hK : ∀ b w', Blk w' b t [v0, v1, v2, v3, v4, v5, v6, v7, v8, v9, v10] → Chg None w w' → w.heap.size ≤ b → K ⟨b, 0, none⟩ w') : alC #[z0, z1, z2, z3, z4, z5, z6, z7, z8, z9, z10] t w fun p w0 => Array.size (#[v0, v1, v2, v3, v4, v5, v6, v7, v8, v9, v10] : Array Value) = 11 ∧ stC (p.add 0) v0 w0 fun w1 => stC (p.add 1) v1 w1 fun w2 => stC (p.add 2) v2 w2 fun w3 => stC (p.add 3) v3 w3 fun w4 => stC (p.add 4) v4 w4 fun w5 => stC (p.add 5) v5 w5 fun w6 => stC (p.add 6) v6 w6 fun w7 => stC (p.add 7) v7 w7 fun w8 => stC (p.add 8) v8 w8 fun w9 => stC (p.add 9) v9 w9 fun w10 => stC (p.add 10) v10 w10 fun w11 => K p w11 := by
  refine alC_box fun b w' hb k hlt => ⟨rfl, box11 hb rfl h1 fun w2 hb2 k2 => ?_⟩
  exact hK b w2 hb2 (Chg.fresh k k2 fun x hx => by rw [hx]; exact hlt) hlt
/-- a box made and filled -/
theorem mkbox12 {v0 v1 v2 v3 v4 v5 v6 v7 v8 v9 v10 v11 z0 z1 z2 z3 z4 z5 z6 z7 z8 z9 z10 z11 : Value} {K : Addr → World → Prop} (h1 : ([v0, v1, v2, v3, v4, v5, v6, v7, v8, v9, v10, v11] : List Value).all Value.oneCell' = true) (hK : ∀ b w', Blk w' b t [v0, v1, v2, v3, v4, v5, v6, v7, v8, v9, v10, v11] → Chg None w w' → w.heap.size ≤ b → K ⟨b, 0, none⟩ w') : alC #[z0, z1, z2, z3, z4, z5, z6, z7, z8, z9, z10, z11] t w fun p w0 => Array.size (#[v0, v1, v2, v3, v4, v5, v6, v7, v8, v9, v10, v11] : Array Value) = 12 ∧ stC (p.add 0) v0 w0 fun w1 => stC (p.add 1) v1 w1 fun w2 => stC (p.add 2) v2 w2 fun w3 => stC (p.add 3) v3 w3 fun w4 => stC (p.add 4) v4 w4 fun w5 => stC (p.add 5) v5 w5 fun w6 => stC (p.add 6) v6 w6 fun w7 => stC (p.add 7) v7 w7 fun w8 => stC (p.add 8) v8 w8 fun w9 => stC (p.add 9) v9 w9 fun w10 => stC (p.add 10) v10 w10 fun w11 => stC (p.add 11) v11 w11 fun w12 => K p w12 := by
  refine alC_box fun b w' hb k hlt => ⟨rfl, box12 hb rfl h1 fun w2 hb2 k2 => ?_⟩
  exact hK b w2 hb2 (Chg.fresh k k2 fun x hx => by rw [hx]; exact hlt) hlt
end
end Go.Sh
/-! ## ShU2 -/
set_option maxRecDepth 10000
namespace Go.Sh
open Go.Lib (decodeL isSpaceR)
/-- a string of these bytes -/
abbrev sb (l : List UInt8) : ByteArray := ⟨l.toArray⟩
theorem sb_list (l : List UInt8) : (sb l).data.toList = l := by simp [sb]
theorem sb_toList (l : List UInt8) : (sb l).toList = l := by rw [ByteArray.toList_eq, sb_list]
theorem sb_app (a b : List UInt8) : sb a ++ sb b = sb (a ++ b) := by
  apply ByteArray.ext
  rw [ByteArray.data_append]; simp [sb]
theorem sb_size (l : List UInt8) : (sb l).size = l.length := by simp [sb, ByteArray.size]
theorem sb_ext (l : List UInt8) (i j : Nat) : (sb l).extract i j = sb ((l.drop i).take (j - i)) := by
  apply ByteArray.ext
  simp [sb, ByteArray.data_extract]
theorem sb_of (s : ByteArray) : ∃ l, s = sb l := ⟨s.data.toList, by apply ByteArray.ext; simp [sb]⟩
theorem bt_sb (l : List UInt8) (i : Nat) : bt (sb l) i = (nb l i : Int) := by
  unfold bt nb; rw [sb_list]
theorem wrap_u8 {n : Nat} (h : n < 256) : IntKind.wrap .u8 ((n : Nat) : Int) = (n : Int) := by rw [IntKind.wrap_u8]; omega
theorem wrap_n' {n : Nat} (h : n < 9223372036854775808) : IntKind.wrap .i64 ((n : Nat) : Int) = ((n : Nat) : Int) := wrap_id (by omega) (by omega)

section
variable {P : Program} {w w' : World}
/-- the iterator of a string, at a place -/
def StrIt (w : World) (l : List UInt8) (b pos : Nat) : Prop := w.heap[b]? = some (.stringIter (sb l) pos)
theorem StrIt.lt {l : List UInt8} {b pos : Nat} (h : StrIt w l b pos) : b < w.heap.size := (Array.getElem?_eq_some_iff.1 h).1
theorem StrIt.chg {l : List UInt8} {b pos : Nat} {D : Nat → Prop} (h : StrIt w l b pos) (k : Chg D w w') (hd : ¬ D b) : StrIt w' l b pos := by
  unfold StrIt; rw [k.block b h.lt hd]; exact h
theorem str_range {t : TypeId} (ht : P.underlying t = some .string) {l : List UInt8} {K : Value → World → Prop} (hK : ∀ b w', StrIt w' l b 0 → Chg None w w' → w.heap.size ≤ b → K (.pointer (some ⟨b, 0, none⟩)) w') : sem P (Instr.range t (.string (sb l))) w K := by
  unfold sem
  rw [run_range_string w t (sb l) ht]
  exact hK _ _ (w.iter_heap _ _) (chg_alloc w _) (Nat.le_refl _)
theorem str_next {l : List UInt8} {b pos : Nat} (h : StrIt w l b pos) {ty : TypeId} {K : Value → World → Prop} (hend : l.length ≤ pos → K (.tuple #[.bool false]) w)
    (hmore : pos < l.length → ∀ w', StrIt w' l b (pos + (decN (l.drop pos)).2) → Chg (fun k => k = b) w w' → K (.tuple #[.bool true, goInt pos, .int .i32 ((decN (l.drop pos)).1 : Int)]) w') : sem P (Instr.next (.pointer (some ⟨b, 0, none⟩)) true ty) w K := by
  have h' : w.heap[b]? = some (.stringIter (sb l) pos) := h
  by_cases hp : pos < l.length
  · have hrun : (Instr.next (.pointer (some ⟨b, 0, none⟩)) true ty).run P w = .ok (.tuple #[.bool true, goInt pos, .int .i32 ((decN (l.drop pos)).1 : Int)]) { w with heap := w.heap.setIfInBounds b (.stringIter (sb l) (pos + (decN (l.drop pos)).2)) } := by
      have hz : pos < (sb l).size := by rw [sb_size]; exact hp
      have hd : Utf8.decode (sb l) pos = decN (l.drop pos) := decode_drop l pos
      simp only [Instr.next, getObj, setObj, Sem.run_bind, Sem.run]
      simp [h', hz, hd, Sem.run]
    unfold sem
    rw [hrun]
    refine hmore hp _ ?_ ⟨rfl, rfl, rfl, by simp, ?_⟩
    · unfold StrIt
      simp [Array.getElem?_setIfInBounds, h.lt]
    · intro k _ hk
      show (w.heap.setIfInBounds b _)[k]? = _
      rw [Array.getElem?_setIfInBounds_ne (fun e => hk e.symm)]
  · have hrun : (Instr.next (.pointer (some ⟨b, 0, none⟩)) true ty).run P w = .ok (.tuple #[.bool false]) w := by
      have hz : ¬ pos < (sb l).size := by rw [sb_size]; exact hp
      simp [Instr.next, getObj, Sem.run, h', hz]
    unfold sem
    rw [hrun]
    exact hend (by omega)
end
end Go.Sh
/-! ## DkModel -/
set_option maxRecDepth 10000
namespace Go.Proofs.YtfjhhpoabdpdhaaGreatDoor
open Go.Sh
abbrev Str := List UInt8
/-- a loose write -/
structure WrM where
  num : Nat
  at_ : Nat
  data : List UInt8
structure FileM where
  now : List UInt8
  lasts : List UInt8
  loose : List WrM
inductive ActM where
  | create (n : Str) (f : Nat)
  | rename (a b : Str)
  | remove (n : Str)
abbrev Names := List (Str × Nat)
structure DiskM where
  room : Int
  names : Names
  lasting : Names
  loose : List ActM
  writes : Nat
  acts : Nat
  strike : Nat
  fault : Int
  dead : Bool
  file : Nat → FileM
/-- an act on names -/
def ActM.on : ActM → Names → Names
  | .create n f, m => Go.Sh.put n f m
  | .rename a b, m => match Go.Sh.look a m with
    | some f => Go.Sh.put b f (Go.Sh.del a m)
    | none => m
  | .remove n, m => Go.Sh.del n m
def laidB (b : List UInt8) (at_ : Nat) (data : List UInt8) : List UInt8 :=
  if data = [] then b
  else ((b ++ List.replicate (at_ + data.length - b.length) 0).take at_) ++ data ++ ((b ++ List.replicate (at_ + data.length - b.length) 0).drop (at_ + data.length))
theorem laidB_len (b : List UInt8) (at_ : Nat) {data : List UInt8} (h : data ≠ []) : (laidB b at_ data).length = max b.length (at_ + data.length) := by
  unfold laidB
  rw [if_neg h]
  simp only [List.length_append, List.length_take, List.length_drop, List.length_replicate]
  omega
def usedM (M : DiskM) : Nat := (M.names.map fun x => (M.file x.2).now.length).sum
def bump (M : DiskM) : DiskM := { M with acts := M.acts + 1, strike := M.strike - 1 }
/-- what an act comes to: e speaks against it, or it is done -/
def actR (M : DiskM) (e : Int) (P : DiskM → Prop) (M' : DiskM) (r : Int) : Prop :=
  (M.dead = true ∧ M' = M ∧ r = 125) ∨
  (M.dead = false ∧ e ≠ 0 ∧ M' = bump M ∧ r = e) ∨
  (M.dead = false ∧ e = 0 ∧ M.strike = 1 ∧ M.fault ≠ 125 ∧ M' = bump M ∧ r = M.fault) ∨
  (M.dead = false ∧ e = 0 ∧ ¬ (M.strike = 1 ∧ M.fault ≠ 125) ∧ ∃ M2, P M2 ∧ M' = (if M.strike = 1 then { M2 with dead := true } else M2) ∧ r = if M.strike = 1 then 125 else 0)
def setFile (M : DiskM) (f : Nat) (F : FileM) : Nat → FileM := fun k => if k = f then F else M.file k
/-- the files that a disk knows -/
def ActM.files : ActM → List Nat
  | .create _ f => [f]
  | _ => []
def idsM (M : DiskM) : List Nat := M.names.map (·.2) ++ M.lasting.map (·.2) ++ M.loose.flatMap ActM.files
def createM (M : DiskM) (n : Str) (f : Nat) : DiskM := { M with names := Go.Sh.put n f M.names, loose := M.loose ++ [.create n f], file := setFile M f ⟨[], [], []⟩ }
def renameM (M : DiskM) (a b : Str) : DiskM := { M with names := (ActM.rename a b).on M.names, loose := M.loose ++ [.rename a b] }
def removeM (M : DiskM) (n : Str) : DiskM := { M with names := Go.Sh.del n M.names, loose := M.loose ++ [.remove n] }
def writeM (M : DiskM) (n : Str) (at_ : Nat) (data : List UInt8) : DiskM :=
  if data = [] then M
  else match Go.Sh.look n M.names with
    | some f => { M with file := setFile M f ⟨laidB (M.file f).now at_ data, (M.file f).lasts, (M.file f).loose ++ [⟨M.writes, at_, data⟩]⟩, writes := M.writes + 1 }
    | none => M
def syncM (M : DiskM) (n : Str) : DiskM :=
  match Go.Sh.look n M.names with
  | some f => { M with file := setFile M f ⟨(M.file f).now, (M.file f).now, []⟩ }
  | none => M
/-- may this be a file's name? -/
def pieceOk (p : List UInt8) : Bool := !(p == []) && !(p == [46]) && !(p == [46, 46])
/-- the pieces between the slashes -/
def pieces : List UInt8 → List (List UInt8)
  | [] => [[]]
  | c :: r => if c = 47 then [] :: pieces r else match pieces r with
    | p :: ps => (c :: p) :: ps
    | [] => [[c]]
def nameOk (s : Str) : Bool := decide (1 ≤ s.length ∧ s.length ≤ 255) && s.all (fun c => decide (33 ≤ c.toNat ∧ c.toNat ≤ 126)) && (pieces s).all pieceOk
def thereE (M : DiskM) (s : Str) : Int := if nameOk s = true then (match Go.Sh.look s M.names with | some _ => 0 | none => 121) else 120
end Go.Proofs.YtfjhhpoabdpdhaaGreatDoor
/-! ## ShL8 -/
namespace Go.Sh
open Go.ChangeShapes
variable {P : Program}

/-! ### structs of plain cells, compared -/
inductive EqF (P : Program) (xs ys : Array Value) : List (Nat × Nat) → Bool → Prop
  | nil : EqF P xs ys [] true
  | int {t o : Nat} {k k' : IntKind} {a b : Int} {r : List (Nat × Nat)} {q : Bool} : P.underlying t = some (.int k') → xs[o]? = some (.int k a) → ys[o]? = some (.int k b) → EqF P xs ys r q → EqF P xs ys ((t, o) :: r) ((a == b) && q)
  | bool {t o : Nat} {a b : Bool} {r : List (Nat × Nat)} {q : Bool} : P.underlying t = some .bool → xs[o]? = some (.bool a) → ys[o]? = some (.bool b) → EqF P xs ys r q → EqF P xs ys ((t, o) :: r) ((a == b) && q)
  | str {t o : Nat} {a b : ByteArray} {r : List (Nat × Nat)} {q : Bool} : P.underlying t = some .string → xs[o]? = some (.string a) → ys[o]? = some (.string b) → EqF P xs ys r q → EqF P xs ys ((t, o) :: r) ((a.toList == b.toList) && q)
theorem eqF_run (w : World) (d : Nat) {xs ys : Array Value} : ∀ {fs : List Field} {tb : List (Nat × Nat)} {q : Bool}, fs.map (fun f => (f.name != "_", f.type, f.offset)) = tb.map (fun x => (true, x.1, x.2)) → EqF P xs ys tb q → (Op.eqFields (d + 1) xs ys fs).run P w = .ok q w
  | [], _, _, h, .nil => by simp [Op.eqFields]
  | f :: fs, (t, o) :: tb, _, h, e => by
    simp only [List.map_cons, List.cons.injEq, Prod.mk.injEq, bne_iff_ne] at h
    obtain ⟨⟨hn, rfl, rfl⟩, h⟩ := h
    have pk : ∀ {k}, P.underlying f.type = some (.int k) → P.plainKey f.type = true := fun hu => by unfold Program.plainKey; rw [hu]
    have pb : P.underlying f.type = some .bool → P.plainKey f.type = true := fun hu => by unfold Program.plainKey; rw [hu]
    have ps : P.underlying f.type = some .string → P.plainKey f.type = true := fun hu => by unfold Program.plainKey; rw [hu]
    cases e with
    | @int _ _ k k' a b _ q hu hx hy e =>
      have ih := eqF_run w d h e
      simp only [Op.eqFields, hn, ne_eq, not_false_eq_true, if_true, Sem.run_bind, run_part_plain w (pk hu) hx, run_part_plain w (pk hu) hy, run_equalIn_int w d _ _ _ _ _ hu, Result.andThen_ok]
      cases h1 : (a == b) <;> simp [ih]
    | @bool _ _ a b _ q hu hx hy e =>
      have ih := eqF_run w d h e
      simp only [Op.eqFields, hn, ne_eq, not_false_eq_true, if_true, Sem.run_bind, run_part_plain w (pb hu) hx, run_part_plain w (pb hu) hy, run_equalIn_bool' w d _ _ _ hu, Result.andThen_ok]
      cases h1 : (a == b) <;> simp [ih]
    | @str _ _ a b _ q hu hx hy e =>
      have ih := eqF_run w d h e
      simp only [Op.eqFields, hn, ne_eq, not_false_eq_true, if_true, Sem.run_bind, run_part_plain w (ps hu) hx, run_part_plain w (ps hu) hy, run_equalIn_string w d _ _ _ hu, Result.andThen_ok]
      cases h1 : (a.toList == b.toList) <;> simp [ih]
  | [], _ :: _, _, h, _ => by simp at h
  | _ :: _, [], _, h, _ => by simp at h
/-- A type whose values are compared field by field. -/
structure EqT (P : Program) (t : Nat) (tb : List (Nat × Nat)) : Prop where
  guard : P.eqGuardType P.depth t = false
  under : P.underlying t = some (.struct (P.fieldsOf t))
  held : P.stoodInHeld t = false
  tab : (P.fieldsOf t).toList.map (fun f => (f.name != "_", f.type, f.offset)) = tb.map (fun x => (true, x.1, x.2))
theorem struct_eql {t : Nat} {tb : List (Nat × Nat)} (T : EqT P t tb) {x y : Operand} {xs ys : Array Value} {q : Bool} (e : EqF P xs ys tb q) {w : World} {K : Value → Prop} (hK : K (.bool q)) : semR P (do eqGuard .eql t x y (.agg xs) (.agg ys); binOp .eql t (.agg xs) (.agg ys)) w K := by
  unfold semR
  have := eqF_run w 9998 T.tab e
  simp only [Sem.run_bind, run_eqGuard_agg w .eql t x y xs ys T.guard, Result.andThen_ok, run_eql_struct, run_equalIn_struct w 9999 t xs ys T.under T.held, this]
  exact ⟨trivial, hK⟩
theorem struct_neq {t : Nat} {tb : List (Nat × Nat)} (T : EqT P t tb) {x y : Operand} {xs ys : Array Value} {q : Bool} (e : EqF P xs ys tb q) {w : World} {K : Value → Prop} (hK : K (.bool (!q))) : semR P (do eqGuard .neq t x y (.agg xs) (.agg ys); binOp .neq t (.agg xs) (.agg ys)) w K := by
  unfold semR
  have := eqF_run w 9998 T.tab e
  simp only [Sem.run_bind, run_eqGuard_agg w .neq t x y xs ys T.guard, Result.andThen_ok, run_neq_struct, run_equalIn_struct w 9999 t xs ys T.under T.held, this]
  exact ⟨trivial, hK⟩

/-! ### make with a capacity, elements of any size -/
theorem make_empty {t e sz by_ : Nat} (T : SlT P t e sz by_) {w : World} {c : Nat} (hb : by_ * c ≤ 281474976710656) (h63 : c ≤ 9223372036854775807) {K : Value → World → Prop}
    (hK : ∀ b w', Own w' e sz (some ⟨b, 0, .none⟩) 0 c [] → Chg None w w' → w.heap.size ≤ b → K (.slice (some ⟨b, 0, .none⟩) 0 c) w') : sem P (Instr.makeSlice t (.int .i64 0) (.int .i64 (c : Int))) w K := by
  obtain ⟨i, z, hi, hz, rfl, rfl, hzs⟩ := T.get
  have hb' : (i.bytes : Int) * (c : Int) ≤ 281474976710656 := by
    have h : ((i.bytes * c : Nat) : Int) ≤ 281474976710656 := by omega
    rwa [Int.natCast_mul] at h
  unfold sem
  rw [run_make (P := P) w t e i z T.ht hi hz .i64 .i64 0 c (by omega) (by omega) hb' (by omega)]
  simp only [Int.toNat_natCast]
  refine hK _ _ ⟨by simp, .inr ⟨w.heap.size, (madeCells z.cells (c * i.size)).toList, rfl, ?_, by simp [size_madeCells], Nat.zero_le _⟩⟩ (chg_alloc w _) (Nat.le_refl _)
  simpa using blk_alloc (w := w) (t := e) (cs := madeCells z.cells (c * i.size))

/-! ### lists of structs -/
theorem flat_get {α : Type} (enc : α → List Value) (sz : Nat) (hs : ∀ x, (enc x).length = sz) : ∀ (l : List α) (i j : Nat) (x : α), l[i]? = some x → j < sz → (l.flatMap enc)[i * sz + j]? = (enc x)[j]?
  | [], i, _, _, h, _ => by simp at h
  | y :: l, 0, j, x, h, hj => by
    simp only [List.getElem?_cons_zero, Option.some.injEq] at h; subst h
    rw [List.flatMap_cons, Nat.zero_mul, Nat.zero_add, List.getElem?_append_left (by rw [hs]; exact hj)]
  | y :: l, i + 1, j, x, h, hj => by
    simp only [List.getElem?_cons_succ] at h
    rw [List.flatMap_cons, List.getElem?_append_right (by rw [hs, Nat.add_mul]; omega), hs, show (i + 1) * sz + j - sz = i * sz + j by rw [Nat.add_mul]; omega]
    exact flat_get enc sz hs l i j x h hj
theorem flat_len {α : Type} (enc : α → List Value) (sz : Nat) (hs : ∀ x, (enc x).length = sz) (l : List α) : (l.flatMap enc).length = l.length * sz := by
  induction l with
  | nil => simp
  | cons x l ih => rw [List.flatMap_cons, List.length_append, ih, hs, List.length_cons, Nat.add_mul]; omega
/-- field j of element i -/
theorem rd_fld {α : Type} {enc : α → List Value} {sz : Nat} (hs : ∀ x, (enc x).length = sz) {w : World} {S : Nat → Prop} {p : Addr} {l : List α} (h : Lies w S (some p) (l.flatMap enc)) {i : Int} {x : α} (hx : l[i.toNat]? = some x) {j : Nat} {v : Value} (hv : (enc x)[j]? = some v) : w.cell? ((p.add (Int.toNat i * sz)).add j) = some v := by
  have hj : j < sz := by have := (List.getElem?_eq_some_iff.1 hv).1; rwa [hs] at this
  obtain ⟨q, hq, _, hc⟩ := h (i.toNat * sz + j) v (by rw [flat_get enc sz hs l _ j x hx hj]; exact hv)
  cases hq
  rw [add_add']; exact hc
theorem lies_flat_some {α : Type} {enc : α → List Value} {sz : Nat} (hs : ∀ x, (enc x).length = sz) (h0 : 0 < sz) {w : World} {S : Nat → Prop} {a : Option Addr} {l : List α} (h : Lies w S a (l.flatMap enc)) {i : Nat} (hi : i < l.length) : ∃ p, a = some p := by
  refine h.some (j := i * sz) ?_
  rw [flat_len enc sz hs]
  exact Nat.mul_lt_mul_of_pos_right hi h0
end Go.Sh
/-! ## ShL10 -/
namespace Go.Sh
open Go.ChangeShapes
variable {P : Program}
/-- field j of element i, written -/
theorem st_fld {w : World} {e sz n c : Nat} {a : Option Addr} {l : List Value} (h : Own w e sz a n c l) {i : Int} {j : Nat} (hi : i.toNat < n) (hj : j < sz) {v : Value} (hv : v.oneCell' = true) {K : World → Prop} (hK : ∀ w', Own w' e sz a n c (l.set (i.toNat * sz + j) v) → Chg (At a) w w' → K w') :
    opnA a fun ad => stC ((ad.add (Int.toNat i * sz)).add j) v w K := by
  have hl := h.len
  have hlt : i.toNat * sz + j < n * sz := by
    have : (i.toNat + 1) * sz ≤ n * sz := Nat.mul_le_mul_right _ hi
    rw [Nat.add_mul] at this; omega
  rcases h.row with ⟨rfl, h2, h3⟩ | ⟨b, rest, rfl, h2, h3, h4⟩
  · omega
  · simp only [opnA, add_add', Addr.add_lit, Nat.zero_add]
    refine h2.store (by rw [List.length_append]; omega) hv fun b1 k1 => hK _ ⟨by simp [hl], .inr ⟨b, rest, rfl, ?_, by simpa using h3, h4⟩⟩ (k1.mono fun k _ hk => ⟨_, rfl, hk.symm⟩)
    rw [List.set_append_left _ _ (by omega)] at b1; exact b1
theorem flat_set {α : Type} (enc : α → List Value) (sz : Nat) (hs : ∀ x, (enc x).length = sz) (done rest : List α) (x y : α) {j : Nat} {v : Value} (hj : j < sz) (hy : enc y = (enc x).set j v) : ((done ++ x :: rest).flatMap enc).set (done.length * sz + j) v = (done ++ y :: rest).flatMap enc := by
  rw [List.flatMap_append, List.flatMap_append, List.flatMap_cons, List.flatMap_cons, ← flat_len enc sz hs done, List.set_append_right _ _ (by omega), Nat.add_sub_cancel_left, List.set_append_left _ _ (by rw [hs]; exact hj), hy]
/-- A list of slices: of each its length and its cells. -/
def LL (w : World) (S : Nat → Prop) (a : Option Addr) (ls : List (Nat × List Value)) : Prop :=
  ∀ (j : Nat) (x : Nat × List Value), ls[j]? = some x → ∃ p q c, a = some p ∧ S p.block ∧ w.cell? (p.add j) = some (.slice q x.1 c) ∧ x.1 ≤ c ∧ Lies w S q x.2
theorem LL.chg {w w' : World} {S D : Nat → Prop} {a : Option Addr} {ls : List (Nat × List Value)} (h : LL w S a ls) (k : Chg D w w') (hd : ∀ x, x < w.heap.size → S x → ¬ D x) : LL w' S a ls := fun j r hj => by
  obtain ⟨p, q, c, h1, h2, h3, h4, h5⟩ := h j r hj
  refine ⟨p, q, c, h1, h2, ?_, h4, h5.chg k hd⟩
  have hb := World.block_lt_of_cell? _ _ h3
  rw [block_add] at hb
  rw [World.cell?_of_block (w := w) (by rw [block_add]; exact k.block _ hb (hd _ hb h2))]
  exact h3
theorem LL.chg0 {w w' : World} {S : Nat → Prop} {a : Option Addr} {ls : List (Nat × List Value)} (h : LL w S a ls) (k : Chg None w w') : LL w' S a ls := h.chg k fun _ _ _ h => h
theorem rd_ll {w : World} {S : Nat → Prop} {a : Option Addr} {ls : List (Nat × List Value)} (h : LL w S a ls) {i : Int} {x : Nat × List Value} (hx : ls[i.toNat]? = some x) {K : Option Addr → Nat → Nat → Prop} (hK : ∀ q c, x.1 ≤ c → Lies w S q x.2 → K q x.1 c) : opnA a fun ad => opnL (w.cell? (ad.add (Int.toNat i * 1))) K := by
  obtain ⟨p, q, c, rfl, _, h3, h4, h5⟩ := h _ _ hx
  simp only [opnA, Nat.mul_one, h3, opnL]
  exact hK q c h4 h5
/-- one more struct behind a list of one's own -/
theorem push_struct {t e sz by_ : Nat} (T : SlT P t e sz by_) {w0 w : World} {a : Option Addr} {n c : Nat} {l : List Value} (h : Own w e sz a n c l) (f : ∀ k, At a k → w0.heap.size ≤ k) (k0 : Chg None w0 w) {cs : Array Value} (hcs : cs.size = sz) (h1 : cs.toList.all Value.oneCell' = true) (hn : (n + 1) * by_ ≤ 140737488355328) (hn2 : n < 140737488355328) {K : Option Addr → Nat → Nat → World → Prop}
    (hK : ∀ a' c' w', Own w' e sz a' (n + 1) c' (l ++ cs.toList) → (∀ k, At a' k → w0.heap.size ≤ k) → Chg None w0 w' → K a' (n + 1) c' w') :
    alC cs e w fun p w5 => sem P (Builtin.append_ #[t, t] t #[.slice a n c, .slice (some p) 1 1]) w5 fun v6 w7 => opnL (some v6) fun x xn xc => K x xn xc w7 := by
  unfold alC
  have ka : Chg None w (w.alloc (.cells cs e)) := chg_alloc w _
  have hsrc : Src P sz t (.slice (some ⟨w.heap.size, 0, none⟩) 1 1) 1 cs.toList (w.alloc (.cells cs e)) := src_two (vs := cs.toList) (t := e) (w := w) T.ht (by simpa using hcs) (fun u hu => List.all_eq_true.1 h1 u hu)
  refine append_own T (w := w.alloc (.cells cs e)) (h.chg0 ka) hsrc (by simp only [maxLen]; omega) hn fun a' c' w2 o2 k2 f2 => ?_
  refine hK a' c' w2 o2 ?_ (Chg.fresh (k0.none_trans ka) k2 f)
  rcases f2 with rfl | ⟨b, rfl, hb⟩
  · exact f
  · rintro k ⟨p, hp, rfl⟩; cases hp; exact Nat.le_trans (k0.none_trans ka).size hb
end Go.Sh
/-! ## ShL14 -/
namespace Go.Sh
open Go.ChangeShapes
variable {P : Program}
section
theorem opnI_e {k : IntKind} {n : Int} {K : Int → Prop} : opnI k (some (.int k n)) K = K n := propext ⟨fun h => h.2, fun h => ⟨rfl, h⟩⟩
theorem opnA_e {a : Addr} {K : Addr → Prop} : opnA (some a) K = K a := rfl
theorem opnV_e {v : Value} {K : Value → Prop} : opnV (some v) K = K v := rfl
theorem opnM_e {a : Option Nat} {K : Option Nat → Prop} : opnM (some (.map a)) K = K a := rfl
/-- a call's five fields, as they come back -/
theorem opnG5 {x0 x1 x2 x3 : Int} {x4 : Bool} {K : Int → Int → Int → Int → Bool → Prop} (h : K x0 x1 x2 x3 x4) : opnG (some (.agg #[.int .i64 x0, .int .i64 x1, .int .i64 x2, .int .i64 x3, .bool x4])) fun y => y.size = 5 ∧ opnI .i64 (y[0]?) fun a => opnI .i64 (y[1]?) fun b => opnI .i64 (y[2]?) fun c => opnI .i64 (y[3]?) fun d => opnB (y[4]?) fun e => K a b c d e :=
  ⟨rfl, ⟨rfl, ⟨rfl, ⟨rfl, ⟨rfl, h⟩⟩⟩⟩⟩
/-- a string and a number, as they come back -/
theorem opnT_SI {s : ByteArray} {n : Int} {K : ByteArray → Int → Prop} (h : K s n) : opnT (some (.tuple #[.string s, .int .i64 n])) fun y => y.size = 2 ∧ opnS (y[0]?) fun a => opnI .i64 (y[1]?) fun b => K a b := ⟨rfl, ⟨rfl, h⟩⟩
end
section
variable {w w' : World} {b t : Nat} {x0 x1 x2 x3 : Int} {x4 : Bool}
abbrev box5v (x0 x1 x2 x3 : Int) (x4 : Bool) : List Value := [.int .i64 x0, .int .i64 x1, .int .i64 x2, .int .i64 x3, .bool x4]
/-- a box of four numbers and a bool, read -/
theorem ld5 (h : Blk w b t (box5v x0 x1 x2 x3 x4)) {K : Int → Int → Int → Int → Bool → Prop} (hK : K x0 x1 x2 x3 x4) : opnI .i64 (w.cell? ((⟨b, 0, none⟩ : Addr).add 0)) fun a => opnI .i64 (w.cell? ((⟨b, 0, none⟩ : Addr).add 1)) fun b' => opnI .i64 (w.cell? ((⟨b, 0, none⟩ : Addr).add 2)) fun c => opnI .i64 (w.cell? ((⟨b, 0, none⟩ : Addr).add 3)) fun d => opnB (w.cell? ((⟨b, 0, none⟩ : Addr).add 4)) fun e => K a b' c d e :=
  opnI_c (h.rd 0 rfl) (opnI_c (h.rd 1 rfl) (opnI_c (h.rd 2 rfl) (opnI_c (h.rd 3 rfl) (opnB_c (h.rd 4 rfl) hK))))
/-- the box written over -/
theorem st5 {o0 o1 o2 o3 o4 : Value} (h : Blk w b t [o0, o1, o2, o3, o4]) {K : World → Prop} (hK : ∀ w', Blk w' b t (box5v x0 x1 x2 x3 x4) → Chg (fun k => k = b) w w' → K w') : Array.size (#[.int .i64 x0, .int .i64 x1, .int .i64 x2, .int .i64 x3, .bool x4] : Array Value) = 5 ∧ stC ((⟨b, 0, none⟩ : Addr).add 0) (.int .i64 x0) w fun w1 => stC ((⟨b, 0, none⟩ : Addr).add 1) (.int .i64 x1) w1 fun w2 => stC ((⟨b, 0, none⟩ : Addr).add 2) (.int .i64 x2) w2 fun w3 => stC ((⟨b, 0, none⟩ : Addr).add 3) (.int .i64 x3) w3 fun w4 => stC ((⟨b, 0, none⟩ : Addr).add 4) (.bool x4) w4 fun w5 => K w5 :=
  ⟨rfl, box5 h rfl rfl fun w2 hb2 k2 => hK w2 hb2 k2⟩
/-- made and filled -/
theorem mk5 {z0 z1 z2 z3 z4 : Value} {K : Addr → World → Prop} (hK : ∀ b w', Blk w' b t (box5v x0 x1 x2 x3 x4) → Chg None w w' → w.heap.size ≤ b → K ⟨b, 0, none⟩ w') : alC #[z0, z1, z2, z3, z4] t w fun p w0 => Array.size (#[.int .i64 x0, .int .i64 x1, .int .i64 x2, .int .i64 x3, .bool x4] : Array Value) = 5 ∧ stC (p.add 0) (.int .i64 x0) w0 fun w1 => stC (p.add 1) (.int .i64 x1) w1 fun w2 => stC (p.add 2) (.int .i64 x2) w2 fun w3 => stC (p.add 3) (.int .i64 x3) w3 fun w4 => stC (p.add 4) (.bool x4) w4 fun w5 => K p w5 :=
  mkbox5 rfl hK
end
/-! ### lists of strings -/
abbrev strv (l : List UInt8) : Value := .string ⟨l.toArray⟩
theorem rd_str {w : World} {e n c : Nat} {a : Option Addr} {ls : List (List UInt8)} (h : Own w e 1 a n c (ls.map strv)) {i : Int} {l : List UInt8} (hl : ls[i.toNat]? = some l) {K : ByteArray → Prop} (hK : K ⟨l.toArray⟩) : opnA a fun ad => opnS (w.cell? (ad.add (Int.toNat i * 1))) K := by
  obtain ⟨p, rfl, hc⟩ := h.cell (j := i.toNat) (v := strv l) (by rw [List.getElem?_map, hl]; rfl)
  rw [opnA_e, Nat.mul_one, hc]
  exact hK
/-- one string more -/
theorem push_str {t e by_ : Nat} (T : SlT P t e 1 by_) {w0 w : World} {a : Option Addr} {n c : Nat} {ls : List (List UInt8)} (h : Own w e 1 a n c (ls.map strv)) (f : ∀ k, At a k → w0.heap.size ≤ k) (k0 : Chg None w0 w) {l : List UInt8} (hn : (n + 1) * by_ ≤ 140737488355328) (hn2 : n < 140737488355328) {K : Option Addr → Nat → Nat → World → Prop}
    (hK : ∀ a' c' w', Own w' e 1 a' (n + 1) c' ((ls ++ [l]).map strv) → (∀ k, At a' k → w0.heap.size ≤ k) → Chg None w0 w' → K a' (n + 1) c' w') :
    alC #[.string ⟨l.toArray⟩] e w fun p w2 => sem P (Builtin.append_ #[t, t] t #[.slice a n c, .slice (some p) 1 1]) w2 fun v w3 => opnL (some v) fun x xn xc => K x xn xc w3 := by
  refine push_struct T (w0 := w0) h f k0 (cs := #[.string ⟨l.toArray⟩]) rfl rfl hn hn2 fun a' c' w' o g k => ?_
  exact hK a' c' w' (by simpa using o) g k
end Go.Sh
/-! ## ShL15 -/
namespace Go.Sh
open Go.ChangeShapes
variable {P : Program}
section
variable {w w' : World} {b t : Nat}
theorem add_zero (a : Addr) : a.add 0 = a := by cases a; simp [Addr.add]
theorem add_at (b o i : Nat) : (⟨b, o, none⟩ : Addr).add i = ⟨b, o + i, none⟩ := Addr.add_lit ..
theorem slP_zero (a : Addr) (m sz : Nat) : slP a 0 m sz = some a := by
  unfold slP
  split
  · rfl
  · rw [Nat.zero_mul, add_zero]
theorem alZ_box {cs : Array Value} (hz : ((P.info? t).bind (·.zero)).map (·.cells) = some cs) {K : Addr → World → Prop} (hK : ∀ b w', Blk w' b t cs.toList → Chg None w w' → w.heap.size ≤ b → K ⟨b, 0, none⟩ w') : alZ P t w K := by
  unfold alZ
  obtain ⟨z, h1, h2⟩ := Option.map_eq_some_iff.1 hz
  rw [h1]
  show K ⟨w.heap.size, 0, none⟩ (w.alloc (.cells z.cells t))
  rw [h2]
  exact hK _ _ blk_alloc (chg_alloc w _) (Nat.le_refl _)
theorem rowFrom_of {a : Addr} : ∀ (l : List Value) (i : Nat), (∀ j v, l[j]? = some v → w.cell? (a.add (i + j)) = some v) → rowFrom w a i l.length = some l
  | [], _, _ => rfl
  | v :: l, i, h => by
    rw [List.length_cons, rowFrom]
    have h0 := h 0 v rfl
    rw [Nat.add_zero] at h0
    rw [h0, rowFrom_of l (i + 1) fun j u hu => by
      have := h (j + 1) u (by simpa using hu)
      rwa [show i + (j + 1) = i + 1 + j by omega] at this]
theorem row_c {a : Addr} {l : List Value} {n : Nat} (hn : l.length = n) (h : ∀ j v, l[j]? = some v → w.cell? (a.add j) = some v) {K : Array Value → Prop} (hK : K l.toArray) : opnRow w a n K := by
  subst hn
  unfold opnRow
  rw [rowFrom_of l 0 fun j v hv => by rw [Nat.zero_add]; exact h j v hv]
  exact hK
/-- a row of a block, read -/
theorem Blk.row {pre l post : List Value} (h : Blk w b t (pre ++ l ++ post)) {o n : Nat} (ho : pre.length = o) (hn : l.length = n) {K : Array Value → Prop} (hK : K l.toArray) : opnRow w ⟨b, o, none⟩ n K :=
  row_c hn (fun j v hv => by
    rw [add_at, h.cell, ← ho, List.append_assoc, List.getElem?_append_right (by omega), Nat.add_sub_cancel_left, List.getElem?_append_left (List.getElem?_eq_some_iff.1 hv).1]
    exact hv) hK
theorem Blk.rowAll {l : List Value} (h : Blk w b t l) {n : Nat} (hn : l.length = n) {K : Array Value → Prop} (hK : K l.toArray) : opnRow w ⟨b, 0, none⟩ n K :=
  Blk.row (pre := []) (post := []) (by simpa using h) rfl hn hK
theorem seg_stL {K : World → Prop} {o : Nat} {post : List Value} : ∀ (vs pre done old : List Value) (w : World), pre.length = o → Blk w b t (pre ++ done ++ old ++ post) → vs.length = old.length → (∀ v ∈ vs, v.oneCell' = true) → (∀ w', Blk w' b t (pre ++ done ++ vs ++ post) → Chg (fun k => k = b) w w' → K w') → stL ⟨b, o, none⟩ done.length vs w K
  | [], pre, done, old, w, _, h, hl, _, hK => by
    have : old = [] := List.eq_nil_of_length_eq_zero hl.symm
    subst this
    exact hK w h (Chg.refl _ _)
  | v :: vs, pre, done, x :: old, w, ho, h, hl, h1, hK => by
    show stC ((⟨b, o, none⟩ : Addr).add done.length) v w fun w' => stL ⟨b, o, none⟩ (done.length + 1) vs w' K
    rw [add_at]
    refine h.store (by simp; omega) (h1 v (by simp)) fun h' k' => ?_
    have e : (pre ++ done ++ x :: old ++ post).set (o + done.length) v = pre ++ (done ++ [v]) ++ old ++ post := by
      have : pre ++ done ++ x :: old ++ post = (pre ++ done) ++ x :: (old ++ post) := by simp
      rw [this, set_mid' (by simp; omega)]; simp
    rw [e] at h'
    have := seg_stL (K := K) vs pre (done ++ [v]) old _ ho h' (by simpa using hl) (fun u hu => h1 u (by simp [hu])) (fun w' hb k => hK w' (by simpa using hb) (Chg.trans k' k (fun _ _ h => h) (fun _ _ h => h)))
    simpa using this
  | _ :: _, _, _, [], _, _, _, hl, _, _ => by simp at hl
/-- a row of a block, written -/
theorem Blk.stRow {pre old post : List Value} (h : Blk w b t (pre ++ old ++ post)) {o n : Nat} (ho : pre.length = o) {cs : Array Value} (hn : cs.size = n) (hl : cs.size = old.length) (h1 : cs.toList.all Value.oneCell' = true) {K : World → Prop} (hK : ∀ w', Blk w' b t (pre ++ cs.toList ++ post) → Chg (fun k => k = b) w w' → K w') : Sh.stRow ⟨b, o, none⟩ cs n w K :=
  ⟨hn, seg_stL cs.toList pre [] old w ho (by simpa using h) (by simpa using hl) (List.all_eq_true.1 h1) fun w' hb k => hK w' (by simpa using hb) k⟩
theorem Blk.stAll {old : List Value} (h : Blk w b t old) {n : Nat} {cs : Array Value} (hn : cs.size = n) (hl : cs.size = old.length) (h1 : cs.toList.all Value.oneCell' = true) {K : World → Prop} (hK : ∀ w', Blk w' b t cs.toList → Chg (fun k => k = b) w w' → K w') : Sh.stRow ⟨b, 0, none⟩ cs n w K :=
  Blk.stRow (pre := []) (post := []) (by simpa using h) rfl hn hl h1 fun w' hb k => hK w' (by simpa using hb) k
/-- one cell of a row -/
theorem Blk.stAt {pre post : List Value} {x v : Value} (h : Blk w b t (pre ++ x :: post)) {o : Nat} (ho : pre.length = o) (hv : v.oneCell' = true) {K : World → Prop} (hK : ∀ w', Blk w' b t (pre ++ v :: post) → Chg (fun k => k = b) w w' → K w') : stC ⟨b, o, none⟩ v w K :=
  h.store (by simp; omega) hv fun h' k' => hK _ (by rwa [set_mid' ho] at h') k'
theorem built_c {t : Nat} {parts : Array (Nat × Value)} {cells : Array Value} (h : P.built t parts.toList = some cells) {K : Value → Prop} (hK : K (.agg cells)) : semP P (Instr.build t parts) K := by
  unfold semP
  rw [run_build (P := P) default t parts cells h]
  exact hK
end
/-! ### pointers against nil -/
theorem ptr_nil_eql {t : Nat} {x y : Operand} (h : P.underlying t = some (.pointer (P.pointee t))) {p : Option Addr} {w : World} {K : Value → Prop} : semR P (do eqGuard .eql t x y (.pointer p) (.pointer none); binOp .eql t (.pointer p) (.pointer none)) w K = K (.bool p.isNone) := by
  unfold semR
  simp [eqGuard, run_eql_pointer_nil w t p h]
theorem ptr_nil_neq {t : Nat} {x y : Operand} (h : P.underlying t = some (.pointer (P.pointee t))) {p : Option Addr} {w : World} {K : Value → Prop} : semR P (do eqGuard .neq t x y (.pointer p) (.pointer none); binOp .neq t (.pointer p) (.pointer none)) w K = K (.bool (!p.isNone)) := by
  unfold semR
  simp [eqGuard, run_neq_pointer_nil w t p h]

/-! ### bytes behind a list of one's own -/
/-- one byte more -/
theorem push_u8 {t e : Nat} (T : SlT P t e 1 1) {w0 w : World} {a : Option Addr} {n c : Nat} {l : List UInt8} (h : Own w e 1 a n c (bvs l)) (f : ∀ k, At a k → w0.heap.size ≤ k) (k0 : Chg None w0 w) {z : Int} (x : UInt8) (hz : z = (x.toNat : Int)) (hn : n < 140737488355327) {K : Option Addr → Nat → Nat → World → Prop}
    (hK : ∀ a' c' w', Own w' e 1 a' (n + 1) c' (bvs (l ++ [x])) → (∀ k, At a' k → w0.heap.size ≤ k) → Chg None w0 w' → K a' (n + 1) c' w') :
    alC #[.int .u8 z] e w fun p w2 => sem P (Builtin.append_ #[t, t] t #[.slice a n c, .slice (some p) 1 1]) w2 fun v w3 => opnL (some v) fun x xn xc => K x xn xc w3 := by
  subst hz
  refine push_struct T (w0 := w0) h f k0 (cs := #[bv x]) rfl rfl (by omega) (by omega) fun a' c' w' o g k => ?_
  exact hK a' c' w' (by simpa [bvs] using o) g k
/-- more bytes -/
theorem app_u8 {t tx e : Nat} (T : SlT P t e 1 1) (U : P.underlying tx = some (.slice e)) {w0 w : World} {a : Option Addr} {n c : Nat} {l : List UInt8} (h : Own w e 1 a n c (bvs l)) (f : ∀ k, At a k → w0.heap.size ≤ k) (k0 : Chg None w0 w) {S : Nat → Prop} {q : Option Addr} {m cq : Nat} {p : List UInt8} (hp : Lies w S q (bvs p)) (hm : p.length = m) (hn : n + m ≤ 140737488355328) {K : Option Addr → Nat → Nat → World → Prop}
    (hK : ∀ a' c' w', Own w' e 1 a' (n + m) c' (bvs (l ++ p)) → (∀ k, At a' k → w0.heap.size ≤ k) → Chg None w0 w' → K a' (n + m) c' w') :
    sem P (Builtin.append_ #[t, tx] t #[.slice a n c, .slice q m cq]) w fun v w3 => opnL (some v) fun x xn xc => K x xn xc w3 := by
  subst hm
  refine append_own T h (src_bytes U hp) (by simp only [maxLen]; omega) (by omega) fun a' c' w2 o2 k2 f2 => ?_
  rw [← bvs_app] at o2
  refine hK a' c' w2 o2 ?_ (Chg.fresh k0 k2 f)
  rcases f2 with rfl | ⟨b, rfl, hb⟩
  · exact f
  · rintro k ⟨p, hp, rfl⟩; cases hp; exact Nat.le_trans k0.size hb
/-- clear(b[o:o+n]) -/
theorem clear_seg {t e ty T : Nat} {z : Value} (ht : P.underlying t = some (.slice e)) (hv : ∀ w, (zeroValue e).run P w = .ok z w) (hz : z.cells = #[z]) (h1 : z.oneCell' = true) {w : World} {b : Nat} {L : List Value} (hb : Blk w b T L) {o n c : Nat} (hl : o + n ≤ L.length) {K : Value → World → Prop}
    (hK : ∀ w', Blk w' b T (L.take o ++ List.replicate n z ++ L.drop (o + n)) → Chg (fun k => k = b) w w' → K (.tuple #[]) w') : sem P (Builtin.clear_ #[t] ty #[.slice (some ⟨b, o, none⟩) n c]) w K := by
  unfold sem
  by_cases hn : n = 0
  · subst hn
    have : (Builtin.clear_ #[t] ty #[.slice (some ⟨b, o, none⟩) 0 c]).run P w = .ok (.tuple #[]) w := by
      simp [Builtin.clear_, run_underlying ht]
    rw [this]
    refine hK w ?_ (Chg.refl _ _)
    simpa using hb
  · rw [Lib.run_clear_slice w t e ty z ht hv hz h1 b o n c (by omega) (fun j hj => by rw [hb.cell, List.getElem?_eq_getElem (by omega)]; rfl) (fun j hj => hb.thaw (by omega))]
    obtain ⟨g1, g2⟩ := hb.setCells (List.replicate n z) o (by simpa using hl)
    rw [List.length_replicate] at g1
    exact hK _ g1 g2
end Go.Sh
/-! ## ShM2 -/
namespace Go.Sh
open Go.ChangeShapes Go.Instr
variable {P : Program} {κ : Type}

structure Itr (w : World) (enc : κ → Value) (it r : Nat) (m rest : List (κ × Value)) (cur : Option (κ × Value)) : Prop where
  ex : ∃ l clock seen, Mp w enc r l clock ∧ l.map kv = m ∧ w.heap[it]? = some (.mapIter (some r) clock seen clock) ∧ (l.filter fun x => !seen.contains x.2.2).map kv = rest ∧ ∀ c, cur = some c → ∃ x ∈ l, kv x = c ∧ seen.back? = some x.2.2
section
variable {w w' : World} {enc : κ → Value} {it r : Nat} {m rest : List (κ × Value)} {cur : Option (κ × Value)}
theorem Itr.chg {D : Nat → Prop} (h : Itr w enc it r m rest cur) (k : Chg D w w') (h1 : ¬ D r) (h2 : ¬ D it) : Itr w' enc it r m rest cur := by
  obtain ⟨l, c, s, ⟨g1, g2, g3⟩, g4, g5, g6, g7⟩ := h.ex
  exact ⟨l, c, s, ⟨by rw [k.block r (Array.getElem?_eq_some_iff.1 g1).1 h1]; exact g1, g2, g3⟩, g4, by rw [k.block it (Array.getElem?_eq_some_iff.1 g5).1 h2]; exact g5, g6, g7⟩
theorem Itr.ne (h : Itr w enc it r m rest cur) : it ≠ r := by
  obtain ⟨l, c, s, ⟨g1, _, _⟩, _, g5, _⟩ := h.ex
  rintro rfl
  rw [g1] at g5; cases g5
theorem Itr.lt (h : Itr w enc it r m rest cur) : it < w.heap.size ∧ r < w.heap.size := by
  obtain ⟨l, c, s, ⟨g1, _, _⟩, _, g5, _⟩ := h.ex
  exact ⟨(Array.getElem?_eq_some_iff.1 g5).1, (Array.getElem?_eq_some_iff.1 g1).1⟩
theorem map_range {t kt et : Nat} (ht : P.underlying t = some (.map kt et)) (h : HMap w enc r m) {K : Value → World → Prop} (hK : ∀ it w', Itr w' enc it r m m none → Chg None w w' → w.heap.size ≤ it → K (.pointer (some ⟨it, 0, none⟩)) w') : sem P (Instr.range t (.map (some r))) w K := by
  have hlt := h.lt
  obtain ⟨l, c, ⟨h1, h2, h3⟩, rfl⟩ := h.ex
  unfold sem
  rw [run_range_map w t kt et r _ c ht h1]
  refine hK _ _ ⟨l, c, #[], ⟨by rw [heap_alloc_old w _ hlt]; exact h1, h2, h3⟩, rfl, heap_alloc_new w _, by rw [List.filter_eq_self.2 (by simp)], by intro c hc; cases hc⟩ (chg_alloc w _) (Nat.le_refl _)
theorem run_choose (n : Nat) (w : World) (h : 0 < n) : ∃ j w1, j < n ∧ (w1 = w ∨ w1 = w.drew) ∧ (choose (Question.mapNext n)).run P w = .ok j w1 := by
  by_cases hf : n ≤ 1
  · exact ⟨0, w, h, .inl rfl, by simp [choose, Sem.run, Question.forced, hf]⟩
  · exact ⟨_, w.drew, Nat.mod_lt _ h, .inr rfl, by
      simp only [choose, Sem.run, Question.forced, decide_eq_true_eq, hf, if_false, Question.cut]
      rfl⟩
theorem run_getObj_it {w : World} {r : Nat} {a : Option Nat} {b d : Nat} {s : Array Nat} (h : w.heap[r]? = some (.mapIter a b s d)) : (getObj r).run P w = .ok (.mapIter a b s d) w := by
  simp only [getObj, Sem.run_bind, Sem.run, h]
theorem run_setObj_it {w : World} {r : Nat} {a : Option Nat} {b d : Nat} {s : Array Nat} {o : Obj} (h : w.heap[r]? = some (.mapIter a b s d)) : (setObj r o).run P w = .ok () { w with heap := w.heap.setIfInBounds r o } := by
  simp only [setObj, Sem.run_bind, Sem.run, h]
theorem toArray_filter_ent (enc : κ → Value) (l : List (Ent κ)) (seen : Array Nat) : (l.map (ent enc)).toArray.filter (fun e => !seen.contains e.born) = ((l.filter fun x => !seen.contains x.2.2).map (ent enc)).toArray := by
  apply Array.ext'
  simp only [List.filter_toArray, List.filter_map]
  rfl
theorem contains_push' (seen : Array Nat) (b y : Nat) : (seen.push b).contains y = (seen.contains y || y == b) := Array.contains_push ..
theorem map_next {ty : Nat} (h : Itr w enc it r m rest cur) {K : Value → World → Prop} (hend : rest = [] → ∀ w', Chg None w w' → K (.tuple #[.bool false]) w')
    (hmore : ∀ x rest', rest.Perm (x :: rest') → ∀ w', Itr w' enc it r m rest' (some x) → Chg (fun k => k = it) w w' → K (.tuple #[.bool true, enc x.1, x.2]) w') : sem P (Instr.next (.pointer (some ⟨it, 0, none⟩)) false ty) w K := by
  have hne := h.ne
  have hlt := h.lt.1
  obtain ⟨l, c, seen, ⟨h1, h2, h3⟩, h4, h5, h6, h7⟩ := h.ex
  have htest : (!seen.isEmpty && !((l.map (ent enc)).toArray).isEmpty && ((l.map (ent enc)).toArray).all (fun x => decide (x.born ≥ c))) = false :=
    next_test_false seen _ c c (fun x hx => by simp only [] at hx; obtain ⟨y, hy, rfl⟩ := List.mem_map.1 hx; exact h3 y hy) (Nat.le_refl _)
  unfold sem
  simp only [Instr.next, Sem.run_bind, run_getObj_it h5, Result.andThen_ok, run_getObj h1, htest, Bool.false_eq_true, if_false, toArray_filter_ent]
  generalize hL : l.filter (fun x => !seen.contains x.2.2) = L at h6 ⊢
  have hLl : ∀ x ∈ L, x ∈ l ∧ seen.contains x.2.2 = false := fun x hx => by rw [← hL, List.mem_filter] at hx; simpa using hx
  have e1 : ((L.map (ent enc)).toArray).filter (fun x => decide (x.born < c)) = (L.map (ent enc)).toArray := Array.filter_eq_self.2 (fun x hx => by simp only [List.mem_toArray] at hx; obtain ⟨y, hy, rfl⟩ := List.mem_map.1 hx; exact decide_eq_true (h3 y (hLl y hy).1))
  have e2 : ((L.map (ent enc)).toArray).filter (fun x => decide (x.born ≥ c)) = #[] := by
    rw [Array.filter_eq_empty_iff]
    intro x hx
    simp only [List.mem_toArray] at hx
    obtain ⟨y, hy, rfl⟩ := List.mem_map.1 hx
    have := h3 y (hLl y hy).1
    simp [ent]; omega
  rw [e1, e2, Array.append_empty]
  cases L with
  | nil =>
    subst h6
    obtain ⟨j, w1, hj, hw1, hrun⟩ := run_choose (P := P) 1 w (by decide)
    obtain rfl : j = 0 := by omega
    have hk : Chg None w w1 := by rcases hw1 with rfl | rfl; exact Chg.refl _ _; exact Chg.drew0 w
    have e : ((if ((List.map (ent enc) ([] : List (Ent κ))).toArray).isEmpty = true then #[none] else #[]) ++ ((List.map (ent enc) ([] : List (Ent κ))).toArray).map some : Array (Option MapEntry)) = #[none] := by simp
    rw [e]
    simp only [List.size_toArray, List.length_cons, List.length_nil, Nat.zero_add, hrun, Result.andThen_ok]
    exact hend rfl w1 hk
  | cons x L =>
    have e : ((if ((List.map (ent enc) (x :: L)).toArray).isEmpty = true then #[none] else #[]) ++ ((List.map (ent enc) (x :: L)).toArray).map some : Array (Option MapEntry)) = ((x :: L).map fun x => some (ent enc x)).toArray := by simp
    rw [e]
    obtain ⟨j, w1, hj, hw1, hrun⟩ := run_choose (P := P) (((x :: L).map fun x => some (ent enc x)).toArray.size) w (by simp)
    have hk : Chg None w w1 := by rcases hw1 with rfl | rfl; exact Chg.refl _ _; exact Chg.drew0 w
    have h5' : w1.heap[it]? = some (.mapIter (some r) c seen c) := by rw [hk.block it hlt (fun h => h)]; exact h5
    have hjl : j < (x :: L).length := by simpa using hj
    have hget : ((x :: L).map fun x => some (ent enc x)).toArray[j]? = some (some (ent enc ((x :: L)[j]))) := by
      rw [List.getElem?_toArray, List.getElem?_map, List.getElem?_eq_getElem hjl]; rfl
    simp only [hrun, Result.andThen_ok, hget, Sem.run_bind, run_setObj_it h5', Sem.run_pure]
    generalize hy : (x :: L)[j] = y
    have hyL : y ∈ x :: L := hy ▸ List.getElem_mem hjl
    obtain ⟨hyl, hys⟩ := hLl y hyL
    obtain ⟨l1, l2, hsplit⟩ : ∃ l1 l2, l = l1 ++ y :: l2 := List.append_of_mem hyl
    have hr : r < w1.heap.size := Nat.lt_of_lt_of_le h.lt.2 hk.size
    refine hmore (kv y) ((l.filter fun x => !(seen.push y.2.2).contains x.2.2).map kv) ?_ _ ⟨l, c, seen.push y.2.2, ⟨?_, h2, h3⟩, h4, get_set (Nat.lt_of_lt_of_le hlt hk.size), rfl, ?_⟩ (Chg.trans hk chg_set (fun _ _ h => h.elim) (fun _ _ h => h))
    · -- what is left without y
      rw [← h6, ← List.map_cons, ← hL]
      refine List.Perm.map kv ?_
      have hnd := h2
      rw [hsplit] at hnd ⊢
      simp only [List.map_append, List.map_cons, List.nodup_append, List.nodup_cons, List.mem_map, List.mem_cons] at hnd
      have f1 : l1.filter (fun x => !(seen.push y.2.2).contains x.2.2) = l1.filter fun x => !seen.contains x.2.2 := List.filter_congr fun z hz => by
        rw [contains_push']
        have : (z.2.2 == y.2.2) = false := by
          rw [beq_eq_false_iff_ne]; intro e
          exact hnd.2.2 z.2.2 ⟨z, hz, rfl⟩ y.2.2 (.inl rfl) e
        simp [this]
      have f2 : l2.filter (fun x => !(seen.push y.2.2).contains x.2.2) = l2.filter fun x => !seen.contains x.2.2 := List.filter_congr fun z hz => by
        rw [contains_push']
        have : (z.2.2 == y.2.2) = false := by
          rw [beq_eq_false_iff_ne]; intro e
          exact hnd.2.1.1 ⟨z, hz, e⟩
        simp [this]
      rw [List.filter_append, List.filter_append, List.filter_cons, List.filter_cons, f1, f2, if_pos (by simpa using hys), if_neg (by rw [contains_push']; simp)]
      exact List.perm_middle
    · show (w1.heap.setIfInBounds it _)[r]? = _
      rw [Array.getElem?_setIfInBounds, if_neg hne, hk.block r h.lt.2 (fun h => h)]
      exact h1
    · intro c' hc'
      cases hc'
      exact ⟨y, hyl, rfl, by simp⟩
theorem map_entry {x : κ × Value} (h : Itr w enc it r m rest (some x)) {K : Value → World → Prop} (hK : K (.tuple #[enc x.1, x.2]) w) : sem P (Instr.entry (.pointer (some ⟨it, 0, none⟩))) w K := by
  obtain ⟨l, c, seen, ⟨h1, h2, h3⟩, h4, h5, h6, h7⟩ := h.ex
  obtain ⟨y, hy, rfl, hb⟩ := h7 x rfl
  have hf : ((l.map (ent enc)).toArray).find? (fun e => e.born == y.2.2) = some (ent enc y) := by
    rw [← Array.find?_toList]
    exact find_born (ent enc y) (l.map (ent enc)) (by simpa [ent, Function.comp_def] using h2) (List.mem_map_of_mem hy)
  unfold sem
  simp only [Instr.entry, Sem.run_bind, run_getObj_it h5, Result.andThen_ok, run_getObj h1, hb, bne_self_eq_false, Bool.false_eq_true, if_false, hf, Sem.run_pure]
  exact hK
end
variable [DecidableEq κ]

/-! ### keys -/
theorem find_asking {kt : Nat} {enc : κ → Value} (heq : ∀ (w : World) (a b : κ), (Op.equal kt (enc a) (enc b)).run P w = .ok (decide (a = b)) w) (w : World) (a : κ) : ∀ (l : List (Ent κ)) (i : Nat), (findAsking kt (enc a) (l.map (ent enc)) i).run P w = .ok (fnd a l i) w
  | [], i => by simp [findAsking, fnd]
  | x :: l, i => by
    have := find_asking heq w a l (i + 1)
    simp only [List.map_cons, findAsking, Sem.run_bind, fnd, ent, heq, Result.andThen_ok]
    by_cases h : x.1 = a
    · rw [if_pos h, decide_eq_true h.symm]; simp
    · rw [if_neg h, decide_eq_false fun e => h e.symm]; simpa using this
theorem check_fields (em : Bool) (n : Nat) (w : World) {xs ys : Array Value} : ∀ {fs : List Field} {tb : List (Nat × Nat)} {q : Bool}, fs.map (fun f => (f.name != "_", f.type, f.offset)) = tb.map (fun x => (true, x.1, x.2)) → EqF P xs ys tb q →
    (forIn fs PUnit.unit (fun f (_ : PUnit) => (do
      if f.name ≠ "_" then do
        let v ← part f.type xs f.offset
        checkKey em (n + 1) f.type v
        pure (ForInStep.yield PUnit.unit)
      else pure (ForInStep.yield PUnit.unit) : Sem (ForInStep PUnit)))).run P w = .ok PUnit.unit w
  | [], _, _, _, _ => by simp
  | f :: fs, (t, o) :: tb, _, h, e => by
    simp only [List.map_cons, List.cons.injEq, Prod.mk.injEq, bne_iff_ne] at h
    obtain ⟨⟨hn, rfl, rfl⟩, h⟩ := h
    have step : ∀ {v : Value} {d : TypeDesc}, P.underlying f.type = some d → P.plainKey f.type = true → xs[f.offset]? = some v → (∀ d', d ≠ .interface d') → (∀ a b, d ≠ .array a b) → (∀ a, d ≠ .struct a) → ∀ {q'}, EqF P xs ys tb q' →
        (forIn (f :: fs) PUnit.unit (fun f (_ : PUnit) => (do
          if f.name ≠ "_" then do
            let v ← part f.type xs f.offset
            checkKey em (n + 1) f.type v
            pure (ForInStep.yield PUnit.unit)
          else pure (ForInStep.yield PUnit.unit) : Sem (ForInStep PUnit)))).run P w = .ok PUnit.unit w := by
      intro v d hu hp hx d1 d2 d3 q' e'
      have ih := check_fields em n w h e'
      have hc : (checkKey em (n + 1) f.type v).run P w = .ok () w := by
        simp only [checkKey, Sem.run_bind, run_underlying hu, Result.andThen_ok]
        cases d <;> simp_all
      rw [List.forIn_cons]
      simp only [Sem.run_bind, hn, ne_eq, not_false_eq_true, if_true, run_part_plain w hp hx, Result.andThen_ok, hc, Sem.run_pure]
      exact ih
    cases e with
    | int hu hx hy e => exact step hu (by unfold Program.plainKey; rw [hu]) hx (by simp) (by simp) (by simp) e
    | bool hu hx hy e => exact step hu (by unfold Program.plainKey; rw [hu]) hx (by simp) (by simp) (by simp) e
    | str hu hx hy e => exact step hu (by unfold Program.plainKey; rw [hu]) hx (by simp) (by simp) (by simp) e
  | _ :: _, [], _, h, _ => by simp at h
theorem check_struct' {kt : Nat} {tb : List (Nat × Nat)} (T : EqT P kt tb) {xs ys : Array Value} {q : Bool} (he : EqF P xs ys tb q) (w : World) (e : Bool) (m : Nat) (hm : 0 < m) : (checkKey e (m + 1) kt (.agg xs)).run P w = .ok () w := by
  simp only [checkKey, Sem.run_bind, run_underlying T.under, Result.andThen_ok]
  rw [← Array.forIn_toList]
  obtain ⟨n, rfl⟩ : ∃ n, m = n + 1 := ⟨m - 1, by omega⟩
  have := check_fields e n w T.tab he
  generalize checkKey e (n + 1) = ck at *
  simp at this ⊢
  rw [this]; rfl
theorem check_struct {kt : Nat} {tb : List (Nat × Nat)} (T : EqT P kt tb) {xs ys : Array Value} {q : Bool} (he : EqF P xs ys tb q) (w : World) (e : Bool) (n : Nat) : (checkKey e (n + 2) kt (.agg xs)).run P w = .ok () w := check_struct' T he w e (n + 1) (by omega)
/-- A struct of plain cells as a map's key. -/
theorem key_struct {kt : Nat} {tb : List (Nat × Nat)} (T : EqT P kt tb) {cs : κ → Array Value} (heq : ∀ a b, EqF P (cs a) (cs b) tb (decide (a = b))) (hs : ∀ a, sameBits 10000 (.agg (cs a)) (.agg (cs a)) = true) : KeyT P kt (fun a => .agg (cs a)) where
  check w a e := check_struct T (heq a a) w e 9998
  find w a l := by
    have hq : ∀ (w : World) (a b : κ), (Op.equal kt (.agg (cs a)) (.agg (cs b))).run P w = .ok (decide (a = b)) w := by
      intro w a b
      unfold Op.equal Op.maxDepth
      rw [run_equalIn_struct w 9999 kt _ _ T.under T.held]
      exact eqF_run w 9998 T.tab (heq a b)
    have := find_asking (enc := fun a => Value.agg (cs a)) hq w a l 0
    cases l with
    | nil => simp [findKey, run_underlying T.under, findNow, fnd]
    | cons x l =>
      simp only [findKey, Sem.run_bind, run_underlying T.under, Result.andThen_ok, List.map_cons, findNow, sameNow]
      simpa using this
  same := hs
end Go.Sh
/-! ## ShL20 -/
namespace Go.Sh
open Go.ChangeShapes Go.Instr
variable {P : Program}
theorem zeroCells_one {z : Value} (hz : z.cells = #[z]) (n : Nat) : (Builtin.zeroCells z.cells n).toList = List.replicate n z := by
  rw [hz]
  unfold Builtin.zeroCells
  refine List.ext_getElem? fun i => ?_
  simp only [Array.toList_map, Array.toList_range, List.getElem?_map, List.getElem?_replicate]
  by_cases h : i < n
  · simp [h, Nat.mod_one]
  · simp [h]
/-- zeros behind a list of one's own -/
theorem append_zeros {t tn ty e by_ : Nat} {z : Value} (T : SlT P t e 1 by_) (hz : (P.info? e).bind (·.zero) = some z) (hzc : z.cells = #[z]) (hz1 : z.oneCell' = true) (htn : P.underlying tn = some (.int .i64)) {w : World} {a : Option Addr} {n c : Nat} {l : List Value} (h : Own w e 1 a n c l) {m : Nat} (hm : 0 < m)
    (hb : (n + m) * by_ ≤ 140737488355328) (hn2 : n + m ≤ 140737488355328) {K : Value → World → Prop}
    (hK : ∀ a' c' w', Own w' e 1 a' (n + m) c' (l ++ List.replicate m z) → Chg (At a) w w' → (a' = a ∨ ∃ b, a' = some ⟨b, 0, .none⟩ ∧ w.heap.size ≤ b) → K (.slice a' (n + m) c') w') :
    sem P (Builtin.append_ #[t, tn] ty #[.slice a n c, .int .i64 (m : Int)]) w K := by
  obtain ⟨i, z', hi, hz', hsz, rfl, hzs⟩ := T.get
  have hzz : z' = z := by rw [hi] at hz; exact Option.some.inj (hz'.symm.trans hz)
  subst hzz
  have hlen : (l ++ List.replicate m z').length = (n + m) * 1 := by rw [List.length_append, h.len, List.length_replicate]; omega
  have hll : l.length = n := by have := h.len; omega
  have hm0 : m ≠ 0 := by omega
  have hw : IntKind.i64.wrap (m : Int) = m := by rw [IntKind.wrap_i64]; omega
  have hneg : ¬ ((m : Int) < 0) := by omega
  have hmb : m * i.bytes ≤ (n + m) * i.bytes := Nat.mul_le_mul_right _ (by omega)
  have h48i : ¬ (281474976710656 < (m : Int) * (i.bytes : Int)) := by
    rw [← Int.natCast_mul]
    omega
  have hns : ¬ (m * i.size = 0) := by rw [hsz, Nat.mul_one]; exact hm0
  by_cases hr : n + m ≤ c
  · rcases h.row with ⟨rfl, h2, h3⟩ | ⟨b, rest, rfl, h2, h3, h4⟩
    · omega
    · have hlr : l.length + m ≤ (l ++ rest).length := by rw [Nat.mul_one] at h3; omega
      have hcell : ∀ j, j < m → n + j < (l ++ rest).length := fun j hj => by omega
      have hst := run_storeCells_cells (P := P) b n (List.replicate m z') 0 w
        (by intro j hj; rw [List.length_replicate] at hj; rw [show n + 0 + j = n + j by omega, h2.cell, List.getElem?_eq_getElem (hcell j hj)]; rfl)
        (by intro j hj; rw [List.length_replicate] at hj; rw [show n + 0 + j = n + j by omega]; exact h2.thaw (hcell j hj)) (by intro u hu; rw [(List.mem_replicate.1 hu).2]; exact hz1)
      simp only [Nat.add_zero] at hst
      have hzl : (Builtin.zeroCells z'.cells m).toList = List.replicate m z' := zeroCells_one hzc m
      have hrun : (Builtin.append_ #[t, tn] ty #[.slice (some ⟨b, 0, .none⟩) n c, .int .i64 (m : Int)]).run P w = .ok (.slice (some ⟨b, 0, .none⟩) (n + m) c) (w.setCells b n (List.replicate m z')) := by
        simp [Builtin.append_, run_underlying T.ht, run_underlying htn, sizeOf, typeInfo, zeroValue, hi, hz', asInt, asIntOf, hw, hm0, hneg, hsz, h48i, hr, hzl, Addr.add_lit, hst]
      unfold sem
      rw [hrun]
      obtain ⟨g1, g2⟩ := h2.setCells (List.replicate m z') n (by rw [List.length_replicate]; omega)
      have e1 : (l ++ rest).take n = l := by rw [← hll, List.take_left]
      rw [e1] at g1
      refine hK _ c _ ⟨hlen, .inr ⟨b, (l ++ rest).drop (n + (List.replicate m z').length), rfl, g1, ?_, hr⟩⟩ (g2.mono fun k _ hk => ⟨_, rfl, hk.symm⟩) (.inl rfl)
      simp only [List.length_append, List.length_drop, List.length_replicate] at hlr h3 ⊢
      omega
  · have hold : (Builtin.firstCells 1 n (.slice a n c)).run P w.drew = .ok l.toArray w.drew := by
      rcases h.row with ⟨rfl, h2, h3⟩ | ⟨b, rest, rfl, h2, h3, h4⟩
      · have : l = [] := List.eq_nil_of_length_eq_zero (by rw [h.len, h2, Nat.zero_mul])
        subst this; exact run_firstCells_none _ _ _ _ _
      · refine run_firstCells_some w.drew 1 n ⟨b, 0, .none⟩ n c l h.len fun j u hj => ?_
        rw [Addr.add_lit, Nat.zero_add]
        show w.cell? _ = _
        rw [h2.cell, List.getElem?_append_left (List.getElem?_eq_some_iff.1 hj).1]; exact hj
    have h63' : ¬ (9223372036854775807 < ((n : Int) + (m : Int))) := by omega
    have hfit := growslice_fits (need := n + m) (old := c) (bytes := i.bytes) (by omega) hb
    have h48' : ¬ (281474976710656 < Builtin.nextslicecap (n + m) c * i.bytes) := by omega
    have hrun : (Builtin.append_ #[t, tn] ty #[.slice a n c, .int .i64 (m : Int)]).run P w = .ok (.slice (some ⟨w.heap.size, 0, none⟩) (n + m) (grownCap w (n + m) c e))
        (w.drew.alloc (.cells ((l ++ List.replicate m z').toArray ++ Builtin.zeroCells z'.cells (grownCap w (n + m) c e - (n + m))) e)) := by
      simp [Builtin.append_, run_underlying T.ht, run_underlying htn, sizeOf, typeInfo, zeroValue, hi, hz', asInt, asIntOf, hw, hm0, hneg, hsz, h48i, hr, h63', h48', Question.forced, hold, newRow, grownCap]
      congr 2
      apply Array.ext'
      simp [zeroCells_one hzc, List.append_assoc]
    unfold sem
    rw [hrun]
    have hge := grownCap_ge w (n + m) c e
    have kn : Chg None w (w.drew.alloc (.cells ((l ++ List.replicate m z').toArray ++ Builtin.zeroCells z'.cells (grownCap w (n + m) c e - (n + m))) e)) := Chg.trans (Chg.drew0 (D := None) w) (chg_alloc (D := None) _ _) (fun _ _ h => h.elim) (fun _ _ h => h.elim)
    refine hK _ _ _ ⟨hlen, .inr ⟨w.heap.size, (Builtin.zeroCells z'.cells (grownCap w (n + m) c e - (n + m))).toList, rfl, ?_, ?_, hge⟩⟩ (kn.mono fun _ _ h => h.elim) (.inr ⟨_, rfl, Nat.le_refl _⟩)
    · have := blk_alloc (w := w.drew) (t := e) (cs := (l ++ List.replicate m z').toArray ++ Builtin.zeroCells z'.cells (grownCap w (n + m) c e - (n + m)))
      simpa using this
    · rw [List.length_append, hlen, zeroCells_one hzc, List.length_replicate]
      omega
/-! ### maps keyed by strings -/
theorem sb_beq (a b : List UInt8) : ((⟨a.toArray⟩ : ByteArray) == ⟨b.toArray⟩) = decide (a = b) := by
  show (a.toArray == b.toArray) = _
  by_cases h : a = b
  · subst h; rw [decide_eq_true rfl]; exact beq_self_eq_true _
  · rw [decide_eq_false h]
    exact beq_eq_false_iff_ne.2 fun e => h (by simpa using e)
theorem sameNow_str (a b : List UInt8) : sameNow .string (strv a) (strv b) = some (decide (a = b)) := congrArg some (sb_beq a b)
theorem findNow_str (a : List UInt8) : ∀ (l : List (Ent (List UInt8))) (i : Nat), findNow .string (strv a) (l.map (ent strv)) i = some (fnd a l i)
  | [], _ => rfl
  | x :: l, i => by
    simp only [List.map_cons, findNow, ent, sameNow_str, fnd]
    by_cases h : x.1 = a
    · rw [decide_eq_true h.symm, if_pos h]
    · rw [decide_eq_false (fun e => h e.symm), if_neg h]; exact findNow_str a l (i + 1)
theorem check_string {kt : Nat} (hk : P.underlying kt = some .string) (w : World) (a : List UInt8) (e : Bool) (n : Nat) : (checkKey e (n + 1) kt (strv a)).run P w = .ok () w := by
  simp only [checkKey, Sem.run_bind, run_underlying hk, Result.andThen_ok, Sem.run_pure]
theorem key_string {kt : Nat} (hk : P.underlying kt = some .string) : KeyT P kt strv where
  check w a e := check_string hk w a e 9999
  find w a l := by
    simp only [findKey, Sem.run_bind, run_underlying hk, Result.andThen_ok, findNow_str, Sem.run_pure]
  same a := by
    show ((⟨a.toArray⟩ : ByteArray) == ⟨a.toArray⟩) = true
    rw [sb_beq, decide_eq_true rfl]
end Go.Sh
/-! ## ShT -/
set_option maxRecDepth 100000
namespace Go.Proofs.YtfjhhpoabdpdhaaGreatDoor
open Go.Sh
noncomputable abbrev PP := Tryz.prog
def tab : List TE := [
  .tupl [],
  .one .val,
  .one (.int .i64),
  .one (.int .i64),
  .one .bool,
  .one (.int .u8),
  .one (.int .u8),
  .strct 4 [.int .i64, .int .i64, .bool, .int .u8] [(0, 2), (1, 3), (2, 4), (3, 6)],
  .strct 4 [.int .i64, .int .i64, .bool, .int .u8] [(0, 2), (1, 3), (2, 4), (3, 6)],
  .one .str,
  .one .str,
  .one .str,
  .one (.int .u64),
  .strct 2 [.str, .int .u64] [(0, 9), (1, 12)],
  .strct 2 [.str, .int .u64] [(0, 9), (1, 12)],
  .one .ptr,
  .one .ptr,
  .one .ptr,
  .strct 1 [.ptr] [(0, 17)],
  .strct 1 [.ptr] [(0, 17)],
  .one .val,
  .one (.int .i32),
  .sl 55 9,
  .sl 5 1,
  .sl 3 1,
  .strct 4 [.slice, .slice, .int .i64, .slice] [(0, 23), (1, 23), (2, 3), (3, 24)],
  .strct 4 [.slice, .slice, .int .i64, .slice] [(0, 23), (1, 23), (2, 3), (3, 24)],
  .one .val,
  .one .ptr,
  .one .val,
  .one .val,
  .one (.int .i64),
  .one .val,
  .one .val,
  .one .val,
  .one .val,
  .one .val,
  .one .val,
  .sl 42 2,
  .tupl [38, 4],
  .one .val,
  .strct 2 [.str, .slice] [(0, 9), (1, 23)],
  .strct 2 [.str, .slice] [(0, 9), (1, 23)],
  .one .val,
  .sl 9 1,
  .one .val,
  .one .val,
  .one .val,
  .one .val,
  .one .val,
  .one .val,
  .strct 3 [.int .i64, .bool, .slice] [(0, 3), (1, 4), (2, 24)],
  .strct 3 [.int .i64, .bool, .slice] [(0, 3), (1, 4), (2, 24)],
  .sl 142 2,
  .strct 9 [.int .i64, .int .i64, .str, .str, .int .i64, .int .i64, .slice, .slice, .slice] [(0, 3), (1, 3), (2, 9), (3, 9), (4, 3), (5, 3), (6, 23), (7, 53), (8, 24)],
  .strct 9 [.int .i64, .int .i64, .str, .str, .int .i64, .int .i64, .slice, .slice, .slice] [(0, 3), (1, 3), (2, 9), (3, 9), (4, 3), (5, 3), (6, 23), (7, 53), (8, 24)],
  .one .val,
  .one .val,
  .one .val,
  .tupl [28, 31],
  .one .val,
  .one .val,
  .one .ptr,
  .tupl [62, 3],
  .one .val,
  .strct 2 [.ptr, .ptr] [(0, 28), (1, 62)],
  .strct 2 [.ptr, .ptr] [(0, 28), (1, 62)],
  .sl 66 2,
  .tupl [67, 4],
  .one .val,
  .one .val,
  .one .val,
  .one .val,
  .one .val,
  .one .val,
  .tupl [23, 31],
  .one .val,
  .one .val,
  .sl 23 1,
  .one .val,
  .one .map,
  .sl 101 1,
  .strct 9 [.int .i64, .map, .map, .slice, .int .i64, .int .i64, .int .i64, .int .i64, .bool] [(0, 2), (1, 80), (2, 80), (3, 81), (4, 3), (5, 3), (6, 3), (7, 31), (8, 4)],
  .strct 9 [.int .i64, .map, .map, .slice, .int .i64, .int .i64, .int .i64, .int .i64, .bool] [(0, 2), (1, 80), (2, 80), (3, 81), (4, 3), (5, 3), (6, 3), (7, 31), (8, 4)],
  .one .val,
  .one .val,
  .one .ptr,
  .sl 94 3,
  .strct 3 [.slice, .slice, .slice] [(0, 23), (1, 23), (2, 87)],
  .strct 3 [.slice, .slice, .slice] [(0, 23), (1, 23), (2, 87)],
  .one .val,
  .one .val,
  .one .val,
  .strct 3 [.int .i64, .int .i64, .slice] [(0, 3), (1, 3), (2, 23)],
  .strct 3 [.int .i64, .int .i64, .slice] [(0, 3), (1, 3), (2, 23)],
  .one .val,
  .one .val,
  .one .val,
  .one .val,
  .one .map,
  .strct 1 [.val] [(0, 91)],
  .strct 1 [.val] [(0, 91)],
  .one .val,
  .sl 133 2,
  .sl 131 4,
  .sl 135 3,
  .strct 11 [.int .i64, .bool, .int .i64, .int .i64, .int .i64, .slice, .slice, .slice, .slice, .slice, .slice] [(0, 3), (1, 4), (2, 3), (3, 3), (4, 3), (5, 78), (6, 24), (7, 103), (8, 103), (9, 104), (10, 105)],
  .strct 11 [.int .i64, .bool, .int .i64, .int .i64, .int .i64, .slice, .slice, .slice, .slice, .slice, .slice] [(0, 3), (1, 4), (2, 3), (3, 3), (4, 3), (5, 78), (6, 24), (7, 103), (8, 103), (9, 104), (10, 105)],
  .one .val,
  .one .val,
  .sl 143 2,
  .one .val,
  .one .val,
  .one .val,
  .one .val,
  .one .val,
  .tupl [23, 3],
  .one .val,
  .one .val,
  .one .val,
  .one .val,
  .one .val,
  .sl 125 4,
  .one .map,
  .strct 4 [.ptr, .int .i64, .int .i64, .slice] [(0, 86), (1, 94)],
  .strct 4 [.ptr, .int .i64, .int .i64, .slice] [(0, 86), (1, 94)],
  .one .val,
  .one .val,
  .one .val,
  .one .val,
  .strct 4 [.int .i64, .str, .str, .int .i64] [(0, 3), (1, 9), (2, 9), (3, 3)],
  .strct 4 [.int .i64, .str, .str, .int .i64] [(0, 3), (1, 9), (2, 9), (3, 3)],
  .strct 2 [.str, .int .i64] [(0, 9), (1, 3)],
  .strct 2 [.str, .int .i64] [(0, 9), (1, 3)],
  .strct 3 [.int .i64, .int .i64, .slice] [(0, 3), (1, 3), (2, 23)],
  .strct 3 [.int .i64, .int .i64, .slice] [(0, 3), (1, 3), (2, 23)],
  .one .val,
  .one .val,
  .one .val,
  .one .val,
  .one .val,
  .one (.int .u64),
  .strct 2 [.str, .slice] [(0, 9), (1, 23)],
  .strct 2 [.str, .slice] [(0, 9), (1, 23)],
  .one .val,
  .one .val,
  .one .val,
  .one .val,
  .sl 4 1,
  .one .val,
  .one .val,
  .one .val,
  .one .val,
  .one (.int .i64),
  .tupl [3, 153],
  .one .val,
  .one .val,
  .one .val,
  .tupl [3, 4],
  .one .val,
  .one .val,
  .one (.int .u32),
  .one .val,
  .one (.int .u64),
  .one .val,
  .one .val,
  .one .val,
  .one .val,
  .one .val,
  .one .val,
  .one (.int .u64),
  .one .val,
  .one .val,
  .one .val,
  .one .ptr,
  .one .val,
  .one .val,
  .one .val,
  .tupl [21, 3],
  .one .val,
  .one .val,
  .one .ptr,
  .tupl [3, 3],
  .one .val,
  .one .val,
  .arr 256 5 1,
  .strct 2 [.int .u8, .int .u8] [(0, 5), (1, 5)],
  .strct 2 [.int .u8, .int .u8] [(0, 5), (1, 5)],
  .arr 16 187 2,
  .tupl [161, 161],
  .one .val,
  .one .val,
  .strct 4 [.ptr, .ptr, .ptr, .str] [(0, 17), (1, 17), (2, 17), (3, 9)],
  .strct 4 [.ptr, .ptr, .ptr, .str] [(0, 17), (1, 17), (2, 17), (3, 9)],
  .arr 0 16 1,
  .none,
  .none,
  .one (.int .u8),
  .one (.int .u8),
  .one .val,
  .one .ptr,
  .one (.int .i32),
  .one (.int .i32),
  .strct 11 [.int .u64, .int .u64, .int .u32, .int .u8, .int .u8, .int .u8, .int .u8, .val, .ptr, .int .i32, .int .i32] [(0, 12), (1, 12), (2, 161), (3, 197), (4, 5), (5, 5), (6, 198), (7, 199), (8, 200), (9, 201), (10, 202)],
  .strct 11 [.int .u64, .int .u64, .int .u32, .int .u8, .int .u8, .int .u8, .int .u8, .val, .ptr, .int .i32, .int .i32] [(0, 12), (1, 12), (2, 161), (3, 197), (4, 5), (5, 5), (6, 198), (7, 199), (8, 200), (9, 201), (10, 202)],
  .one .val]
theorem tab_ok : tabOk PP tab = true := by kernel_rfl
theorem mix_ok : PP.follows .mixedOrders = true := by kernel_rfl
noncomputable def C_main_main : PT := doesC PP 0
noncomputable def C_gosem_cut : PT := doesC PP 1
noncomputable def C_gosem_cut_init : PT := doesC PP 2
noncomputable def C_l12_DiskSwap : PT := doesC PP 3
noncomputable def C_l12_DiskLasts : PT := doesC PP 4
noncomputable def C_l12_DiskFails : PT := doesC PP 5
noncomputable def C_l12_DiskAll : PT := doesC PP 6
noncomputable def C_l12_DiskDead : PT := doesC PP 7
noncomputable def C_l12_DiskWorlds : PT := doesC PP 8
noncomputable def C_l12_short : PT := doesC PP 9
noncomputable def C_l12_begun : PT := doesC PP 10
noncomputable def C_l12_head : PT := doesC PP 11
noncomputable def C_p_disk_Disk_Fail : PT := doesC PP 12
noncomputable def C_p_disk_Disk_Create : PT := doesC PP 13
noncomputable def C_p_disk_Disk_Write : PT := doesC PP 14
noncomputable def C_l12_copied : PT := doesC PP 15
noncomputable def C_p_disk_Disk_Sync : PT := doesC PP 16
noncomputable def C_p_disk_Disk_SyncNames : PT := doesC PP 17
noncomputable def C_l12_within : PT := doesC PP 18
noncomputable def C_p_disk_Disk_Rename : PT := doesC PP 19
noncomputable def C_l12_after : PT := doesC PP 20
noncomputable def C_p_disk_Disk_List : PT := doesC PP 21
noncomputable def C_l12_copies : PT := doesC PP 22
noncomputable def C_p_disk_Disk_Files : PT := doesC PP 23
noncomputable def C_p_disk_Disk_Pending : PT := doesC PP 24
noncomputable def C_l12_sameFiles : PT := doesC PP 25
noncomputable def C_l12_plain : PT := doesC PP 26
noncomputable def C_l12_act : PT := doesC PP 27
noncomputable def C_p_disk_Disk_Acts : PT := doesC PP 28
noncomputable def C_disk_New : PT := doesC PP 29
noncomputable def C_l12_numbers : PT := doesC PP 30
noncomputable def C_p_disk_Disk_Used : PT := doesC PP 31
noncomputable def C_r12_New : PT := doesC PP 32
noncomputable def C_l12_made : PT := doesC PP 33
noncomputable def C_l12_actOf : PT := doesC PP 34
noncomputable def C_l12_told : PT := doesC PP 35
noncomputable def C_p_disk_Disk_Crash : PT := doesC PP 36
noncomputable def C_p_r12_Disk_Crash : PT := doesC PP 37
noncomputable def C_p_disk_Disk_Read : PT := doesC PP 38
noncomputable def C_l12_copiedInts : PT := doesC PP 39
noncomputable def C_l12_spare : PT := doesC PP 40
noncomputable def C_l12_spared : PT := doesC PP 41
noncomputable def C_p_disk_Disk_act : PT := doesC PP 42
noncomputable def C_p_disk_Disk_Create_S1 : PT := doesC PP 43
noncomputable def C_disk_named : PT := doesC PP 44
noncomputable def C_p_disk_Disk_Create_S2 : PT := doesC PP 45
noncomputable def C_p_disk_Disk_rename : PT := doesC PP 46
noncomputable def C_p_disk_Disk_Create_S2_S1 : PT := doesC PP 47
noncomputable def C_p_disk_Disk_Write_S1 : PT := doesC PP 48
noncomputable def C_p_disk_Disk_there : PT := doesC PP 49
noncomputable def C_p_disk_Disk_Write_S2 : PT := doesC PP 50
noncomputable def C_disk_laid : PT := doesC PP 51
noncomputable def C_slices_Clone_byte_byte : PT := doesC PP 52
noncomputable def C_p_disk_Disk_Sync_S1 : PT := doesC PP 53
noncomputable def C_p_disk_Disk_Sync_S2 : PT := doesC PP 54
noncomputable def C_p_disk_Disk_SyncNames_S1 : PT := doesC PP 55
noncomputable def C_p_disk_Disk_SyncNames_S2 : PT := doesC PP 56
noncomputable def C_maps_Clone_map_string_disk_content_string_disk_content : PT := doesC PP 57
noncomputable def C_p_disk_Disk_Rename_S1 : PT := doesC PP 58
noncomputable def C_p_disk_Disk_Rename_S2 : PT := doesC PP 59
noncomputable def C_p_disk_Disk_Rename_S2_S1 : PT := doesC PP 60
noncomputable def C_disk_Load : PT := doesC PP 61
noncomputable def C_strings_HasPrefix : PT := doesC PP 62
noncomputable def C_slices_Sort_string_string : PT := doesC PP 63
noncomputable def C_p_disk_Disk_Pending_S1 : PT := doesC PP 64
noncomputable def C_p_disk_Disk_Remove : PT := doesC PP 65
noncomputable def C_disk_bounded : PT := doesC PP 66
noncomputable def C_l12_files : PT := doesC PP 67
noncomputable def C_r12_Load : PT := doesC PP 68
noncomputable def C_l12_reference : PT := doesC PP 69
noncomputable def C_p_r12_Disk_Create : PT := doesC PP 70
noncomputable def C_p_r12_Disk_Write : PT := doesC PP 71
noncomputable def C_p_r12_Disk_Sync : PT := doesC PP 72
noncomputable def C_p_r12_Disk_SyncNames : PT := doesC PP 73
noncomputable def C_p_r12_Disk_Rename : PT := doesC PP 74
noncomputable def C_p_r12_Disk_Remove : PT := doesC PP 75
noncomputable def C_p_r12_Disk_Fail : PT := doesC PP 76
noncomputable def C_p_r12_Disk_Read : PT := doesC PP 77
noncomputable def C_l12_sameNames : PT := doesC PP 78
noncomputable def C_p_r12_Disk_List : PT := doesC PP 79
noncomputable def C_l12_sameAsReference : PT := doesC PP 80
noncomputable def C_p_r12_Disk_Files : PT := doesC PP 81
noncomputable def C_p_r12_Disk_Used : PT := doesC PP 82
noncomputable def C_p_r12_Disk_Acts : PT := doesC PP 83
noncomputable def C_p_r12_Disk_Pending : PT := doesC PP 84
noncomputable def C_p_disk_Disk_Crash_S1 : PT := doesC PP 85
noncomputable def C_slices_SortFunc_disk_owned_disk_owned : PT := doesC PP 86
noncomputable def C_p_disk_Disk_Crash_S2 : PT := doesC PP 87
noncomputable def C_r12_choice : PT := doesC PP 88
noncomputable def C_r12_modulo : PT := doesC PP 89
noncomputable def C_r12_turned : PT := doesC PP 90
noncomputable def C_r12_laid : PT := doesC PP 91
noncomputable def C_p_r12_Disk_add : PT := doesC PP 92
noncomputable def C_strings_Split : PT := doesC PP 93
noncomputable def C_maps_clone : PT := doesC PP 94
noncomputable def C_internal_stringslite_HasPrefix : PT := doesC PP 95
noncomputable def C_slices_pdqsortOrdered_string : PT := doesC PP 96
noncomputable def C_math_bits_Len : PT := doesC PP 97
noncomputable def C_p_disk_Disk_Remove_S1 : PT := doesC PP 98
noncomputable def C_p_disk_Disk_Remove_S2 : PT := doesC PP 99
noncomputable def C_p_disk_Disk_Remove_S2_S1 : PT := doesC PP 100
noncomputable def C_r12_IsName : PT := doesC PP 101
noncomputable def C_r12_find : PT := doesC PP 102
noncomputable def C_p_r12_Disk_called : PT := doesC PP 103
noncomputable def C_p_r12_Disk_turn : PT := doesC PP 104
noncomputable def C_p_r12_Disk_ended : PT := doesC PP 105
noncomputable def C_p_r12_Disk_now : PT := doesC PP 106
noncomputable def C_slices_pdqsortCmpFunc_disk_owned : PT := doesC PP 107
noncomputable def C_r12_without : PT := doesC PP 108
noncomputable def C_strings_genSplit : PT := doesC PP 109
noncomputable def C_slices_insertionSortOrdered_string : PT := doesC PP 110
noncomputable def C_slices_heapSortOrdered_string : PT := doesC PP 111
noncomputable def C_slices_breakPatternsOrdered_string : PT := doesC PP 112
noncomputable def C_slices_choosePivotOrdered_string : PT := doesC PP 113
noncomputable def C_slices_reverseRangeOrdered_string : PT := doesC PP 114
noncomputable def C_slices_partialInsertionSortOrdered_string : PT := doesC PP 115
noncomputable def C_cmp_Less_string : PT := doesC PP 116
noncomputable def C_slices_partitionEqualOrdered_string : PT := doesC PP 117
noncomputable def C_slices_partitionOrdered_string : PT := doesC PP 118
noncomputable def C_math_bits_Len32 : PT := doesC PP 119
noncomputable def C_math_bits_Len64 : PT := doesC PP 120
noncomputable def C_slices_insertionSortCmpFunc_disk_owned : PT := doesC PP 121
noncomputable def C_slices_heapSortCmpFunc_disk_owned : PT := doesC PP 122
noncomputable def C_slices_breakPatternsCmpFunc_disk_owned : PT := doesC PP 123
noncomputable def C_slices_choosePivotCmpFunc_disk_owned : PT := doesC PP 124
noncomputable def C_slices_reverseRangeCmpFunc_disk_owned : PT := doesC PP 125
noncomputable def C_slices_partialInsertionSortCmpFunc_disk_owned : PT := doesC PP 126
noncomputable def C_slices_partitionEqualCmpFunc_disk_owned : PT := doesC PP 127
noncomputable def C_slices_partitionCmpFunc_disk_owned : PT := doesC PP 128
noncomputable def C_strings_explode : PT := doesC PP 129
noncomputable def C_strings_Count : PT := doesC PP 130
noncomputable def C_strings_Index : PT := doesC PP 131
noncomputable def C_slices_siftDownOrdered_string : PT := doesC PP 132
noncomputable def C_slices_nextPowerOfTwo : PT := doesC PP 133
noncomputable def C_p_slices_xorshift_Next : PT := doesC PP 134
noncomputable def C_slices_medianAdjacentOrdered_string : PT := doesC PP 135
noncomputable def C_slices_medianOrdered_string : PT := doesC PP 136
noncomputable def C_cmp_isNaN_string : PT := doesC PP 137
noncomputable def C_slices_siftDownCmpFunc_disk_owned : PT := doesC PP 138
noncomputable def C_slices_medianAdjacentCmpFunc_disk_owned : PT := doesC PP 139
noncomputable def C_slices_medianCmpFunc_disk_owned : PT := doesC PP 140
noncomputable def C_unicode_utf8_RuneCountInString : PT := doesC PP 141
noncomputable def C_unicode_utf8_DecodeRuneInString : PT := doesC PP 142
noncomputable def C_internal_bytealg_CountString : PT := doesC PP 143
noncomputable def C_internal_stringslite_Index : PT := doesC PP 144
noncomputable def C_slices_order2Ordered_string : PT := doesC PP 145
noncomputable def C_slices_order2CmpFunc_disk_owned : PT := doesC PP 146
noncomputable def C_unicode_utf8_decodeRuneInStringSlow : PT := doesC PP 147
noncomputable def C_internal_stringslite_IndexByte : PT := doesC PP 148
noncomputable def C_internal_bytealg_IndexString : PT := doesC PP 149
noncomputable def C_internal_bytealg_Cutover : PT := doesC PP 150
noncomputable def C_internal_bytealg_IndexRabinKarp_string : PT := doesC PP 151
noncomputable def C_internal_bytealg_IndexByteString : PT := doesC PP 152
noncomputable def C_internal_bytealg_hashStr_string : PT := doesC PP 153
noncomputable def C_runtime_boundsError_Error : PT := doesC PP 154
noncomputable def C_runtime_boundsError_RuntimeError : PT := doesC PP 155
noncomputable def C_runtime_errorString_Error : PT := doesC PP 156
noncomputable def C_runtime_errorString_RuntimeError : PT := doesC PP 157
noncomputable def C_runtime_plainError_Error : PT := doesC PP 158
noncomputable def C_runtime_plainError_RuntimeError : PT := doesC PP 159
noncomputable def C_runtime_errorAddressString_Error : PT := doesC PP 160
noncomputable def C_runtime_errorAddressString_RuntimeError : PT := doesC PP 161
noncomputable def C_p_runtime_TypeAssertionError_Error : PT := doesC PP 162
noncomputable def C_p_runtime_TypeAssertionError_RuntimeError : PT := doesC PP 163
noncomputable def C_p_runtime_PanicNilError_Error : PT := doesC PP 164
noncomputable def C_p_runtime_PanicNilError_RuntimeError : PT := doesC PP 165
noncomputable def C_p_internal_abi_Type_Align : PT := doesC PP 166
noncomputable def C_internal_runtime_maps_unhashableTypeError_Error : PT := doesC PP 167
noncomputable def C_internal_runtime_maps_unhashableTypeError_RuntimeError : PT := doesC PP 168
noncomputable def C_api_Errno_Error : PT := doesC PP 169
noncomputable def C_internal_abi_Kind_String : PT := doesC PP 170
noncomputable def C_var_s_door_gosem_cut_vars_holds_initialisers_alone_see_the_manifest_s_row_cutvarsword_look_11_test_files_too : PT := doesC PP 171
noncomputable def C_var_s_door_the_look_of_gosem_cut_vars_went_over_the_folder_that_the_caller_named_as_the_repository_s_root_look_11 : PT := doesC PP 172
noncomputable def C_var_s_door_unicode_utf8_acceptRanges_is_laid_by_its_own_initialiser_plain_data_look_11 : PT := doesC PP 173
noncomputable def C_var_s_door_unicode_utf8_first_is_laid_by_its_text_alone_pinned_1 : PT := doesC PP 174
noncomputable def C_gosem_cut_vars : PT := doesC PP 175
end Go.Proofs.YtfjhhpoabdpdhaaGreatDoor
/-! ## DkMem -/
set_option maxRecDepth 10000
namespace Go.Proofs.YtfjhhpoabdpdhaaGreatDoor
open Go.Sh
/-- whose a block is -/
inductive Tag where
  | free | dk | nm | la | ac | bx | fl | dt
  | nw (f : Nat)
  | wl (f : Nat)
abbrev Tags := Nat → Tag
abbrev Ownd (T : Tags) : Nat → Prop := fun k => T k ≠ .free
abbrev Tg (T : Tags) (t : Tag) : Nat → Prop := fun k => T k = t
abbrev ptr (f : Nat) : Value := .pointer (some ⟨f, 0, none⟩)
def ptrs (m : Names) : List (Str × Value) := m.map fun x => (x.1, ptr x.2)
def wrCells (x : WrM × Option Addr × Nat) : List Value := [.int .i64 x.1.num, .int .i64 x.1.at_, .slice x.2.1 x.1.data.length x.2.2]
/-- more is owned, and what was is still -/
def Ext (T T' : Tags) : Prop := ∀ k, T k ≠ .free → T' k = T k
theorem Ext.refl (T : Tags) : Ext T T := fun _ _ => rfl
theorem Ext.at {T T' : Tags} (h : Ext T T') {k : Nat} {t : Tag} (hk : T k = t) (ht : t ≠ .free) : T' k = t := by rw [h k (by rw [hk]; exact ht), hk]
/-- a block of cells, none of them frozen, nor the place behind them -/
def Blk0 (w : World) (b : Nat) (t : TypeId) (l : List Value) : Prop := w.heap[b]? = some (.cells l.toArray t (0, 0))
section
variable {w w' : World} {b : Nat} {t : TypeId} {l : List Value}
theorem Blk0.toBlk (h : Blk0 w b t l) : Blk w b t l := ⟨(0, 0), h, fun i _ => by simp⟩
theorem Blk0.lt (h : Blk0 w b t l) : b < w.heap.size := h.toBlk.lt
theorem Blk0.chg {D : Nat → Prop} (h : Blk0 w b t l) (k : Chg D w w') (hd : ¬ D b) : Blk0 w' b t l := by
  rw [Blk0, k.block _ h.lt hd]; exact h
theorem Blk0.rd (h : Blk0 w b t l) (j : Nat) {v : Value} (hv : l[j]? = some v) : w.cell? ((⟨b, 0, none⟩ : Addr).add j) = some v := h.toBlk.rd j hv
theorem Blk0.set (h : Blk0 w b t l) (j : Nat) (v : Value) : Blk0 (w.setCell ⟨b, j, none⟩ v) b t (l.set j v) := by
  unfold Blk0 at h ⊢
  simp only [World.setCell, Array.getElem?_modify, if_pos, h, Option.map_some, Option.isSome_none, Bool.false_eq_true, if_false]
  congr 2
  exact Array.ext' (by simp)
theorem box_set0 (h : Blk0 w b t l) {j : Nat} (hj : j < l.length) {v : Value} (hv : v.oneCell' = true) {K : World → Prop} (hK : ∀ w', Blk0 w' b t (l.set j v) → Chg (fun k => k = b) w w' → K w') : stC ((⟨b, 0, none⟩ : Addr).add j) v w K := by
  rw [Addr.add_lit, Nat.zero_add]
  exact h.toBlk.store hj hv fun _ k' => hK _ (h.set j v) k'
theorem alC_box0 {cs : Array Value} {K : Addr → World → Prop} (hK : ∀ b w', Blk0 w' b t cs.toList → Chg None w w' → w.heap.size ≤ b → K ⟨b, 0, none⟩ w') : alC cs t w K :=
  hK _ _ (by show (w.heap.push _)[w.heap.size]? = _; simp) (chg_alloc w _) (Nat.le_refl _)
end
structure FileV (w : World) (T : Tags) (f : Nat) (F : FileM) (na : Option Addr) (nc : Nat) (la : Option Addr) (lc : Nat) (wa : Option Addr) (wc : Nat) (xs : List (WrM × Option Addr × Nat)) : Prop where
  blk : Blk0 w f 89 [.slice na F.now.length nc, .slice la F.lasts.length lc, .slice wa F.loose.length wc]
  now : Own w 5 1 na F.now.length nc (bvs F.now)
  nowT : ∀ k, At na k → T k = .nw f
  lasts : Lies w (Tg T .dt) la (bvs F.lasts)
  lastsC : F.lasts.length ≤ lc
  wr : Own w 94 3 wa F.loose.length wc (xs.flatMap wrCells)
  wrT : ∀ k, At wa k → T k = .wl f
  xsm : xs.map (·.1) = F.loose
  dat : ∀ x ∈ xs, Lies w (Tg T .dt) x.2.1 (bvs x.1.data) ∧ x.1.data.length ≤ x.2.2
def FileAt (w : World) (T : Tags) (f : Nat) (F : FileM) : Prop := ∃ na nc la lc wa wc xs, FileV w T f F na nc la lc wa wc xs
def ActAt (w : World) (T : Tags) : ActM → Value → Prop
  | .create n f, v => ∃ p q, v = .func (.func 47) #[] #[ptr p, ptr q] ∧ Blk w p 86 [ptr f] ∧ T p = .bx ∧ Blk w q 9 [strv n] ∧ T q = .bx ∧ T f = .fl
  | .rename a b, v => ∃ p q, v = .func (.func 60) #[] #[ptr p, ptr q] ∧ Blk w p 9 [strv a] ∧ T p = .bx ∧ Blk w q 9 [strv b] ∧ T q = .bx
  | .remove n, v => ∃ q, v = .func (.func 100) #[] #[ptr q] ∧ Blk w q 9 [strv n] ∧ T q = .bx
structure DiskOk (T : Tags) (M : DiskM) : Prop where
  room0 : 0 ≤ M.room
  room1 : M.room ≤ 1099511627776
  now : ∀ f, T f = .fl → (M.file f).now.length ≤ 1099511627776
  wl : ∀ f, T f = .fl → (M.file f).loose.length ≤ M.writes
  ac : M.loose.length ≤ M.acts
  wr : M.writes ≤ M.acts
  used : usedM M ≤ 1152921504606846976
  strike : M.strike < 9223372036854775808
  inj : (M.names.map (·.2)).Nodup
def dcells (M : DiskM) (nb lb : Nat) (ad : Option Addr) (ac : Nat) : List Value :=
  [.int .i64 M.room, .map (some nb), .map (some lb), .slice ad M.loose.length ac, .int .i64 M.writes, .int .i64 M.acts, .int .i64 M.strike, .int .i64 M.fault, .bool M.dead]
/-- what strings.Split reads: the numbers of the machine -/
def Dst (w : World) : Prop := ∃ m : Int, w.cell? ⟨0, 0, none⟩ = some (.int .i64 m)
theorem Dst.chg {w w' : World} {D : Nat → Prop} (h : Dst w) (k : Chg D w w') (h0 : ¬ D 0) : Dst w' := by
  obtain ⟨m, h⟩ := h
  refine ⟨m, ?_⟩
  have hb := World.block_lt_of_cell? _ _ h
  rw [World.cell?_of_block (w := w) (k.block _ hb h0)]; exact h
theorem Dst.chg0 {w w' : World} (h : Dst w) (k : Chg None w w') : Dst w' := h.chg k fun h => h
theorem Dst.lt {w : World} (h : Dst w) : 0 < w.heap.size := by
  obtain ⟨m, h⟩ := h
  exact World.block_lt_of_cell? _ _ h
structure DiskV (w : World) (T : Tags) (d : Nat) (M : DiskM) (nb lb : Nat) (ad : Option Addr) (ac : Nat) (xs : List (ActM × Value)) : Prop where
  size : ∀ k, T k ≠ .free → k < w.heap.size
  zero : T 0 = .free
  std : Dst w
  tag : T d = .dk
  blk : Blk w d 83 (dcells M nb lb ad ac)
  nmT : T nb = .nm
  nm : HMap w strv nb (ptrs M.names)
  laT : T lb = .la
  la : HMap w strv lb (ptrs M.lasting)
  acO : Own w 101 1 ad M.loose.length ac (xs.map (·.2))
  acT : ∀ k, At ad k → T k = .ac
  xsm : xs.map (·.1) = M.loose
  acts : ∀ x ∈ xs, ActAt w T x.1 x.2
  file : ∀ f, T f = .fl → FileAt w T f (M.file f)
  nmF : ∀ x ∈ M.names, T x.2 = .fl
  laF : ∀ x ∈ M.lasting, T x.2 = .fl
  ok : DiskOk T M
def DiskAt (w : World) (T : Tags) (d : Nat) (M : DiskM) : Prop := ∃ nb lb ad ac xs, DiskV w T d M nb lb ad ac xs
section
variable {w w' : World} {T T' : Tags} {D : Nat → Prop}
theorem DiskAt.dst {d : Nat} {M : DiskM} (h : DiskAt w T d M) : Dst w := by
  obtain ⟨nb, lb, ad, ac, xs, h⟩ := h
  exact h.std
theorem FileV.chg {f : Nat} {F : FileM} {na la wa : Option Addr} {nc lc wc : Nat} {xs : List (WrM × Option Addr × Nat)} (h : FileV w T f F na nc la lc wa wc xs) (k : Chg D w w') (hT : Ext T T') (h0 : ¬ D f) (h1 : ∀ k, T k = .nw f → ¬ D k) (h2 : ∀ k, T k = .wl f → ¬ D k) (h3 : ∀ k, T k = .dt → ¬ D k) : FileV w' T' f F na nc la lc wa wc xs where
  blk := h.blk.chg k h0
  now := h.now.chg k fun x hx => h1 x (h.nowT x hx)
  nowT x hx := hT.at (h.nowT x hx) (by simp)
  lasts := (h.lasts.chg k fun x _ hx => h3 x hx).mono fun x hx => hT.at hx (by simp)
  lastsC := h.lastsC
  wr := h.wr.chg k fun x hx => h2 x (h.wrT x hx)
  wrT x hx := hT.at (h.wrT x hx) (by simp)
  xsm := h.xsm
  dat x hx := ⟨((h.dat x hx).1.chg k fun x _ hx => h3 x hx).mono fun x hx => hT.at hx (by simp), (h.dat x hx).2⟩
theorem FileAt.chg {f : Nat} {F : FileM} (h : FileAt w T f F) (k : Chg D w w') (hT : Ext T T') (h0 : ¬ D f) (h1 : ∀ k, T k = .nw f → ¬ D k) (h2 : ∀ k, T k = .wl f → ¬ D k) (h3 : ∀ k, T k = .dt → ¬ D k) : FileAt w' T' f F := by
  obtain ⟨na, nc, la, lc, wa, wc, xs, h⟩ := h
  exact ⟨na, nc, la, lc, wa, wc, xs, h.chg k hT h0 h1 h2 h3⟩
theorem ActAt.chg {a : ActM} {v : Value} (h : ActAt w T a v) (k : Chg D w w') (hT : Ext T T') (h1 : ∀ k, T k = .bx → ¬ D k) : ActAt w' T' a v := by
  cases a with
  | create n f => obtain ⟨p, q, e, b1, t1, b2, t2, t3⟩ := h; exact ⟨p, q, e, b1.chg k (h1 p t1), hT.at t1 (by simp), b2.chg k (h1 q t2), hT.at t2 (by simp), hT.at t3 (by simp)⟩
  | rename a b => obtain ⟨p, q, e, b1, t1, b2, t2⟩ := h; exact ⟨p, q, e, b1.chg k (h1 p t1), hT.at t1 (by simp), b2.chg k (h1 q t2), hT.at t2 (by simp)⟩
  | remove n => obtain ⟨q, e, b2, t2⟩ := h; exact ⟨q, e, b2.chg k (h1 q t2), hT.at t2 (by simp)⟩
theorem DiskV.chg {d : Nat} {M : DiskM} {nb lb : Nat} {ad : Option Addr} {ac : Nat} {xs : List (ActM × Value)} (h : DiskV w T d M nb lb ad ac xs) (k : Chg D w w') (h0 : ¬ D 0) (hd : ∀ k, T k ≠ .free → ¬ D k) : DiskV w' T d M nb lb ad ac xs where
  size x hx := Nat.lt_of_lt_of_le (h.size x hx) k.size
  zero := h.zero
  std := h.std.chg k h0
  tag := h.tag
  blk := h.blk.chg k (hd _ (by rw [h.tag]; simp))
  nmT := h.nmT
  nm := h.nm.chg k (hd _ (by rw [h.nmT]; simp))
  laT := h.laT
  la := h.la.chg k (hd _ (by rw [h.laT]; simp))
  acO := h.acO.chg k fun x hx => hd x (by rw [h.acT x hx]; simp)
  acT := h.acT
  xsm := h.xsm
  acts x hx := (h.acts x hx).chg k (Ext.refl T) fun y hy => hd y (by rw [hy]; simp)
  file f hf := (h.file f hf).chg k (Ext.refl T) (hd f (by rw [hf]; simp)) (fun y hy => hd y (by rw [hy]; simp)) (fun y hy => hd y (by rw [hy]; simp)) (fun y hy => hd y (by rw [hy]; simp))
  nmF := h.nmF
  laF := h.laF
  ok := h.ok
theorem DiskAt.chg {d : Nat} {M : DiskM} (h : DiskAt w T d M) (k : Chg D w w') (h0 : ¬ D 0) (hd : ∀ k, T k ≠ .free → ¬ D k) : DiskAt w' T d M := by
  obtain ⟨nb, lb, ad, ac, xs, h⟩ := h
  exact ⟨nb, lb, ad, ac, xs, h.chg k h0 hd⟩
theorem DiskAt.chg0 {d : Nat} {M : DiskM} (h : DiskAt w T d M) (k : Chg None w w') : DiskAt w' T d M := h.chg k (fun h => h) fun _ _ h => h
theorem DiskV.chg0 {d : Nat} {M : DiskM} {nb lb : Nat} {ad : Option Addr} {ac : Nat} {xs : List (ActM × Value)} (h : DiskV w T d M nb lb ad ac xs) (k : Chg None w w') : DiskV w' T d M nb lb ad ac xs := h.chg k (fun h => h) fun _ _ h => h
/-- the disk's own cells alone have changed -/
theorem DiskV.cells {d : Nat} {M M' : DiskM} {nb lb : Nat} {ad : Option Addr} {ac : Nat} {xs : List (ActM × Value)} (h : DiskV w T d M nb lb ad ac xs) (k : Chg (fun k => k = d) w w') (hb : Blk w' d 83 (dcells M' nb lb ad ac)) (e1 : M'.names = M.names) (e2 : M'.lasting = M.lasting) (e3 : M'.loose = M.loose) (e4 : M'.file = M.file) (ok : DiskOk T M') : DiskV w' T d M' nb lb ad ac xs := by
  have nd : ∀ x t, T x = t → t ≠ .dk → x ≠ d := fun x t hx ht e => by subst e; exact ht (hx.symm.trans h.tag)
  exact {
    size := fun x hx => Nat.lt_of_lt_of_le (h.size x hx) k.size
    zero := h.zero
    std := h.std.chg k (nd 0 _ h.zero (by simp))
    tag := h.tag
    blk := hb
    nmT := h.nmT
    nm := by rw [e1]; exact h.nm.chg k (nd _ _ h.nmT (by simp))
    laT := h.laT
    la := by rw [e2]; exact h.la.chg k (nd _ _ h.laT (by simp))
    acO := by rw [e3]; exact h.acO.chg k fun x hx => nd x _ (h.acT x hx) (by simp)
    acT := h.acT
    xsm := by rw [e3]; exact h.xsm
    acts := fun x hx => (h.acts x hx).chg k (Ext.refl T) fun y hy => nd y _ hy (by simp)
    file := fun f hf => by rw [e4]; exact (h.file f hf).chg k (Ext.refl T) (nd f _ hf (by simp)) (fun y hy => nd y _ hy (by simp)) (fun y hy => nd y _ hy (by simp)) (fun y hy => nd y _ hy (by simp))
    nmF := by rw [e1]; exact h.nmF
    laF := by rw [e2]; exact h.laF
    ok := ok }
theorem look_ptrs (n : Str) : ∀ m : Names, Go.Sh.look n (ptrs m) = (Go.Sh.look n m).map ptr
  | [] => rfl
  | x :: m => by
    show (if x.1 = n then some (ptr x.2) else Go.Sh.look n (ptrs m)) = (if x.1 = n then some x.2 else Go.Sh.look n m).map ptr
    split
    · rfl
    · exact look_ptrs n m
theorem put_ptrs (n : Str) (f : Nat) : ∀ m : Names, Go.Sh.put n (ptr f) (ptrs m) = ptrs (Go.Sh.put n f m)
  | [] => rfl
  | x :: m => by
    show (if x.1 = n then (n, ptr f) :: ptrs m else (x.1, ptr x.2) :: Go.Sh.put n (ptr f) (ptrs m)) = ptrs (if x.1 = n then (n, f) :: m else x :: Go.Sh.put n f m)
    split
    · rfl
    · rw [put_ptrs n f m]; rfl
theorem del_ptrs (n : Str) : ∀ m : Names, Go.Sh.del n (ptrs m) = ptrs (Go.Sh.del n m)
  | [] => rfl
  | x :: m => by
    show (if x.1 = n then ptrs m else (x.1, ptr x.2) :: Go.Sh.del n (ptrs m)) = ptrs (if x.1 = n then m else x :: Go.Sh.del n m)
    split
    · rfl
    · rw [del_ptrs n m]; rfl
end
end Go.Proofs.YtfjhhpoabdpdhaaGreatDoor
/-! ## DkLay -/
namespace Go.Proofs
open Go.Shelf
def YtfjhhpoabdpdhaaGreatDoor.lays99_ren : Go.Shelf.Ren := ⟨fun | 99 => 62 | 206 => 95 | n => n, fun | 9 => 9 | 4 => 4 | 3 => 3 | n => n, fun | n => n⟩
theorem YtfjhhpoabdpdhaaGreatDoor.lays99 : Go.Proofs.Lays.n99 Tryz.prog YtfjhhpoabdpdhaaGreatDoor.lays99_ren := {
  mixed := by kernel_rfl
  f99 := Tryz.func62.trans (congrArg some (by kernel_rfl))
  f206 := Tryz.func95.trans (congrArg some (by kernel_rfl))
  t3 := Tryz.underlying3
  a3 := Tryz.isAgg3
  z3 := Tryz.sizeOf3
  v3 := Tryz.zeroValue3
  t4 := Tryz.underlying4
  a4 := Tryz.isAgg4
  z4 := Tryz.sizeOf4
  v4 := Tryz.zeroValue4
  t9 := Tryz.underlying9
  a9 := Tryz.isAgg9
  z9 := Tryz.sizeOf9
  v9 := Tryz.zeroValue9 }
open Go.RowKit Go.Lib in
/-- strings.HasPrefix: "HasPrefix reports whether the string s begins with prefix.": IT RETURNS 'Lib.hasPrefix s prefix'; the world is as it was. (LAID: no walk: one application.) -/
theorem YtfjhhpoabdpdhaaGreatDoor.strings_HasPrefix (s p : ByteArray) (w : World) :
    Calls Tryz.prog 62 #[.string s, .string p] w fun e w' => e = .returned (.bool (Lib.hasPrefix s.data.toList p.data.toList)) ∧ w' = w := Any.strings_HasPrefix YtfjhhpoabdpdhaaGreatDoor.lays99 s p w
def YtfjhhpoabdpdhaaGreatDoor.lays146_ren : Go.Shelf.Ren := ⟨fun | 146 => 93 | 221 => 109 | 268 => 129 | 138 => 130 | 143 => 131 | 195 => 141 | 197 => 142 | 218 => 143 | 219 => 144 | 260 => 147 | 217 => 148 | 225 => 149 | 224 => 150 | 267 => 151 | 266 => 152 | 314 => 153 | n => n, fun | 9 => 9 | 31 => 44 | 3 => 3 | 4 => 4 | 0 => 0 | 105 => 178 | 21 => 21 | 5 => 5 | 46 => 141 | 119 => 185 | 139 => 188 | 138 => 187 | 146 => 189 | 51 => 161 | n => n, fun | 1 => 0 | 3 => 1 | 4 => 2 | n => n⟩
theorem YtfjhhpoabdpdhaaGreatDoor.lays146 : Go.Proofs.Lays.n146 Tryz.prog YtfjhhpoabdpdhaaGreatDoor.lays146_ren := {
  mixed := by kernel_rfl
  f138 := Tryz.func130.trans (congrArg some (by kernel_rfl))
  f143 := Tryz.func131.trans (congrArg some (by kernel_rfl))
  f146 := Tryz.func93.trans (congrArg some (by kernel_rfl))
  f195 := Tryz.func141.trans (congrArg some (by kernel_rfl))
  f197 := Tryz.func142.trans (congrArg some (by kernel_rfl))
  f217 := Tryz.func148.trans (congrArg some (by kernel_rfl))
  f218 := Tryz.func143.trans (congrArg some (by kernel_rfl))
  f219 := Tryz.func144.trans (congrArg some (by kernel_rfl))
  f221 := Tryz.func109.trans (congrArg some (by kernel_rfl))
  f224 := Tryz.func150.trans (congrArg some (by kernel_rfl))
  f225 := Tryz.func149.trans (congrArg some (by kernel_rfl))
  f260 := Tryz.func147.trans (congrArg some (by kernel_rfl))
  f266 := Tryz.func152.trans (congrArg some (by kernel_rfl))
  f267 := Tryz.func151.trans (congrArg some (by kernel_rfl))
  f268 := Tryz.func129.trans (congrArg some (by kernel_rfl))
  f314 := Tryz.func153.trans (congrArg some (by kernel_rfl))
  t0 := Tryz.underlying0
  a0 := Tryz.isAgg0
  z0 := Tryz.sizeOf0
  v0 := Tryz.zeroValue0
  t3 := Tryz.underlying3
  a3 := Tryz.isAgg3
  z3 := Tryz.sizeOf3
  v3 := Tryz.zeroValue3
  t4 := Tryz.underlying4
  a4 := Tryz.isAgg4
  z4 := Tryz.sizeOf4
  v4 := Tryz.zeroValue4
  t5 := Tryz.underlying5
  a5 := Tryz.isAgg5
  z5 := Tryz.sizeOf5
  v5 := Tryz.zeroValue5
  t9 := Tryz.underlying9
  a9 := Tryz.isAgg9
  z9 := Tryz.sizeOf9
  v9 := Tryz.zeroValue9
  t21 := Tryz.underlying21
  a21 := Tryz.isAgg21
  z21 := Tryz.sizeOf21
  v21 := Tryz.zeroValue21
  t31 := Tryz.underlying44
  a31 := Tryz.isAgg44
  z31 := Tryz.sizeOf44
  v31 := Tryz.zeroValue44
  t46 := Tryz.underlying141
  a46 := Tryz.isAgg141
  z46 := Tryz.sizeOf141
  v46 := Tryz.zeroValue141
  t51 := Tryz.underlying161
  a51 := Tryz.isAgg161
  z51 := Tryz.sizeOf161
  v51 := Tryz.zeroValue161
  t105 := Tryz.underlying178
  a105 := Tryz.isAgg178
  z105 := Tryz.sizeOf178
  v105 := Tryz.zeroValue178
  t119 := Tryz.underlying185
  a119 := Tryz.isAgg185
  z119 := Tryz.sizeOf185
  t138 := Tryz.underlying187
  a138 := Tryz.isAgg187
  z138 := Tryz.sizeOf187
  v138 := Tryz.zeroValue187
  t139 := Tryz.underlying188
  a139 := Tryz.isAgg188
  z139 := Tryz.sizeOf188
  v139 := Tryz.zeroValue188
  t146 := Tryz.underlying189
  a146 := Tryz.isAgg189
  z146 := Tryz.sizeOf189
  v146 := Tryz.zeroValue189
  g1 := by kernel_rfl
  g3 := by kernel_rfl
  g4 := by kernel_rfl }
open Go.RowKit Go.Lib in
/-- strings.Split. (LAID: no walk: one application.) -/
theorem YtfjhhpoabdpdhaaGreatDoor.strings_Split (s sep : ByteArray) (m : Int) (w : World) (hs : s.size < 4294967281) (hm : w.cell? ⟨0, 0, none⟩ = some (.int .i64 m)) (h1 : 1 ≤ sep.size) :
    Calls Tryz.prog 93 #[.string s, .string sep] w fun e w' =>
      e = .returned (.slice (some ⟨w.heap.size, 0, none⟩) (Lib.countB s sep + 1) (Lib.countB s sep + 1)) ∧ w' = w.alloc (.cells ((Lib.splitB sep 0 (Lib.countB s sep) s).map Value.string).toArray 9) := Any.strings_Split YtfjhhpoabdpdhaaGreatDoor.lays146 (by kernel_rfl) s sep m w hs hm h1
end Go.Proofs
/-! ## ShF0 -/
set_option maxRecDepth 100000
namespace Go.Proofs.YtfjhhpoabdpdhaaGreatDoor
open Go.Sh
/-! ### ledger/ledgerlaw12.DiskSwap -/
noncomputable def B_l12_DiskSwap : Code := match Tryz.f3.body with | some c => c | _ => .skip
noncomputable def X_l12_DiskSwap : Cx := { P := PP, fn := 3, N := 160, tab := tab, results := [.tmp 4], iter := fun _ => (.none, .none), dyn := fun _ => false, live := fun r => cond (Nat.beq r 5) (some []) (cond (Nat.beq r 7) (some []) (cond (Nat.beq r 17) (some [3, 5, 6, 7, 8, 14]) (cond (Nat.beq r 18) (some []) (cond (Nat.beq r 19) (some [3, 5, 6, 7, 8, 14]) (cond (Nat.beq r 20) (some [5, 6, 8, 14, 15, 16]) (cond (Nat.beq r 21) (some []) (cond (Nat.beq r 22) (some [5, 6, 8, 14, 15]) (cond (Nat.beq r 23) (some [5, 6, 8, 14, 15, 17]) (cond (Nat.beq r 29) (some [19]) (cond (Nat.beq r 32) (some [18, 19]) (none))))))))))) }
theorem K_l12_DiskSwap : OkF X_l12_DiskSwap B_l12_DiskSwap Tryz.f3 := ⟨⟨tab_ok, mix_ok⟩, Tryz.func3, by kernel_rfl, by kernel_rfl, by kernel_rfl, by kernel_rfl⟩
noncomputable def N_l12_DiskSwap.j5 (Q : Value → World → Prop) (w : World) : Prop := Nd X_l12_DiskSwap Q [] [.code (B_l12_DiskSwap.r.r.r.r.l.r.l.l), .code (B_l12_DiskSwap.r.r.r.r.l.r.l.r), .code (B_l12_DiskSwap.r.r.r.r.r)] w
noncomputable def N_l12_DiskSwap.j7 (Q : Value → World → Prop) (w : World) : Prop := Nd X_l12_DiskSwap Q [] [.code (B_l12_DiskSwap.r.r.r.r.r.l.r.l.l), .code (B_l12_DiskSwap.r.r.r.r.r.l.r.l.r), .code (B_l12_DiskSwap.r.r.r.r.r.r)] w
noncomputable def N_l12_DiskSwap.j17 (Q : Value → World → Prop) (s3 : Addr) (s5 : Option Addr) (s5n : Nat) (s5c : Nat) (s6 : Option Addr) (s6n : Nat) (s6c : Nat) (s7 : Option Addr) (s8 : Int) (s14 : Bool) (w : World) : Prop := Nd X_l12_DiskSwap Q [(3, 3, .pointer (some s3)), (5, 5, .slice s5 s5n s5c), (6, 6, .slice s6 s6n s6c), (7, 7, .pointer s7), (8, 8, .int .i64 s8), (14, 14, .bool s14)] [.code (B_l12_DiskSwap.r.r.r.r.r.r.r.r.r.r.r.r.r.r.l.l), .code (B_l12_DiskSwap.r.r.r.r.r.r.r.r.r.r.r.r.r.r.l.r), .code (B_l12_DiskSwap.r.r.r.r.r.r.r.r.r.r.r.r.r.r.r)] w
noncomputable def N_l12_DiskSwap.j18 (Q : Value → World → Prop) (w : World) : Prop := Nd X_l12_DiskSwap Q [] [.code (B_l12_DiskSwap.r.r.r.r.r.r.r.r.r.r.r.r.r.r.l.r.l.l), .code (B_l12_DiskSwap.r.r.r.r.r.r.r.r.r.r.r.r.r.r.l.r.l.r), .code (B_l12_DiskSwap.r.r.r.r.r.r.r.r.r.r.r.r.r.r.r)] w
noncomputable def N_l12_DiskSwap.j19 (Q : Value → World → Prop) (s3 : Addr) (s5 : Option Addr) (s5n : Nat) (s5c : Nat) (s6 : Option Addr) (s6n : Nat) (s6c : Nat) (s7 : Option Addr) (s8 : Int) (s14 : Bool) (w : World) : Prop := Nd X_l12_DiskSwap Q [(3, 3, .pointer (some s3)), (5, 5, .slice s5 s5n s5c), (6, 6, .slice s6 s6n s6c), (7, 7, .pointer s7), (8, 8, .int .i64 s8), (14, 14, .bool s14)] [.code (B_l12_DiskSwap.r.r.r.r.r.r.r.r.r.r.r.r.r.r.r.l), .code (B_l12_DiskSwap.r.r.r.r.r.r.r.r.r.r.r.r.r.r.r.r)] w
noncomputable def N_l12_DiskSwap.j20 (Q : Value → World → Prop) (s5 : Option Addr) (s5n : Nat) (s5c : Nat) (s6 : Option Addr) (s6n : Nat) (s6c : Nat) (s8 : Int) (s14 : Bool) (s15 : Option Addr) (s15n : Nat) (s15c : Nat) (s16 : Bool) (w : World) : Prop := Nd X_l12_DiskSwap Q [(5, 5, .slice s5 s5n s5c), (6, 6, .slice s6 s6n s6c), (8, 8, .int .i64 s8), (14, 14, .bool s14), (15, 15, .slice s15 s15n s15c), (16, 16, .bool s16)] [.code (B_l12_DiskSwap.r.r.r.r.r.r.r.r.r.r.r.r.r.r.r.r.l.l), .code (B_l12_DiskSwap.r.r.r.r.r.r.r.r.r.r.r.r.r.r.r.r.l.r), .code (B_l12_DiskSwap.r.r.r.r.r.r.r.r.r.r.r.r.r.r.r.r.r)] w
noncomputable def N_l12_DiskSwap.j21 (Q : Value → World → Prop) (w : World) : Prop := Nd X_l12_DiskSwap Q [] [.code (B_l12_DiskSwap.r.r.r.r.r.r.r.r.r.r.r.r.r.r.r.r.l.r.l.l), .code (B_l12_DiskSwap.r.r.r.r.r.r.r.r.r.r.r.r.r.r.r.r.l.r.l.r), .code (B_l12_DiskSwap.r.r.r.r.r.r.r.r.r.r.r.r.r.r.r.r.r)] w
noncomputable def N_l12_DiskSwap.j22 (Q : Value → World → Prop) (s5 : Option Addr) (s5n : Nat) (s5c : Nat) (s6 : Option Addr) (s6n : Nat) (s6c : Nat) (s8 : Int) (s14 : Bool) (s15 : Option Addr) (s15n : Nat) (s15c : Nat) (w : World) : Prop := Nd X_l12_DiskSwap Q [(5, 5, .slice s5 s5n s5c), (6, 6, .slice s6 s6n s6c), (8, 8, .int .i64 s8), (14, 14, .bool s14), (15, 15, .slice s15 s15n s15c)] [.code (B_l12_DiskSwap.r.r.r.r.r.r.r.r.r.r.r.r.r.r.r.r.r.l.l), .code (B_l12_DiskSwap.r.r.r.r.r.r.r.r.r.r.r.r.r.r.r.r.r.l.r), .code (B_l12_DiskSwap.r.r.r.r.r.r.r.r.r.r.r.r.r.r.r.r.r.r)] w
noncomputable def N_l12_DiskSwap.j23 (Q : Value → World → Prop) (s5 : Option Addr) (s5n : Nat) (s5c : Nat) (s6 : Option Addr) (s6n : Nat) (s6c : Nat) (s8 : Int) (s14 : Bool) (s15 : Option Addr) (s15n : Nat) (s15c : Nat) (s17 : Int) (w : World) : Prop := Nd X_l12_DiskSwap Q [(5, 5, .slice s5 s5n s5c), (6, 6, .slice s6 s6n s6c), (8, 8, .int .i64 s8), (14, 14, .bool s14), (15, 15, .slice s15 s15n s15c), (17, 17, .int .i64 s17)] [.code (B_l12_DiskSwap.r.r.r.r.r.r.r.r.r.r.r.r.r.r.r.r.r.l.r.l.l.l.l), .code (B_l12_DiskSwap.r.r.r.r.r.r.r.r.r.r.r.r.r.r.r.r.r.l.r.l.l.l.r), .code (B_l12_DiskSwap.r.r.r.r.r.r.r.r.r.r.r.r.r.r.r.r.r.l.r.l.l.r), .inLoop (B_l12_DiskSwap.r.r.r.r.r.r.r.r.r.r.r.r.r.r.r.r.r.l.r.l.l), .inBlock 0, .code (B_l12_DiskSwap.r.r.r.r.r.r.r.r.r.r.r.r.r.r.r.r.r.r)] w
noncomputable def N_l12_DiskSwap.j29 (Q : Value → World → Prop) (s19 : Bool) (w : World) : Prop := Nd X_l12_DiskSwap Q [(19, 19, .bool s19)] [.code (B_l12_DiskSwap.r.r.r.r.r.r.r.r.r.r.r.r.r.r.r.r.r.l.r.l.l.r.l.l.r.l.r.r.l.r.l.l), .code (B_l12_DiskSwap.r.r.r.r.r.r.r.r.r.r.r.r.r.r.r.r.r.l.r.l.l.r.l.l.r.l.r.r.l.r.l.r), .code (B_l12_DiskSwap.r.r.r.r.r.r.r.r.r.r.r.r.r.r.r.r.r.l.r.l.l.r.l.l.r.l.r.r.r), .inBlock 1, .code (B_l12_DiskSwap.r.r.r.r.r.r.r.r.r.r.r.r.r.r.r.r.r.l.r.l.l.r.r), .inLoop (B_l12_DiskSwap.r.r.r.r.r.r.r.r.r.r.r.r.r.r.r.r.r.l.r.l.l), .inBlock 0, .code (B_l12_DiskSwap.r.r.r.r.r.r.r.r.r.r.r.r.r.r.r.r.r.r)] w
noncomputable def N_l12_DiskSwap.j32 (Q : Value → World → Prop) (s18 : Bool) (s19 : Bool) (w : World) : Prop := Nd X_l12_DiskSwap Q [(18, 18, .bool s18), (19, 19, .bool s19)] [.code (B_l12_DiskSwap.r.r.r.r.r.r.r.r.r.r.r.r.r.r.r.r.r.l.r.l.l.r.l.l.r.l.r.r.r.r.l), .code (B_l12_DiskSwap.r.r.r.r.r.r.r.r.r.r.r.r.r.r.r.r.r.l.r.l.l.r.l.l.r.l.r.r.r.r.r), .inBlock 1, .code (B_l12_DiskSwap.r.r.r.r.r.r.r.r.r.r.r.r.r.r.r.r.r.l.r.l.l.r.r), .inLoop (B_l12_DiskSwap.r.r.r.r.r.r.r.r.r.r.r.r.r.r.r.r.r.l.r.l.l), .inBlock 0, .code (B_l12_DiskSwap.r.r.r.r.r.r.r.r.r.r.r.r.r.r.r.r.r.r)] w
theorem N_l12_DiskSwap.j5_eq (Q : Value → World → Prop) (w : World) (h :
  Q (.bool false) w) :
N_l12_DiskSwap.j5 Q w := Nd_fold K_l12_DiskSwap (by kernel_rfl) h
theorem N_l12_DiskSwap.j7_eq (Q : Value → World → Prop) (w : World) (h :
  Q (.bool false) w) :
N_l12_DiskSwap.j7 Q w := Nd_fold K_l12_DiskSwap (by kernel_rfl) h
theorem N_l12_DiskSwap.j17_eq (Q : Value → World → Prop) (s3 : Addr) (s5 : Option Addr) (s5n : Nat) (s5c : Nat) (s6 : Option Addr) (s6n : Nat) (s6c : Nat) (s7 : Option Addr) (s8 : Int) (s14 : Bool) (w : World) (h :
  cond (s8 == 0)
  (cond (!(s14 == true))
  (N_l12_DiskSwap.j18 Q w)
  (N_l12_DiskSwap.j19 Q s3 s5 s5n s5c s6 s6n s6c s7 s8 s14 w))
  (cond (!(s14 == (s8 == 6)))
  (N_l12_DiskSwap.j18 Q w)
  (N_l12_DiskSwap.j19 Q s3 s5 s5n s5c s6 s6n s6c s7 s8 s14 w))) :
N_l12_DiskSwap.j17 Q s3 s5 s5n s5c s6 s6n s6c s7 s8 s14 w := Nd_fold K_l12_DiskSwap (by kernel_rfl) h
theorem N_l12_DiskSwap.j18_eq (Q : Value → World → Prop) (w : World) (h :
  Q (.bool false) w) :
N_l12_DiskSwap.j18 Q w := Nd_fold K_l12_DiskSwap (by kernel_rfl) h
theorem N_l12_DiskSwap.j19_eq (Q : Value → World → Prop) (s3 : Addr) (s5 : Option Addr) (s5n : Nat) (s5c : Nat) (s6 : Option Addr) (s6n : Nat) (s6c : Nat) (s7 : Option Addr) (s8 : Int) (s14 : Bool) (w : World) (h :
  opnL (w.cell? (s3.add 3)) fun x1 x1n x1c =>
  C_l12_after #[.pointer s7, .slice x1 x1n x1c] w fun v2 w3 =>
  opnT (some v2) fun x4 =>
  x4.size = 2 ∧
  opnL (x4[0]?) fun x5 x5n x5c =>
  opnB (x4[1]?) fun x6 =>
  N_l12_DiskSwap.j20 Q s5 s5n s5c s6 s6n s6c s8 s14 x5 x5n x5c x6 w3) :
N_l12_DiskSwap.j19 Q s3 s5 s5n s5c s6 s6n s6c s7 s8 s14 w := Nd_fold K_l12_DiskSwap (by kernel_rfl) h
theorem N_l12_DiskSwap.j20_eq (Q : Value → World → Prop) (s5 : Option Addr) (s5n : Nat) (s5c : Nat) (s6 : Option Addr) (s6n : Nat) (s6c : Nat) (s8 : Int) (s14 : Bool) (s15 : Option Addr) (s15n : Nat) (s15c : Nat) (s16 : Bool) (w : World) (h :
  cond (!s16)
  (N_l12_DiskSwap.j21 Q w)
  (N_l12_DiskSwap.j22 Q s5 s5n s5c s6 s6n s6c s8 s14 s15 s15n s15c w)) :
N_l12_DiskSwap.j20 Q s5 s5n s5c s6 s6n s6c s8 s14 s15 s15n s15c s16 w := Nd_fold K_l12_DiskSwap (by kernel_rfl) h
theorem N_l12_DiskSwap.j21_eq (Q : Value → World → Prop) (w : World) (h :
  Q (.bool false) w) :
N_l12_DiskSwap.j21 Q w := Nd_fold K_l12_DiskSwap (by kernel_rfl) h
theorem N_l12_DiskSwap.j22_eq (Q : Value → World → Prop) (s5 : Option Addr) (s5n : Nat) (s5c : Nat) (s6 : Option Addr) (s6n : Nat) (s6c : Nat) (s8 : Int) (s14 : Bool) (s15 : Option Addr) (s15n : Nat) (s15c : Nat) (w : World) (h :
  N_l12_DiskSwap.j23 Q s5 s5n s5c s6 s6n s6c s8 s14 s15 s15n s15c 0 w) :
N_l12_DiskSwap.j22 Q s5 s5n s5c s6 s6n s6c s8 s14 s15 s15n s15c w := Nd_fold K_l12_DiskSwap (by kernel_rfl) h
theorem N_l12_DiskSwap.j23_eq (Q : Value → World → Prop) (s5 : Option Addr) (s5n : Nat) (s5c : Nat) (s6 : Option Addr) (s6n : Nat) (s6c : Nat) (s8 : Int) (s14 : Bool) (s15 : Option Addr) (s15n : Nat) (s15c : Nat) (s17 : Int) (w : World) (h :
  cond (decide (s17 < ((s15n : Nat) : Int)))
  ((0 : Int) ≤ s17 ∧
  s17 < ((s15n : Nat) : Int) ∧
  opnA s15 fun ad1 =>
  opnS (w.cell? ((ad1.add (Int.toNat s17 * 2)).add 0)) fun x2 =>
  cond (x2.toList == (⟨#[104, 101, 97, 100]⟩ : ByteArray).toList)
  (drw w fun w3 =>
  (0 : Int) ≤ s17 ∧
  s17 < ((s15n : Nat) : Int) ∧
  opnA s15 fun ad4 =>
  opnL (w3.cell? ((ad4.add (Int.toNat s17 * 2)).add 1)) fun x5 x5n x5c =>
  semR PP (convert 23 9 (.slice x5 x5n x5c)) w3 fun x6 =>
  opnS (some x6) fun x7 =>
  semR PP (convert 23 9 (.slice s5 s5n s5c)) w3 fun x8 =>
  opnS (some x8) fun x9 =>
  drw w3 fun w10 =>
  (0 : Int) ≤ s17 ∧
  s17 < ((s15n : Nat) : Int) ∧
  opnA s15 fun ad11 =>
  opnL (w10.cell? ((ad11.add (Int.toNat s17 * 2)).add 1)) fun x12 x12n x12c =>
  semR PP (convert 23 9 (.slice x12 x12n x12c)) w10 fun x13 =>
  opnS (some x13) fun x14 =>
  semR PP (convert 23 9 (.slice s6 s6n s6c)) w10 fun x15 =>
  opnS (some x15) fun x16 =>
  cond s14
  (N_l12_DiskSwap.j29 Q (x14.toList == x16.toList) w10)
  (cond (s8 == 5)
  (N_l12_DiskSwap.j29 Q (x14.toList == x16.toList) w10)
  (cond (decide (s8 ≥ 1))
  (cond (decide (s8 ≤ 3))
  (Q (.bool (x7.toList == x9.toList)) w10)
  (N_l12_DiskSwap.j32 Q (x7.toList == x9.toList) (x14.toList == x16.toList) w10))
  (N_l12_DiskSwap.j32 Q (x7.toList == x9.toList) (x14.toList == x16.toList) w10))))
  (N_l12_DiskSwap.j23 Q s5 s5n s5c s6 s6n s6c s8 s14 s15 s15n s15c (IntKind.wrap .i64 (s17 + 1)) w))
  (Q (.bool false) w)) :
N_l12_DiskSwap.j23 Q s5 s5n s5c s6 s6n s6c s8 s14 s15 s15n s15c s17 w := Nd_fold K_l12_DiskSwap (by kernel_rfl) h
theorem N_l12_DiskSwap.j29_eq (Q : Value → World → Prop) (s19 : Bool) (w : World) (h :
  Q (.bool s19) w) :
N_l12_DiskSwap.j29 Q s19 w := Nd_fold K_l12_DiskSwap (by kernel_rfl) h
theorem N_l12_DiskSwap.j32_eq (Q : Value → World → Prop) (s18 : Bool) (s19 : Bool) (w : World) (h :
  cond s18
  (Q (.bool true) w)
  (Q (.bool s19) w)) :
N_l12_DiskSwap.j32 Q s18 s19 w := Nd_fold K_l12_DiskSwap (by kernel_rfl) h
theorem C_l12_DiskSwap_eq (Q : Value → World → Prop) (a0 : Option Addr) (a0n : Nat) (a0c : Nat) (a1_0 : Option Addr) (a1_0n : Nat) (a1_0c : Nat) (a1_1 : Option Addr) (a1_1n : Nat) (a1_1c : Nat) (a1_2 : Int) (a1_3 : Option Addr) (a1_3n : Nat) (a1_3c : Nat) (w : World) (h :
  alC #[.slice a1_0 a1_0n a1_0c, .slice a1_1 a1_1n a1_1c, .int .i64 a1_2, .slice a1_3 a1_3n a1_3c] 26 w fun p1 w2 =>
  opnL (w2.cell? (p1.add 0)) fun x3 x3n x3c =>
  C_l12_short #[.slice x3 x3n x3c] w2 fun v4 w5 =>
  opnL (some v4) fun x6 x6n x6c =>
  opnL (w5.cell? (p1.add 1)) fun x7 x7n x7c =>
  C_l12_short #[.slice x7 x7n x7c] w5 fun v8 w9 =>
  opnL (some v8) fun x10 x10n x10c =>
  C_l12_begun #[.slice a0 a0n a0c] w9 fun v11 w12 =>
  opnP (some v11) fun x13 =>
  C_l12_head #[] w12 fun v14 w15 =>
  opnB (some v14) fun x16 =>
  cond (!x16)
  (N_l12_DiskSwap.j5 Q w15)
  (semR PP (do eqGuard .eql 28 (.tmp 31) (.const (.pointer none)) (.pointer x13) (.pointer none); binOp .eql 28 (.pointer x13) (.pointer none)) w15 fun x17 =>
  opnB (some x17) fun x18 =>
  cond x18
  (N_l12_DiskSwap.j5 Q w15)
  (C_p_disk_Disk_Fail #[.pointer x13, .int .i64 0, .int .i64 124] w15 fun v19 w20 =>
  opnI .i64 (some v19) fun x21 =>
  cond (x21 != 0)
  (N_l12_DiskSwap.j5 Q w20)
  (C_p_disk_Disk_Create #[.pointer x13, .string (⟨#[104, 101, 97, 100]⟩ : ByteArray)] w20 fun v22 w23 =>
  opnI .i64 (some v22) fun x24 =>
  cond (x24 != 0)
  (N_l12_DiskSwap.j7 Q w23)
  (C_l12_copied #[.slice x6 x6n x6c] w23 fun v25 w26 =>
  opnL (some v25) fun x27 x27n x27c =>
  C_p_disk_Disk_Write #[.pointer x13, .string (⟨#[104, 101, 97, 100]⟩ : ByteArray), .int .i64 0, .slice x27 x27n x27c] w26 fun v28 w29 =>
  opnI .i64 (some v28) fun x30 =>
  cond (x30 != 0)
  (N_l12_DiskSwap.j7 Q w29)
  (C_p_disk_Disk_Sync #[.pointer x13, .string (⟨#[104, 101, 97, 100]⟩ : ByteArray)] w29 fun v31 w32 =>
  opnI .i64 (some v31) fun x33 =>
  cond (x33 != 0)
  (N_l12_DiskSwap.j7 Q w32)
  (C_p_disk_Disk_SyncNames #[.pointer x13] w32 fun v34 w35 =>
  opnI .i64 (some v34) fun x36 =>
  cond (x36 != 0)
  (N_l12_DiskSwap.j7 Q w35)
  (opnI .i64 (w35.cell? (p1.add 2)) fun x37 =>
  C_l12_within #[.int .i64 x37, .int .i64 0, .int .i64 6] w35 fun v38 w39 =>
  opnI .i64 (some v38) fun x40 =>
  C_p_disk_Disk_Fail #[.pointer x13, .int .i64 x40, .int .i64 125] w39 fun v41 w42 =>
  opnI .i64 (some v41) fun x43 =>
  cond (x43 != 0)
  (Q (.bool false) w42)
  (C_p_disk_Disk_Create #[.pointer x13, .string (⟨#[104, 101, 97, 100, 46, 110, 101, 119]⟩ : ByteArray)] w42 fun v44 w45 =>
  opnI .i64 (some v44) fun x46 =>
  C_l12_copied #[.slice x10 x10n x10c] w45 fun v47 w48 =>
  opnL (some v47) fun x49 x49n x49c =>
  C_p_disk_Disk_Write #[.pointer x13, .string (⟨#[104, 101, 97, 100, 46, 110, 101, 119]⟩ : ByteArray), .int .i64 0, .slice x49 x49n x49c] w48 fun v50 w51 =>
  opnI .i64 (some v50) fun x52 =>
  C_p_disk_Disk_Sync #[.pointer x13, .string (⟨#[104, 101, 97, 100, 46, 110, 101, 119]⟩ : ByteArray)] w51 fun v53 w54 =>
  opnI .i64 (some v53) fun x55 =>
  C_p_disk_Disk_Rename #[.pointer x13, .string (⟨#[104, 101, 97, 100, 46, 110, 101, 119]⟩ : ByteArray), .string (⟨#[104, 101, 97, 100]⟩ : ByteArray)] w54 fun v56 w57 =>
  opnI .i64 (some v56) fun x58 =>
  C_p_disk_Disk_SyncNames #[.pointer x13] w57 fun v59 w60 =>
  opnI .i64 (some v59) fun x61 =>
  cond (x46 == 0)
  (cond (x52 == 0)
  (cond (x55 == 0)
  (cond (x58 == 0)
  (N_l12_DiskSwap.j17 Q p1 x6 x6n x6c x10 x10n x10c x13 x40 (x61 == 0) w60)
  (N_l12_DiskSwap.j17 Q p1 x6 x6n x6c x10 x10n x10c x13 x40 false w60))
  (N_l12_DiskSwap.j17 Q p1 x6 x6n x6c x10 x10n x10c x13 x40 false w60))
  (N_l12_DiskSwap.j17 Q p1 x6 x6n x6c x10 x10n x10c x13 x40 false w60))
  (N_l12_DiskSwap.j17 Q p1 x6 x6n x6c x10 x10n x10c x13 x40 false w60)))))))))) :
C_l12_DiskSwap #[.slice a0 a0n a0c, .agg #[.slice a1_0 a1_0n a1_0c, .slice a1_1 a1_1n a1_1c, .int .i64 a1_2, .slice a1_3 a1_3n a1_3c]] w Q := C_fold K_l12_DiskSwap (by kernel_rfl) h
/-! ### ledger/ledgerlaw12.DiskLasts -/
noncomputable def B_l12_DiskLasts : Code := match Tryz.f4.body with | some c => c | _ => .skip
noncomputable def X_l12_DiskLasts : Cx := { P := PP, fn := 4, N := 84, tab := tab, results := [.tmp 4], iter := fun _ => (.none, .none), dyn := fun _ => false, live := fun r => cond (Nat.beq r 3) (some []) (cond (Nat.beq r 6) (some [1, 5, 6, 7]) (cond (Nat.beq r 12) (some []) (none))) }
theorem K_l12_DiskLasts : OkF X_l12_DiskLasts B_l12_DiskLasts Tryz.f4 := ⟨⟨tab_ok, mix_ok⟩, Tryz.func4, by kernel_rfl, by kernel_rfl, by kernel_rfl, by kernel_rfl⟩
noncomputable def N_l12_DiskLasts.j3 (Q : Value → World → Prop) (w : World) : Prop := Nd X_l12_DiskLasts Q [] [.code (B_l12_DiskLasts.r.r.l.r.l.l), .code (B_l12_DiskLasts.r.r.l.r.l.r), .code (B_l12_DiskLasts.r.r.r)] w
noncomputable def N_l12_DiskLasts.j6 (Q : Value → World → Prop) (s1 : Option Addr) (s1n : Nat) (s1c : Nat) (s5 : Option Addr) (s6 : Option Addr) (s6n : Nat) (s6c : Nat) (s7 : Int) (w : World) : Prop := Nd X_l12_DiskLasts Q [(1, 1, .slice s1 s1n s1c), (5, 5, .pointer s5), (6, 6, .slice s6 s6n s6c), (7, 7, .int .i64 s7)] [.code (B_l12_DiskLasts.r.r.r.r.l.r.l.l.l.l), .code (B_l12_DiskLasts.r.r.r.r.l.r.l.l.l.r), .code (B_l12_DiskLasts.r.r.r.r.l.r.l.l.r), .inLoop (B_l12_DiskLasts.r.r.r.r.l.r.l.l), .inBlock 0, .code (B_l12_DiskLasts.r.r.r.r.r)] w
noncomputable def N_l12_DiskLasts.j12 (Q : Value → World → Prop) (w : World) : Prop := Nd X_l12_DiskLasts Q [] [.code (B_l12_DiskLasts.r.r.r.r.r.r.l.r.l.l), .code (B_l12_DiskLasts.r.r.r.r.r.r.l.r.l.r), .code (B_l12_DiskLasts.r.r.r.r.r.r.r)] w
theorem N_l12_DiskLasts.j3_eq (Q : Value → World → Prop) (w : World) (h :
  Q (.bool false) w) :
N_l12_DiskLasts.j3 Q w := Nd_fold K_l12_DiskLasts (by kernel_rfl) h
theorem N_l12_DiskLasts.j6_eq (Q : Value → World → Prop) (s1 : Option Addr) (s1n : Nat) (s1c : Nat) (s5 : Option Addr) (s6 : Option Addr) (s6n : Nat) (s6c : Nat) (s7 : Int) (w : World) (h :
  cond (decide (s7 < ((s6n : Nat) : Int)))
  ((0 : Int) ≤ s7 ∧
  s7 < ((s6n : Nat) : Int) ∧
  opnA s6 fun ad1 =>
  opnS (w.cell? (ad1.add (Int.toNat s7 * 1))) fun x2 =>
  C_p_disk_Disk_Sync #[.pointer s5, .string x2] w fun v3 w4 =>
  opnI .i64 (some v3) fun x5 =>
  cond (x5 != 0)
  (Q (.bool false) w4)
  (N_l12_DiskLasts.j6 Q s1 s1n s1c s5 s6 s6n s6c (IntKind.wrap .i64 (s7 + 1)) w4))
  (C_p_disk_Disk_Files #[.pointer s5] w fun v6 w7 =>
  opnL (some v6) fun x8 x8n x8c =>
  C_l12_copies #[.slice x8 x8n x8c] w7 fun v9 w10 =>
  opnL (some v9) fun x11 x11n x11c =>
  cond (((x11n : Nat) : Int) != ((s6n : Nat) : Int))
  (N_l12_DiskLasts.j12 Q w10)
  (C_p_disk_Disk_SyncNames #[.pointer s5] w10 fun v12 w13 =>
  opnI .i64 (some v12) fun x14 =>
  cond (x14 != 0)
  (N_l12_DiskLasts.j12 Q w13)
  (C_p_disk_Disk_Pending #[.pointer s5] w13 fun v15 w16 =>
  opnI .i64 (some v15) fun x17 =>
  cond (x17 != 0)
  (N_l12_DiskLasts.j12 Q w16)
  (C_l12_after #[.pointer s5, .slice s1 s1n s1c] w16 fun v18 w19 =>
  opnT (some v18) fun x20 =>
  x20.size = 2 ∧
  opnL (x20[0]?) fun x21 x21n x21c =>
  opnB (x20[1]?) fun x22 =>
  C_l12_after #[.pointer s5, .slice none 0 0] w19 fun v23 w24 =>
  opnT (some v23) fun x25 =>
  x25.size = 2 ∧
  opnL (x25[0]?) fun x26 x26n x26c =>
  opnB (x25[1]?) fun x27 =>
  cond x22
  (cond x27
  (C_l12_sameFiles #[.slice x21 x21n x21c, .slice x11 x11n x11c] w24 fun v28 w29 =>
  opnB (some v28) fun x30 =>
  cond x30
  (C_l12_sameFiles #[.slice x26 x26n x26c, .slice x11 x11n x11c] w29 fun v31 w32 =>
  opnB (some v31) fun x33 =>
  Q (.bool x33) w32)
  (Q (.bool false) w29))
  (Q (.bool false) w24))
  (Q (.bool false) w24)))))) :
N_l12_DiskLasts.j6 Q s1 s1n s1c s5 s6 s6n s6c s7 w := Nd_fold K_l12_DiskLasts (by kernel_rfl) h
theorem N_l12_DiskLasts.j12_eq (Q : Value → World → Prop) (w : World) (h :
  Q (.bool false) w) :
N_l12_DiskLasts.j12 Q w := Nd_fold K_l12_DiskLasts (by kernel_rfl) h
theorem C_l12_DiskLasts_eq (Q : Value → World → Prop) (a0 : Option Addr) (a0n : Nat) (a0c : Nat) (a1 : Option Addr) (a1n : Nat) (a1c : Nat) (w : World) (h :
  C_l12_begun #[.slice a0 a0n a0c] w fun v1 w2 =>
  opnP (some v1) fun x3 =>
  C_l12_head #[] w2 fun v4 w5 =>
  opnB (some v4) fun x6 =>
  cond (!x6)
  (N_l12_DiskLasts.j3 Q w5)
  (semR PP (do eqGuard .eql 28 (.tmp 18) (.const (.pointer none)) (.pointer x3) (.pointer none); binOp .eql 28 (.pointer x3) (.pointer none)) w5 fun x7 =>
  opnB (some x7) fun x8 =>
  cond x8
  (N_l12_DiskLasts.j3 Q w5)
  (C_p_disk_Disk_Fail #[.pointer x3, .int .i64 0, .int .i64 124] w5 fun v9 w10 =>
  opnI .i64 (some v9) fun x11 =>
  cond (x11 != 0)
  (N_l12_DiskLasts.j3 Q w10)
  (C_p_disk_Disk_List #[.pointer x3, .string (⟨#[]⟩ : ByteArray)] w10 fun v12 w13 =>
  opnL (some v12) fun x14 x14n x14c =>
  N_l12_DiskLasts.j6 Q a1 a1n a1c x3 x14 x14n x14c 0 w13)))) :
C_l12_DiskLasts #[.slice a0 a0n a0c, .slice a1 a1n a1c] w Q := C_fold K_l12_DiskLasts (by kernel_rfl) h
/-! ### ledger/ledgerlaw12.DiskFails -/
noncomputable def B_l12_DiskFails : Code := match Tryz.f5.body with | some c => c | _ => .skip
noncomputable def X_l12_DiskFails : Cx := { P := PP, fn := 5, N := 145, tab := tab, results := [.tmp 4], iter := fun _ => (.none, .none), dyn := fun _ => false, live := fun r => cond (Nat.beq r 4) (some []) (cond (Nat.beq r 9) (some [0, 3, 5, 6, 7, 8]) (cond (Nat.beq r 10) (some []) (cond (Nat.beq r 11) (some [0, 3, 5, 6, 7, 8]) (cond (Nat.beq r 12) (some [0, 3, 5, 6, 7, 8, 9]) (cond (Nat.beq r 13) (some [0, 3, 5, 6, 7, 8, 9, 10]) (cond (Nat.beq r 14) (some [0, 3, 5, 6, 7, 8, 9, 10, 11]) (cond (Nat.beq r 15) (some [0, 3, 5, 6, 7, 8, 9, 10, 11]) (cond (Nat.beq r 22) (some [0, 3, 5, 6, 7, 8, 9, 10, 11, 12, 13]) (cond (Nat.beq r 23) (some []) (cond (Nat.beq r 24) (some [3, 5, 6, 9, 10]) (cond (Nat.beq r 25) (some []) (cond (Nat.beq r 26) (some [3, 5, 6]) (cond (Nat.beq r 27) (some [3, 6, 14, 15]) (cond (Nat.beq r 28) (some [14, 15, 16, 17]) (none))))))))))))))) }
theorem K_l12_DiskFails : OkF X_l12_DiskFails B_l12_DiskFails Tryz.f5 := ⟨⟨tab_ok, mix_ok⟩, Tryz.func5, by kernel_rfl, by kernel_rfl, by kernel_rfl, by kernel_rfl⟩
noncomputable def N_l12_DiskFails.j4 (Q : Value → World → Prop) (w : World) : Prop := Nd X_l12_DiskFails Q [] [.code (B_l12_DiskFails.r.r.r.l.r.l.l), .code (B_l12_DiskFails.r.r.r.l.r.l.r), .code (B_l12_DiskFails.r.r.r.r)] w
noncomputable def N_l12_DiskFails.j9 (Q : Value → World → Prop) (s0 : Option Addr) (s0n : Nat) (s0c : Nat) (s3 : Addr) (s5 : Option Addr) (s6 : Option Addr) (s7 : Int) (s8 : Int) (w : World) : Prop := Nd X_l12_DiskFails Q [(0, 0, .slice s0 s0n s0c), (3, 3, .pointer (some s3)), (5, 5, .pointer s5), (6, 6, .pointer s6), (7, 7, .int .i64 s7), (8, 8, .int .i64 s8)] [.code (B_l12_DiskFails.r.r.r.r.r.r.r.l.l), .code (B_l12_DiskFails.r.r.r.r.r.r.r.l.r), .code (B_l12_DiskFails.r.r.r.r.r.r.r.r)] w
noncomputable def N_l12_DiskFails.j10 (Q : Value → World → Prop) (w : World) : Prop := Nd X_l12_DiskFails Q [] [.code (B_l12_DiskFails.r.r.r.r.r.r.r.l.r.l.l), .code (B_l12_DiskFails.r.r.r.r.r.r.r.l.r.l.r), .code (B_l12_DiskFails.r.r.r.r.r.r.r.r)] w
noncomputable def N_l12_DiskFails.j11 (Q : Value → World → Prop) (s0 : Option Addr) (s0n : Nat) (s0c : Nat) (s3 : Addr) (s5 : Option Addr) (s6 : Option Addr) (s7 : Int) (s8 : Int) (w : World) : Prop := Nd X_l12_DiskFails Q [(0, 0, .slice s0 s0n s0c), (3, 3, .pointer (some s3)), (5, 5, .pointer s5), (6, 6, .pointer s6), (7, 7, .int .i64 s7), (8, 8, .int .i64 s8)] [.code (B_l12_DiskFails.r.r.r.r.r.r.r.r.l), .code (B_l12_DiskFails.r.r.r.r.r.r.r.r.r)] w
noncomputable def N_l12_DiskFails.j12 (Q : Value → World → Prop) (s0 : Option Addr) (s0n : Nat) (s0c : Nat) (s3 : Addr) (s5 : Option Addr) (s6 : Option Addr) (s7 : Int) (s8 : Int) (s9 : Int) (w : World) : Prop := Nd X_l12_DiskFails Q [(0, 0, .slice s0 s0n s0c), (3, 3, .pointer (some s3)), (5, 5, .pointer s5), (6, 6, .pointer s6), (7, 7, .int .i64 s7), (8, 8, .int .i64 s8), (9, 9, .int .i64 s9)] [.code (B_l12_DiskFails.r.r.r.r.r.r.r.r.r.l), .code (B_l12_DiskFails.r.r.r.r.r.r.r.r.r.r)] w
noncomputable def N_l12_DiskFails.j13 (Q : Value → World → Prop) (s0 : Option Addr) (s0n : Nat) (s0c : Nat) (s3 : Addr) (s5 : Option Addr) (s6 : Option Addr) (s7 : Int) (s8 : Int) (s9 : Int) (s10 : Int) (w : World) : Prop := Nd X_l12_DiskFails Q [(0, 0, .slice s0 s0n s0c), (3, 3, .pointer (some s3)), (5, 5, .pointer s5), (6, 6, .pointer s6), (7, 7, .int .i64 s7), (8, 8, .int .i64 s8), (9, 9, .int .i64 s9), (10, 10, .int .i64 s10)] [.code (B_l12_DiskFails.r.r.r.r.r.r.r.r.r.r.l.l), .code (B_l12_DiskFails.r.r.r.r.r.r.r.r.r.r.l.r), .code (B_l12_DiskFails.r.r.r.r.r.r.r.r.r.r.r)] w
noncomputable def N_l12_DiskFails.j14 (Q : Value → World → Prop) (s0 : Option Addr) (s0n : Nat) (s0c : Nat) (s3 : Addr) (s5 : Option Addr) (s6 : Option Addr) (s7 : Int) (s8 : Int) (s9 : Int) (s10 : Int) (s11 : Int) (w : World) : Prop := Nd X_l12_DiskFails Q [(0, 0, .slice s0 s0n s0c), (3, 3, .pointer (some s3)), (5, 5, .pointer s5), (6, 6, .pointer s6), (7, 7, .int .i64 s7), (8, 8, .int .i64 s8), (9, 9, .int .i64 s9), (10, 10, .int .i64 s10), (11, 11, .int .i64 s11)] [.code (B_l12_DiskFails.r.r.r.r.r.r.r.r.r.r.l.r.l.l.l.l), .code (B_l12_DiskFails.r.r.r.r.r.r.r.r.r.r.l.r.l.l.l.r), .code (B_l12_DiskFails.r.r.r.r.r.r.r.r.r.r.l.r.l.l.r), .inLoop (B_l12_DiskFails.r.r.r.r.r.r.r.r.r.r.l.r.l.l), .inBlock 0, .code (B_l12_DiskFails.r.r.r.r.r.r.r.r.r.r.r)] w
noncomputable def N_l12_DiskFails.j15 (Q : Value → World → Prop) (s0 : Option Addr) (s0n : Nat) (s0c : Nat) (s3 : Addr) (s5 : Option Addr) (s6 : Option Addr) (s7 : Int) (s8 : Int) (s9 : Int) (s10 : Int) (s11 : Int) (w : World) : Prop := Nd X_l12_DiskFails Q [(0, 0, .slice s0 s0n s0c), (3, 3, .pointer (some s3)), (5, 5, .pointer s5), (6, 6, .pointer s6), (7, 7, .int .i64 s7), (8, 8, .int .i64 s8), (9, 9, .int .i64 s9), (10, 10, .int .i64 s10), (11, 11, .int .i64 s11)] [.code (B_l12_DiskFails.r.r.r.r.r.r.r.r.r.r.l.r.l.l.r.r), .inLoop (B_l12_DiskFails.r.r.r.r.r.r.r.r.r.r.l.r.l.l), .inBlock 0, .code (B_l12_DiskFails.r.r.r.r.r.r.r.r.r.r.r)] w
noncomputable def N_l12_DiskFails.j22 (Q : Value → World → Prop) (s0 : Option Addr) (s0n : Nat) (s0c : Nat) (s3 : Addr) (s5 : Option Addr) (s6 : Option Addr) (s7 : Int) (s8 : Int) (s9 : Int) (s10 : Int) (s11 : Int) (s12 : Addr) (s13 : Int) (w : World) : Prop := Nd X_l12_DiskFails Q [(0, 0, .slice s0 s0n s0c), (3, 3, .pointer (some s3)), (5, 5, .pointer s5), (6, 6, .pointer s6), (7, 7, .int .i64 s7), (8, 8, .int .i64 s8), (9, 9, .int .i64 s9), (10, 10, .int .i64 s10), (11, 11, .int .i64 s11), (12, 12, .pointer (some s12)), (13, 13, .int .i64 s13)] [.code (B_l12_DiskFails.r.r.r.r.r.r.r.r.r.r.l.r.l.l.r.l.l.r.r.r.r.r.l), .code (B_l12_DiskFails.r.r.r.r.r.r.r.r.r.r.l.r.l.l.r.l.l.r.r.r.r.r.r), .inBlock 1, .code (B_l12_DiskFails.r.r.r.r.r.r.r.r.r.r.l.r.l.l.r.r), .inLoop (B_l12_DiskFails.r.r.r.r.r.r.r.r.r.r.l.r.l.l), .inBlock 0, .code (B_l12_DiskFails.r.r.r.r.r.r.r.r.r.r.r)] w
noncomputable def N_l12_DiskFails.j23 (Q : Value → World → Prop) (w : World) : Prop := Nd X_l12_DiskFails Q [] [.code (B_l12_DiskFails.r.r.r.r.r.r.r.r.r.r.l.r.l.l.r.l.l.r.r.r.r.r.r.l.l), .code (B_l12_DiskFails.r.r.r.r.r.r.r.r.r.r.l.r.l.l.r.l.l.r.r.r.r.r.r.l.r), .inBlock 1, .code (B_l12_DiskFails.r.r.r.r.r.r.r.r.r.r.l.r.l.l.r.r), .inLoop (B_l12_DiskFails.r.r.r.r.r.r.r.r.r.r.l.r.l.l), .inBlock 0, .code (B_l12_DiskFails.r.r.r.r.r.r.r.r.r.r.r)] w
noncomputable def N_l12_DiskFails.j24 (Q : Value → World → Prop) (s3 : Addr) (s5 : Option Addr) (s6 : Option Addr) (s9 : Int) (s10 : Int) (w : World) : Prop := Nd X_l12_DiskFails Q [(3, 3, .pointer (some s3)), (5, 5, .pointer s5), (6, 6, .pointer s6), (9, 9, .int .i64 s9), (10, 10, .int .i64 s10)] [.code (B_l12_DiskFails.r.r.r.r.r.r.r.r.r.r.r.l.l), .code (B_l12_DiskFails.r.r.r.r.r.r.r.r.r.r.r.l.r), .code (B_l12_DiskFails.r.r.r.r.r.r.r.r.r.r.r.r)] w
noncomputable def N_l12_DiskFails.j25 (Q : Value → World → Prop) (w : World) : Prop := Nd X_l12_DiskFails Q [] [.code (B_l12_DiskFails.r.r.r.r.r.r.r.r.r.r.r.l.r.l.l), .code (B_l12_DiskFails.r.r.r.r.r.r.r.r.r.r.r.l.r.l.r), .code (B_l12_DiskFails.r.r.r.r.r.r.r.r.r.r.r.r)] w
noncomputable def N_l12_DiskFails.j26 (Q : Value → World → Prop) (s3 : Addr) (s5 : Option Addr) (s6 : Option Addr) (w : World) : Prop := Nd X_l12_DiskFails Q [(3, 3, .pointer (some s3)), (5, 5, .pointer s5), (6, 6, .pointer s6)] [.code (B_l12_DiskFails.r.r.r.r.r.r.r.r.r.r.r.r.l), .code (B_l12_DiskFails.r.r.r.r.r.r.r.r.r.r.r.r.r)] w
noncomputable def N_l12_DiskFails.j27 (Q : Value → World → Prop) (s3 : Addr) (s6 : Option Addr) (s14 : Option Addr) (s14n : Nat) (s14c : Nat) (s15 : Bool) (w : World) : Prop := Nd X_l12_DiskFails Q [(3, 3, .pointer (some s3)), (6, 6, .pointer s6), (14, 14, .slice s14 s14n s14c), (15, 15, .bool s15)] [.code (B_l12_DiskFails.r.r.r.r.r.r.r.r.r.r.r.r.r.l), .code (B_l12_DiskFails.r.r.r.r.r.r.r.r.r.r.r.r.r.r)] w
noncomputable def N_l12_DiskFails.j28 (Q : Value → World → Prop) (s14 : Option Addr) (s14n : Nat) (s14c : Nat) (s15 : Bool) (s16 : Option Addr) (s16n : Nat) (s16c : Nat) (s17 : Bool) (w : World) : Prop := Nd X_l12_DiskFails Q [(14, 14, .slice s14 s14n s14c), (15, 15, .bool s15), (16, 16, .slice s16 s16n s16c), (17, 17, .bool s17)] [.code (B_l12_DiskFails.r.r.r.r.r.r.r.r.r.r.r.r.r.r.l), .code (B_l12_DiskFails.r.r.r.r.r.r.r.r.r.r.r.r.r.r.r)] w
theorem N_l12_DiskFails.j4_eq (Q : Value → World → Prop) (w : World) (h :
  Q (.bool false) w) :
N_l12_DiskFails.j4 Q w := Nd_fold K_l12_DiskFails (by kernel_rfl) h
theorem N_l12_DiskFails.j9_eq (Q : Value → World → Prop) (s0 : Option Addr) (s0n : Nat) (s0c : Nat) (s3 : Addr) (s5 : Option Addr) (s6 : Option Addr) (s7 : Int) (s8 : Int) (w : World) (h :
  C_p_disk_Disk_Fail #[.pointer s5, .int .i64 s7, .int .i64 s8] w fun v1 w2 =>
  opnI .i64 (some v1) fun x3 =>
  cond (x3 != 0)
  (N_l12_DiskFails.j10 Q w2)
  (N_l12_DiskFails.j11 Q s0 s0n s0c s3 s5 s6 s7 s8 w2)) :
N_l12_DiskFails.j9 Q s0 s0n s0c s3 s5 s6 s7 s8 w := Nd_fold K_l12_DiskFails (by kernel_rfl) h
theorem N_l12_DiskFails.j10_eq (Q : Value → World → Prop) (w : World) (h :
  Q (.bool false) w) :
N_l12_DiskFails.j10 Q w := Nd_fold K_l12_DiskFails (by kernel_rfl) h
theorem N_l12_DiskFails.j11_eq (Q : Value → World → Prop) (s0 : Option Addr) (s0n : Nat) (s0c : Nat) (s3 : Addr) (s5 : Option Addr) (s6 : Option Addr) (s7 : Int) (s8 : Int) (w : World) (h :
  N_l12_DiskFails.j12 Q s0 s0n s0c s3 s5 s6 s7 s8 0 w) :
N_l12_DiskFails.j11 Q s0 s0n s0c s3 s5 s6 s7 s8 w := Nd_fold K_l12_DiskFails (by kernel_rfl) h
theorem N_l12_DiskFails.j12_eq (Q : Value → World → Prop) (s0 : Option Addr) (s0n : Nat) (s0c : Nat) (s3 : Addr) (s5 : Option Addr) (s6 : Option Addr) (s7 : Int) (s8 : Int) (s9 : Int) (w : World) (h :
  N_l12_DiskFails.j13 Q s0 s0n s0c s3 s5 s6 s7 s8 s9 0 w) :
N_l12_DiskFails.j12 Q s0 s0n s0c s3 s5 s6 s7 s8 s9 w := Nd_fold K_l12_DiskFails (by kernel_rfl) h
theorem N_l12_DiskFails.j13_eq (Q : Value → World → Prop) (s0 : Option Addr) (s0n : Nat) (s0c : Nat) (s3 : Addr) (s5 : Option Addr) (s6 : Option Addr) (s7 : Int) (s8 : Int) (s9 : Int) (s10 : Int) (w : World) (h :
  N_l12_DiskFails.j14 Q s0 s0n s0c s3 s5 s6 s7 s8 s9 s10 0 w) :
N_l12_DiskFails.j13 Q s0 s0n s0c s3 s5 s6 s7 s8 s9 s10 w := Nd_fold K_l12_DiskFails (by kernel_rfl) h
theorem N_l12_DiskFails.j14_eq (Q : Value → World → Prop) (s0 : Option Addr) (s0n : Nat) (s0c : Nat) (s3 : Addr) (s5 : Option Addr) (s6 : Option Addr) (s7 : Int) (s8 : Int) (s9 : Int) (s10 : Int) (s11 : Int) (w : World) (h :
  cond (decide (s11 < ((s0n : Nat) : Int)))
  (cond (decide (s11 < 200))
  ((0 : Int) ≤ s11 ∧
  s11 < ((s0n : Nat) : Int) ∧
  opnA s0 fun ad1 =>
  opnI .i64 (w.cell? ((ad1.add (Int.toNat s11 * 9)).add 0)) fun x2 =>
  opnI .i64 (w.cell? ((ad1.add (Int.toNat s11 * 9)).add 1)) fun x3 =>
  opnS (w.cell? ((ad1.add (Int.toNat s11 * 9)).add 2)) fun x4 =>
  opnS (w.cell? ((ad1.add (Int.toNat s11 * 9)).add 3)) fun x5 =>
  opnI .i64 (w.cell? ((ad1.add (Int.toNat s11 * 9)).add 4)) fun x6 =>
  opnI .i64 (w.cell? ((ad1.add (Int.toNat s11 * 9)).add 5)) fun x7 =>
  opnL (w.cell? ((ad1.add (Int.toNat s11 * 9)).add 6)) fun x8 x8n x8c =>
  opnL (w.cell? ((ad1.add (Int.toNat s11 * 9)).add 7)) fun x9 x9n x9c =>
  opnL (w.cell? ((ad1.add (Int.toNat s11 * 9)).add 8)) fun x10 x10n x10c =>
  alC #[.int .i64 0, .int .i64 0, .string (⟨#[]⟩ : ByteArray), .string (⟨#[]⟩ : ByteArray), .int .i64 0, .int .i64 0, .slice none 0 0, .slice none 0 0, .slice none 0 0] 55 w fun p11 w12 =>
  Array.size (#[.int .i64 x2, .int .i64 x3, .string x4, .string x5, .int .i64 x6, .int .i64 x7, .slice x8 x8n x8c, .slice x9 x9n x9c, .slice x10 x10n x10c] : Array Value) = 9 ∧
  stC (p11.add 0) (.int .i64 x2) w12 fun w13 =>
  stC (p11.add 1) (.int .i64 x3) w13 fun w14 =>
  stC (p11.add 2) (.string x4) w14 fun w15 =>
  stC (p11.add 3) (.string x5) w15 fun w16 =>
  stC (p11.add 4) (.int .i64 x6) w16 fun w17 =>
  stC (p11.add 5) (.int .i64 x7) w17 fun w18 =>
  stC (p11.add 6) (.slice x8 x8n x8c) w18 fun w19 =>
  stC (p11.add 7) (.slice x9 x9n x9c) w19 fun w20 =>
  stC (p11.add 8) (.slice x10 x10n x10c) w20 fun w21 =>
  opnI .i64 (w21.cell? (p11.add 0)) fun x22 =>
  opnI .i64 (w21.cell? (p11.add 1)) fun x23 =>
  opnS (w21.cell? (p11.add 2)) fun x24 =>
  opnS (w21.cell? (p11.add 3)) fun x25 =>
  opnI .i64 (w21.cell? (p11.add 4)) fun x26 =>
  opnI .i64 (w21.cell? (p11.add 5)) fun x27 =>
  opnL (w21.cell? (p11.add 6)) fun x28 x28n x28c =>
  opnL (w21.cell? (p11.add 7)) fun x29 x29n x29c =>
  opnL (w21.cell? (p11.add 8)) fun x30 x30n x30c =>
  C_l12_plain #[.agg #[.int .i64 x22, .int .i64 x23, .string x24, .string x25, .int .i64 x26, .int .i64 x27, .slice x28 x28n x28c, .slice x29 x29n x29c, .slice x30 x30n x30c]] w21 fun v31 w32 =>
  opnB (some v31) fun x33 =>
  cond (!x33)
  (N_l12_DiskFails.j15 Q s0 s0n s0c s3 s5 s6 s7 s8 s9 s10 s11 w32)
  (opnI .i64 (w32.cell? (p11.add 0)) fun x34 =>
  opnI .i64 (w32.cell? (p11.add 1)) fun x35 =>
  opnS (w32.cell? (p11.add 2)) fun x36 =>
  opnS (w32.cell? (p11.add 3)) fun x37 =>
  opnI .i64 (w32.cell? (p11.add 4)) fun x38 =>
  opnI .i64 (w32.cell? (p11.add 5)) fun x39 =>
  opnL (w32.cell? (p11.add 6)) fun x40 x40n x40c =>
  opnL (w32.cell? (p11.add 7)) fun x41 x41n x41c =>
  opnL (w32.cell? (p11.add 8)) fun x42 x42n x42c =>
  C_l12_act #[.pointer s5, .agg #[.int .i64 x34, .int .i64 x35, .string x36, .string x37, .int .i64 x38, .int .i64 x39, .slice x40 x40n x40c, .slice x41 x41n x41c, .slice x42 x42n x42c]] w32 fun v43 w44 =>
  opnI .i64 (some v43) fun x45 =>
  cond ((IntKind.wrap .i64 (s9 + 1)) == s7)
  (cond (x45 == s8)
  (N_l12_DiskFails.j15 Q s0 s0n s0c s3 s5 s6 s7 s8 (IntKind.wrap .i64 (s9 + 1)) 1 s11 w44)
  (N_l12_DiskFails.j22 Q s0 s0n s0c s3 s5 s6 s7 s8 (IntKind.wrap .i64 (s9 + 1)) s10 s11 p11 x45 w44))
  (N_l12_DiskFails.j22 Q s0 s0n s0c s3 s5 s6 s7 s8 (IntKind.wrap .i64 (s9 + 1)) s10 s11 p11 x45 w44)))
  (N_l12_DiskFails.j24 Q s3 s5 s6 s9 s10 w))
  (N_l12_DiskFails.j24 Q s3 s5 s6 s9 s10 w)) :
N_l12_DiskFails.j14 Q s0 s0n s0c s3 s5 s6 s7 s8 s9 s10 s11 w := Nd_fold K_l12_DiskFails (by kernel_rfl) h
theorem N_l12_DiskFails.j15_eq (Q : Value → World → Prop) (s0 : Option Addr) (s0n : Nat) (s0c : Nat) (s3 : Addr) (s5 : Option Addr) (s6 : Option Addr) (s7 : Int) (s8 : Int) (s9 : Int) (s10 : Int) (s11 : Int) (w : World) (h :
  N_l12_DiskFails.j14 Q s0 s0n s0c s3 s5 s6 s7 s8 s9 s10 (IntKind.wrap .i64 (s11 + 1)) w) :
N_l12_DiskFails.j15 Q s0 s0n s0c s3 s5 s6 s7 s8 s9 s10 s11 w := Nd_fold K_l12_DiskFails (by kernel_rfl) h
theorem N_l12_DiskFails.j22_eq (Q : Value → World → Prop) (s0 : Option Addr) (s0n : Nat) (s0c : Nat) (s3 : Addr) (s5 : Option Addr) (s6 : Option Addr) (s7 : Int) (s8 : Int) (s9 : Int) (s10 : Int) (s11 : Int) (s12 : Addr) (s13 : Int) (w : World) (h :
  opnI .i64 (w.cell? (s12.add 0)) fun x1 =>
  opnI .i64 (w.cell? (s12.add 1)) fun x2 =>
  opnS (w.cell? (s12.add 2)) fun x3 =>
  opnS (w.cell? (s12.add 3)) fun x4 =>
  opnI .i64 (w.cell? (s12.add 4)) fun x5 =>
  opnI .i64 (w.cell? (s12.add 5)) fun x6 =>
  opnL (w.cell? (s12.add 6)) fun x7 x7n x7c =>
  opnL (w.cell? (s12.add 7)) fun x8 x8n x8c =>
  opnL (w.cell? (s12.add 8)) fun x9 x9n x9c =>
  C_l12_act #[.pointer s6, .agg #[.int .i64 x1, .int .i64 x2, .string x3, .string x4, .int .i64 x5, .int .i64 x6, .slice x7 x7n x7c, .slice x8 x8n x8c, .slice x9 x9n x9c]] w fun v10 w11 =>
  opnI .i64 (some v10) fun x12 =>
  cond (x12 != s13)
  (N_l12_DiskFails.j23 Q w11)
  (cond (s9 == s7)
  (cond (s13 == 0)
  (N_l12_DiskFails.j23 Q w11)
  (cond (s13 == 124)
  (N_l12_DiskFails.j23 Q w11)
  (cond (s13 == 123)
  (N_l12_DiskFails.j23 Q w11)
  (N_l12_DiskFails.j15 Q s0 s0n s0c s3 s5 s6 s7 s8 s9 s10 s11 w11))))
  (cond (s13 == 124)
  (N_l12_DiskFails.j23 Q w11)
  (cond (s13 == 123)
  (N_l12_DiskFails.j23 Q w11)
  (N_l12_DiskFails.j15 Q s0 s0n s0c s3 s5 s6 s7 s8 s9 s10 s11 w11))))) :
N_l12_DiskFails.j22 Q s0 s0n s0c s3 s5 s6 s7 s8 s9 s10 s11 s12 s13 w := Nd_fold K_l12_DiskFails (by kernel_rfl) h
theorem N_l12_DiskFails.j23_eq (Q : Value → World → Prop) (w : World) (h :
  Q (.bool false) w) :
N_l12_DiskFails.j23 Q w := Nd_fold K_l12_DiskFails (by kernel_rfl) h
theorem N_l12_DiskFails.j24_eq (Q : Value → World → Prop) (s3 : Addr) (s5 : Option Addr) (s6 : Option Addr) (s9 : Int) (s10 : Int) (w : World) (h :
  C_p_disk_Disk_Acts #[.pointer s5] w fun v1 w2 =>
  opnI .i64 (some v1) fun x3 =>
  cond (x3 != s9)
  (N_l12_DiskFails.j25 Q w2)
  (C_p_disk_Disk_Acts #[.pointer s6] w2 fun v4 w5 =>
  opnI .i64 (some v4) fun x6 =>
  cond (x6 != (IntKind.wrap .i64 (s9 - s10)))
  (N_l12_DiskFails.j25 Q w5)
  (C_p_disk_Disk_Pending #[.pointer s5] w5 fun v7 w8 =>
  opnI .i64 (some v7) fun x9 =>
  C_p_disk_Disk_Pending #[.pointer s6] w8 fun v10 w11 =>
  opnI .i64 (some v10) fun x12 =>
  cond (x9 != x12)
  (N_l12_DiskFails.j25 Q w11)
  (C_p_disk_Disk_Files #[.pointer s5] w11 fun v13 w14 =>
  opnL (some v13) fun x15 x15n x15c =>
  C_p_disk_Disk_Files #[.pointer s6] w14 fun v16 w17 =>
  opnL (some v16) fun x18 x18n x18c =>
  C_l12_sameFiles #[.slice x15 x15n x15c, .slice x18 x18n x18c] w17 fun v19 w20 =>
  opnB (some v19) fun x21 =>
  cond (!x21)
  (N_l12_DiskFails.j25 Q w20)
  (N_l12_DiskFails.j26 Q s3 s5 s6 w20))))) :
N_l12_DiskFails.j24 Q s3 s5 s6 s9 s10 w := Nd_fold K_l12_DiskFails (by kernel_rfl) h
theorem N_l12_DiskFails.j25_eq (Q : Value → World → Prop) (w : World) (h :
  Q (.bool false) w) :
N_l12_DiskFails.j25 Q w := Nd_fold K_l12_DiskFails (by kernel_rfl) h
theorem N_l12_DiskFails.j26_eq (Q : Value → World → Prop) (s3 : Addr) (s5 : Option Addr) (s6 : Option Addr) (w : World) (h :
  opnL (w.cell? (s3.add 2)) fun x1 x1n x1c =>
  C_l12_after #[.pointer s5, .slice x1 x1n x1c] w fun v2 w3 =>
  opnT (some v2) fun x4 =>
  x4.size = 2 ∧
  opnL (x4[0]?) fun x5 x5n x5c =>
  opnB (x4[1]?) fun x6 =>
  N_l12_DiskFails.j27 Q s3 s6 x5 x5n x5c x6 w3) :
N_l12_DiskFails.j26 Q s3 s5 s6 w := Nd_fold K_l12_DiskFails (by kernel_rfl) h
theorem N_l12_DiskFails.j27_eq (Q : Value → World → Prop) (s3 : Addr) (s6 : Option Addr) (s14 : Option Addr) (s14n : Nat) (s14c : Nat) (s15 : Bool) (w : World) (h :
  opnL (w.cell? (s3.add 2)) fun x1 x1n x1c =>
  C_l12_after #[.pointer s6, .slice x1 x1n x1c] w fun v2 w3 =>
  opnT (some v2) fun x4 =>
  x4.size = 2 ∧
  opnL (x4[0]?) fun x5 x5n x5c =>
  opnB (x4[1]?) fun x6 =>
  N_l12_DiskFails.j28 Q s14 s14n s14c s15 x5 x5n x5c x6 w3) :
N_l12_DiskFails.j27 Q s3 s6 s14 s14n s14c s15 w := Nd_fold K_l12_DiskFails (by kernel_rfl) h
theorem N_l12_DiskFails.j28_eq (Q : Value → World → Prop) (s14 : Option Addr) (s14n : Nat) (s14c : Nat) (s15 : Bool) (s16 : Option Addr) (s16n : Nat) (s16c : Nat) (s17 : Bool) (w : World) (h :
  cond s15
  (cond s17
  (C_l12_sameFiles #[.slice s14 s14n s14c, .slice s16 s16n s16c] w fun v1 w2 =>
  opnB (some v1) fun x3 =>
  Q (.bool x3) w2)
  (Q (.bool false) w))
  (Q (.bool false) w)) :
N_l12_DiskFails.j28 Q s14 s14n s14c s15 s16 s16n s16c s17 w := Nd_fold K_l12_DiskFails (by kernel_rfl) h
theorem C_l12_DiskFails_eq (Q : Value → World → Prop) (a0 : Option Addr) (a0n : Nat) (a0c : Nat) (a1_0 : Int) (a1_1 : Bool) (a1_2 : Option Addr) (a1_2n : Nat) (a1_2c : Nat) (w : World) (h :
  alC #[.int .i64 a1_0, .bool a1_1, .slice a1_2 a1_2n a1_2c] 52 w fun p1 w2 =>
  C_l12_begun #[.slice none 0 0] w2 fun v3 w4 =>
  opnP (some v3) fun x5 =>
  C_l12_begun #[.slice none 0 0] w4 fun v6 w7 =>
  opnP (some v6) fun x8 =>
  C_l12_head #[] w7 fun v9 w10 =>
  opnB (some v9) fun x11 =>
  cond (!x11)
  (N_l12_DiskFails.j4 Q w10)
  (semR PP (do eqGuard .eql 28 (.tmp 23) (.const (.pointer none)) (.pointer x5) (.pointer none); binOp .eql 28 (.pointer x5) (.pointer none)) w10 fun x12 =>
  opnB (some x12) fun x13 =>
  cond x13
  (N_l12_DiskFails.j4 Q w10)
  (semR PP (do eqGuard .eql 28 (.tmp 27) (.const (.pointer none)) (.pointer x8) (.pointer none); binOp .eql 28 (.pointer x8) (.pointer none)) w10 fun x14 =>
  opnB (some x14) fun x15 =>
  cond x15
  (N_l12_DiskFails.j4 Q w10)
  (opnI .i64 (w10.cell? (p1.add 0)) fun x16 =>
  C_l12_within #[.int .i64 x16, .int .i64 1, .int .i64 (IntKind.wrap .i64 (((a0n : Nat) : Int) + 1))] w10 fun v17 w18 =>
  opnI .i64 (some v17) fun x19 =>
  opnB (w18.cell? (p1.add 1)) fun x20 =>
  cond x20
  (N_l12_DiskFails.j9 Q a0 a0n a0c p1 x5 x8 x19 123 w18)
  (N_l12_DiskFails.j9 Q a0 a0n a0c p1 x5 x8 x19 124 w18))))) :
C_l12_DiskFails #[.slice a0 a0n a0c, .agg #[.int .i64 a1_0, .bool a1_1, .slice a1_2 a1_2n a1_2c]] w Q := C_fold K_l12_DiskFails (by kernel_rfl) h
end Go.Proofs.YtfjhhpoabdpdhaaGreatDoor
