/- ShL6, ShM1, ShU1, ShL9, ShU2, DkModel, ShL8, ShL10, ShL14, ShL15, ShM2, ShL20, ShT, DkMem, DkLay, ShF0 -/
import Derived.Test.YtcigjlbpdkkflaaGreatDoorPkA
import Derived.MapKept
import Derived.Laws.IdiomRangeMap
import Derived.Lib.SpaceU
import Derived.Laws.RangeString
import Derived.Lib.Strings
import Derived.Laws.StructEq
import Derived.ChangeKeysEq
import Derived.Laws.Tables
import Derived.Laws.Pointers
import Derived.Lib.SliceRun
import Derived.Lib.AppendZeros
import Derived.Deep.Upon
import Derived.Test.YtcigjlbpdkkflaaGreatDoorProg
import Derived.KernelRfl
import Derived.Shelf.Strings.Prefix
import Derived.Shelf.Strings.Split
namespace Go.Sh
open Go.ChangeShapes
variable {P : Program}

section
variable {X Y : Prop}
theorem c_t {b : Bool} (h : b = true) (hx : X) : cond b X Y := by subst h; exact hx
theorem c_f {b : Bool} (h : b = false) (hy : Y) : cond b X Y := by subst h; exact hy
theorem c_lt {a b : Int} (h : a < b) (hx : X) : cond (decide (a < b)) X Y := by rw [decide_eq_true h]; exact hx
theorem c_nlt {a b : Int} (h : b ≤ a) (hy : Y) : cond (decide (a < b)) X Y := by rw [decide_eq_false (by omega)]; exact hy
theorem c_gt {a b : Int} (h : b < a) (hx : X) : cond (decide (a > b)) X Y := by rw [decide_eq_true h]; exact hx
theorem c_ngt {a b : Int} (h : a ≤ b) (hy : Y) : cond (decide (a > b)) X Y := by rw [decide_eq_false (by omega)]; exact hy
theorem c_ge {a b : Int} (h : b ≤ a) (hx : X) : cond (decide (a ≥ b)) X Y := by rw [decide_eq_true h]; exact hx
theorem c_nge {a b : Int} (h : a < b) (hy : Y) : cond (decide (a ≥ b)) X Y := by rw [decide_eq_false (by omega)]; exact hy
theorem c_eq {a b : Int} (h : a = b) (hx : X) : cond (a == b) X Y := by subst h; rw [beq_self_eq_true]; exact hx
theorem c_neq {a b : Int} (h : a ≠ b) (hy : Y) : cond (a == b) X Y := by rw [beq_eq_false_iff_ne.2 h]; exact hy
theorem c_ne {a b : Int} (h : a ≠ b) (hx : X) : cond (a != b) X Y := by rw [bne_iff_ne.2 h]; exact hx
theorem c_nne {a b : Int} (h : a = b) (hy : Y) : cond (a != b) X Y := by subst h; rw [bne_self_eq_false]; exact hy
end

theorem drw_s {w : World} {K : World → Prop} : drw w K = K w.drew := rfl
theorem opnL_s {a : Option Addr} {n c : Nat} {K : Option Addr → Nat → Nat → Prop} : opnL (some (.slice a n c)) K = K a n c := rfl
theorem opnI_s {k : IntKind} {n : Int} {K : Int → Prop} (h : K n) : opnI k (some (.int k n)) K := ⟨rfl, h⟩
theorem opnB_s {b : Bool} {K : Bool → Prop} : opnB (some (.bool b)) K = K b := rfl
theorem opnS_s {b : ByteArray} {K : ByteArray → Prop} : opnS (some (.string b)) K = K b := rfl
theorem set_mid {α : Type} (a b : List α) (x v : α) : (a ++ x :: b).set a.length v = a ++ v :: b := by
  rw [List.set_append_right _ _ (Nat.le_refl _), Nat.sub_self, List.set_cons_zero]

section
variable {w w' : World} {S : Nat → Prop} {a : Option Addr}
theorem Lies.some {l : List Value} (h : Lies w S a l) {j : Nat} (hj : j < l.length) : ∃ p, a = some p := by
  obtain ⟨p, h1, _⟩ := h j l[j] (List.getElem?_eq_getElem hj)
  exact ⟨p, h1⟩
theorem Own.some {e n c : Nat} {l : List Value} (h : Own w e 1 a n c l) (hn : 0 < n) : ∃ b, a = .some ⟨b, 0, .none⟩ := by
  rcases h.row with ⟨_, h2, _⟩ | ⟨b, _, h1, _⟩
  · omega
  · exact ⟨b, h1⟩
theorem Own.cell {e n c : Nat} {l : List Value} (h : Own w e 1 a n c l) {j : Nat} {v : Value} (hv : l[j]? = .some v) : ∃ p, a = .some p ∧ w.cell? (p.add j) = .some v := by
  obtain ⟨p, h1, _, h3⟩ := h.lies j v hv
  exact ⟨p, h1, h3⟩
theorem slA_zero (a : Option Addr) (m sz : Nat) : slA a 0 m sz = a := by
  unfold slA
  split
  · rfl
  · cases a <;> simp [Addr.add]
end


structure Lst (w : World) (t : Nat) (E : Nat → Prop) (a : Option Addr) (n c : Nat) (rs : List (List UInt8)) : Prop where
  own : ∃ vals, Own w t 1 a n c vals ∧ vals.length = rs.length ∧ ∀ (j : Nat) (r : List UInt8), rs[j]? = some r → ∃ q cq, vals[j]? = some (.slice q r.length cq) ∧ r.length ≤ cq ∧ Lies w E q (bvs r)
  apart : ∀ k, E k → ¬ At a k ∧ k < w.heap.size
section
variable {w w' : World} {t : Nat} {E : Nat → Prop} {a : Option Addr} {n c : Nat} {rs : List (List UInt8)}
theorem Lst.len (h : Lst w t E a n c rs) : rs.length = n := by
  obtain ⟨vals, h1, h2, _⟩ := h.own
  have := h1.len
  omega
theorem Lst.nil (hE : ∀ k, E k → k < w.heap.size) : Lst w t E .none 0 0 [] := ⟨⟨[], Own.nil, rfl, fun j r h => by simp at h⟩, fun k hk => ⟨(by rintro ⟨p, hp, _⟩; cases hp), hE k hk⟩⟩
theorem Lst.chg {D : Nat → Prop} (h : Lst w t E a n c rs) (k : Chg D w w') (h1 : ∀ x, At a x → ¬ D x) (h2 : ∀ x, E x → ¬ D x) : Lst w' t E a n c rs := by
  obtain ⟨vals, g1, g2, g3⟩ := h.own
  refine ⟨⟨vals, g1.chg k h1, g2, fun j r hj => ?_⟩, fun x hx => ⟨(h.apart x hx).1, Nat.lt_of_lt_of_le (h.apart x hx).2 k.size⟩⟩
  obtain ⟨q, cq, k1, k2, k3⟩ := g3 j r hj
  exact ⟨q, cq, k1, k2, k3.chg k fun x _ hx => h2 x hx⟩
theorem Lst.chg0 (h : Lst w t E a n c rs) (k : Chg None w w') : Lst w' t E a n c rs := h.chg k (fun _ _ h => h) (fun _ _ h => h)
theorem Lst.more {E' : Nat → Prop} (h : Lst w t E a n c rs) (hE : ∀ k, E k → E' k) (hE' : ∀ k, E' k → ¬ At a k ∧ k < w.heap.size) : Lst w t E' a n c rs := by
  obtain ⟨vals, g1, g2, g3⟩ := h.own
  refine ⟨⟨vals, g1, g2, fun j r hj => ?_⟩, hE'⟩
  obtain ⟨q, cq, k1, k2, k3⟩ := g3 j r hj
  exact ⟨q, cq, k1, k2, k3.mono hE⟩
end


theorem Lies.bound {w : World} {S : Nat → Prop} {a : Option Addr} {l : List Value} (h : Lies w S a l) : Lies w (fun k => S k ∧ k < w.heap.size) a l := fun j v hj => by
  obtain ⟨p, g1, g2, g3⟩ := h j v hj
  exact ⟨p, g1, ⟨g2, by have := World.block_lt_of_cell? _ _ g3; rwa [block_add] at this⟩, g3⟩
theorem Recs.bound {w : World} {S : Nat → Prop} {a : Option Addr} {rs : List (List UInt8)} (h : Recs w S a rs) : Recs w (fun k => S k ∧ k < w.heap.size) a rs := fun j r hj => by
  obtain ⟨p, q, c, h1, h2, h3, h4, h5⟩ := h j r hj
  refine ⟨p, q, c, h1, ⟨h2, ?_⟩, h3, h4, fun i v hi => ?_⟩
  · have := World.block_lt_of_cell? _ _ h3; rwa [block_add] at this
  · obtain ⟨p', g1, g2, g3⟩ := h5 i v hi
    exact ⟨p', g1, ⟨g2, by have := World.block_lt_of_cell? _ _ g3; rwa [block_add] at this⟩, g3⟩

structure HP where
  holds : World → Prop
  foot : Nat → Prop
structure HP.Ok (P : HP) : Prop where
  keep : ∀ {D : Nat → Prop} {w w' : World}, P.holds w → Chg D w w' → (∀ k, P.foot k → ¬ D k) → P.holds w'
  lt : ∀ {w : World}, P.holds w → ∀ k, P.foot k → k < w.heap.size
structure Sep (w : World) (l : List HP) : Prop where
  ok : ∀ p ∈ l, p.Ok
  holds : ∀ p ∈ l, p.holds w
  apart : l.Pairwise fun p q => ∀ k, p.foot k → ¬ q.foot k
def hOwn (e sz : Nat) (a : Option Addr) (n c : Nat) (l : List Value) : HP := ⟨fun w => Own w e sz a n c l, At a⟩
theorem hOwn.ok {e sz n c : Nat} {a : Option Addr} {l : List Value} : (hOwn e sz a n c l).Ok := ⟨fun h k hd => Own.chg h k hd, fun h _ hk => Own.lt h hk⟩
def hRecs (F : Nat → Prop) (a : Option Addr) (rs : List (List UInt8)) : HP := ⟨fun w => Recs w F a rs ∧ ∀ k, F k → k < w.heap.size, F⟩
theorem hRecs.ok {F : Nat → Prop} {a : Option Addr} {rs : List (List UInt8)} : (hRecs F a rs).Ok := ⟨fun h k hd => ⟨h.1.chg k fun x _ hx => hd x hx, fun x hx => Nat.lt_of_lt_of_le (h.2 x hx) k.size⟩, fun h => h.2⟩
section
variable {w w' : World}
theorem Sep.nil : Sep w [] := ⟨by simp, by simp, .nil⟩
theorem Sep.get {l r : List HP} {p : HP} (h : Sep w (l ++ p :: r)) : p.holds w := h.holds p (by simp)
theorem Sep.step {l r : List HP} {p : HP} (h : Sep w (l ++ p :: r)) (k : Chg p.foot w w') {p' : HP} (ok : p'.Ok) (hp : p'.holds w') (hf : ∀ x, p'.foot x → p.foot x ∨ w.heap.size ≤ x) : Sep w' (l ++ p' :: r) := by
  have h1 := h.ok
  have h2 := h.holds
  have h3 := h.apart
  rw [List.pairwise_append, List.pairwise_cons] at h3
  obtain ⟨a1, ⟨a2, a3⟩, a4⟩ := h3
  have hl : ∀ q ∈ l, ∀ x, q.foot x → ¬ p.foot x := fun q hq => a4 q hq p (by simp)
  have hr : ∀ q ∈ r, ∀ x, q.foot x → ¬ p.foot x := fun q hq x hx hx' => a2 q hq x hx' hx
  have lt : ∀ q ∈ l ++ p :: r, ∀ x, q.foot x → x < w.heap.size := fun q hq => (h1 q hq).lt (h2 q hq)
  refine ⟨fun q hq => ?_, fun q hq => ?_, ?_⟩
  · simp only [List.mem_append, List.mem_cons] at hq
    rcases hq with hq | rfl | hq
    · exact h1 q (by simp [hq])
    · exact ok
    · exact h1 q (by simp [hq])
  · simp only [List.mem_append, List.mem_cons] at hq
    rcases hq with hq | rfl | hq
    · exact (h1 q (by simp [hq])).keep (h2 q (by simp [hq])) k (hl q hq)
    · exact hp
    · exact (h1 q (by simp [hq])).keep (h2 q (by simp [hq])) k (hr q hq)
  · rw [List.pairwise_append, List.pairwise_cons]
    refine ⟨a1, ⟨fun q hq x hx hx' => ?_, a3⟩, fun q hq q' hq' => ?_⟩
    · rcases hf x hx with h | h
      · exact hr q hq x hx' h
      · have := lt q (by simp [hq]) x hx'; omega
    · rcases List.mem_cons.1 hq' with rfl | hq'
      · intro x hx hx'
        rcases hf x hx' with h | h
        · exact hl q hq x hx h
        · have := lt q (by simp [hq]) x hx; omega
      · exact a4 q hq q' (by simp [hq'])
theorem Sep.push {l : List HP} (h : Sep w l) (k : Chg None w w') {p' : HP} (ok : p'.Ok) (hp : p'.holds w') (hf : ∀ x, p'.foot x → w.heap.size ≤ x) : Sep w' (l ++ [p']) := by
  refine ⟨fun q hq => ?_, fun q hq => ?_, List.pairwise_append.2 ⟨h.apart, by simp, fun q hq q' hq' x hx hx' => ?_⟩⟩
  · rcases List.mem_append.1 hq with hq | hq
    · exact h.ok q hq
    · simp at hq; subst hq; exact ok
  · rcases List.mem_append.1 hq with hq | hq
    · exact (h.ok q hq).keep (h.holds q hq) k (fun _ _ h => h)
    · simp at hq; subst hq; exact hp
  · simp at hq'; subst hq'
    have := (h.ok q hq).lt (h.holds q hq) x hx
    have := hf x hx'
    omega
theorem Sep.chg {l : List HP} {D : Nat → Prop} (h : Sep w l) (k : Chg D w w') (hd : ∀ p ∈ l, ∀ x, p.foot x → ¬ D x) : Sep w' l := ⟨h.ok, fun q hq => (h.ok q hq).keep (h.holds q hq) k (hd q hq), h.apart⟩
theorem Sep.chg0 {l : List HP} (h : Sep w l) (k : Chg None w w') : Sep w' l := h.chg k fun _ _ _ _ h => h
theorem Sep.perm {l l' : List HP} (h : Sep w l) (hp : l.Perm l') : Sep w l' :=
  ⟨fun q hq => h.ok q (hp.mem_iff.2 hq), fun q hq => h.holds q (hp.mem_iff.2 hq), (hp.pairwise_iff fun {_ _} h k hq hp => h k hp hq).1 h.apart⟩
theorem Sep.sub {l l' : List HP} (h : Sep w l) (hs : l'.Sublist l) : Sep w l' :=
  ⟨fun q hq => h.ok q (hs.subset hq), fun q hq => h.holds q (hs.subset hq), h.apart.sublist hs⟩
end
end Go.Sh
namespace Go.Sh
open Go.ChangeShapes Go.Instr
variable {P : Program} {κ : Type}
section
variable [DecidableEq κ]

abbrev Ent (κ : Type) := κ × Value × Nat
def ent (enc : κ → Value) (x : Ent κ) : MapEntry := { key := enc x.1, val := x.2.1, born := x.2.2 }
def kv (x : Ent κ) : κ × Value := (x.1, x.2.1)
def fnd (a : κ) : List (Ent κ) → Nat → Option (Nat × Value)
  | [], _ => none
  | x :: l, i => if x.1 = a then some (i, x.2.1) else fnd a l (i + 1)
structure KeyT (P : Program) (kt : Nat) (enc : κ → Value) : Prop where
  check : ∀ (w : World) (a : κ) (e : Bool), (checkKey e 10000 kt (enc a)).run P w = .ok () w
  find : ∀ (w : World) (a : κ) (l : List (Ent κ)), (findKey kt (enc a) (l.map (ent enc))).run P w = .ok (fnd a l 0) w
  same : ∀ a, sameBits 10000 (enc a) (enc a) = true

def look {β : Type} (a : κ) : List (κ × β) → Option β
  | [] => none
  | x :: m => if x.1 = a then some x.2 else look a m
def put {β : Type} (a : κ) (v : β) : List (κ × β) → List (κ × β)
  | [] => [(a, v)]
  | x :: m => if x.1 = a then (a, v) :: m else x :: put a v m
def del {β : Type} (a : κ) : List (κ × β) → List (κ × β)
  | [] => []
  | x :: m => if x.1 = a then m else x :: del a m

structure Mp (w : World) (enc : κ → Value) (r : Nat) (l : List (Ent κ)) (clock : Nat) : Prop where
  heap : w.heap[r]? = some (.map (l.map (ent enc)).toArray clock)
  borns : (l.map (·.2.2)).Nodup
  young : ∀ x ∈ l, x.2.2 < clock
end
structure HMap (w : World) (enc : κ → Value) (r : Nat) (m : List (κ × Value)) : Prop where
  ex : ∃ l clock, Mp w enc r l clock ∧ l.map kv = m
  keys : (m.map (·.1)).Nodup
section
variable {w w' : World} {enc : κ → Value} {r : Nat} {m : List (κ × Value)}
theorem HMap.lt (h : HMap w enc r m) : r < w.heap.size := by
  obtain ⟨l, c, h, _⟩ := h.ex
  exact (Array.getElem?_eq_some_iff.1 h.heap).1
theorem HMap.chg {D : Nat → Prop} (h : HMap w enc r m) (k : Chg D w w') (hd : ¬ D r) : HMap w' enc r m := by
  have hlt := h.lt
  obtain ⟨l, c, ⟨h1, h2, h3⟩, h4⟩ := h.ex
  exact ⟨⟨l, c, ⟨by rw [k.block r hlt hd]; exact h1, h2, h3⟩, h4⟩, h.keys⟩
theorem HMap.chg0 (h : HMap w enc r m) (k : Chg None w w') : HMap w' enc r m := h.chg k fun h => h
theorem map_made (enc : κ → Value) : HMap (w.alloc (.map #[] 0)) enc w.heap.size ([] : List (κ × Value)) := ⟨⟨[], 0, ⟨by show (w.heap.push _)[w.heap.size]? = _; simp, .nil, by simp⟩, rfl⟩, .nil⟩
theorem run_getObj {w : World} {r : Nat} {es : Array MapEntry} {c : Nat} (h : w.heap[r]? = some (.map es c)) : (getObj r).run P w = .ok (.map es c) w := by
  simp only [getObj, Sem.run_bind, Sem.run, h]
variable [DecidableEq κ]

theorem fnd_look (a : κ) : ∀ (l : List (Ent κ)) (i : Nat), (fnd a l i).map (·.2) = look a (l.map kv)
  | [], _ => rfl
  | x :: l, i => by
    simp only [fnd, List.map_cons, look, kv]
    split
    · rfl
    · exact fnd_look a l (i + 1)
theorem fnd_some (a : κ) : ∀ (l : List (Ent κ)) (i j : Nat) (v : Value), fnd a l i = some (j, v) → ∃ l1 x l2, l = l1 ++ x :: l2 ∧ j = i + l1.length ∧ x.1 = a ∧ x.2.1 = v ∧ ∀ y ∈ l1, y.1 ≠ a
  | [], _, _, _, h => by cases h
  | x :: l, i, j, v, h => by
    simp only [fnd] at h
    split at h
    · rename_i hx
      cases h
      exact ⟨[], x, l, rfl, by simp, hx, rfl, by simp⟩
    · rename_i hx
      obtain ⟨l1, y, l2, rfl, rfl, h3, h4, h5⟩ := fnd_some a l (i + 1) j v h
      refine ⟨x :: l1, y, l2, rfl, by simp; omega, h3, h4, fun z hz => ?_⟩
      rcases List.mem_cons.1 hz with rfl | hz
      · exact hx
      · exact h5 z hz
theorem fnd_none (a : κ) : ∀ (l : List (Ent κ)) (i : Nat), fnd a l i = none → ∀ y ∈ l, y.1 ≠ a
  | [], _, _ => by simp
  | x :: l, i, h => by
    simp only [fnd] at h
    split at h
    · cases h
    · rename_i hx
      intro y hy
      rcases List.mem_cons.1 hy with rfl | hy
      · exact hx
      · exact fnd_none a l (i + 1) h y hy
theorem put_app {β : Type} {a : κ} {v : β} : ∀ {l1 : List (κ × β)} {x : κ × β} {l2 : List (κ × β)}, x.1 = a → (∀ y ∈ l1, y.1 ≠ a) → put a v (l1 ++ x :: l2) = l1 ++ (a, v) :: l2
  | [], x, l2, hx, _ => by simp [put, hx]
  | y :: l1, x, l2, hx, h => by
    simp only [List.cons_append, put]
    rw [if_neg (h y (by simp)), put_app hx fun z hz => h z (by simp [hz])]
theorem put_new {β : Type} {a : κ} {v : β} : ∀ {m : List (κ × β)}, (∀ y ∈ m, y.1 ≠ a) → put a v m = m ++ [(a, v)]
  | [], _ => rfl
  | y :: m, h => by
    simp only [put, List.cons_append]
    rw [if_neg (h y (by simp)), put_new fun z hz => h z (by simp [hz])]
theorem del_app {β : Type} {a : κ} : ∀ {l1 : List (κ × β)} {x : κ × β} {l2 : List (κ × β)}, x.1 = a → (∀ y ∈ l1, y.1 ≠ a) → del a (l1 ++ x :: l2) = l1 ++ l2
  | [], x, l2, hx, _ => by simp [del, hx]
  | y :: l1, x, l2, hx, h => by
    simp only [List.cons_append, del]
    rw [if_neg (h y (by simp)), del_app hx fun z hz => h z (by simp [hz])]
theorem del_none {β : Type} {a : κ} : ∀ {m : List (κ × β)}, (∀ y ∈ m, y.1 ≠ a) → del a m = m
  | [], _ => rfl
  | y :: m, h => by
    simp only [del]
    rw [if_neg (h y (by simp)), del_none fun z hz => h z (by simp [hz])]
theorem mem_put {β : Type} {a : κ} {v : β} : ∀ {m : List (κ × β)} {k : κ}, k ∈ (put a v m).map (·.1) ↔ k = a ∨ k ∈ m.map (·.1)
  | [], k => by simp [put]
  | x :: m, k => by
    simp only [put]
    split
    · rename_i hx
      simp only [List.map_cons, List.mem_cons, hx]
      constructor
      · rintro (h | h)
        · exact .inl h
        · exact .inr (.inr h)
      · rintro (h | h | h)
        · exact .inl h
        · exact .inl h
        · exact .inr h
    · have := mem_put (a := a) (v := v) (m := m) (k := k)
      simp only [List.map_cons, List.mem_cons, this]
      constructor
      · rintro (h | h | h)
        · exact .inr (.inl h)
        · exact .inl h
        · exact .inr (.inr h)
      · rintro (h | h | h)
        · exact .inr (.inl h)
        · exact .inl h
        · exact .inr (.inr h)
theorem put_nodup {β : Type} {a : κ} {v : β} : ∀ {m : List (κ × β)}, (m.map (·.1)).Nodup → ((put a v m).map (·.1)).Nodup
  | [], _ => by simp [put]
  | x :: m, h => by
    simp only [put]
    split
    · rename_i hx
      simpa [hx] using h
    · rename_i hx
      simp only [List.map_cons, List.nodup_cons] at h ⊢
      refine ⟨fun hm => ?_, put_nodup h.2⟩
      rcases mem_put.1 hm with e | e
      · exact hx e
      · exact h.1 e
theorem del_sub {β : Type} {a : κ} : ∀ {m : List (κ × β)}, (del a m).Sublist m
  | [] => List.Sublist.refl _
  | x :: m => by
    simp only [del]
    split
    · exact List.sublist_cons_self _ _
    · exact del_sub.cons_cons x
theorem del_nodup {β : Type} {a : κ} {m : List (κ × β)} (h : (m.map (·.1)).Nodup) : ((del a m).map (·.1)).Nodup := h.sublist (del_sub.map _)
theorem look_put {β : Type} {a b : κ} {v : β} : ∀ {m : List (κ × β)}, look b (put a v m) = if b = a then some v else look b m
  | [] => by
    simp only [put, look]
    by_cases h : b = a
    · subst h; simp
    · rw [if_neg (fun e => h e.symm), if_neg h]
  | x :: m => by
    simp only [put]
    split
    · rename_i hx
      simp only [look]
      by_cases h : b = a
      · subst h; simp
      · rw [if_neg (fun e => h e.symm), if_neg h, if_neg (fun e => h (e.symm.trans hx))]
    · rename_i hx
      simp only [look]
      rw [look_put]
      by_cases h : b = a
      · subst h; rw [if_neg hx, if_pos rfl, if_pos rfl]
      · rw [if_neg h, if_neg h]
theorem look_none {β : Type} {a : κ} : ∀ {m : List (κ × β)}, look a m = none ↔ a ∉ m.map (·.1)
  | [] => by simp [look]
  | x :: m => by
    simp only [look, List.map_cons, List.mem_cons, not_or]
    split
    · rename_i h; simp [h]
    · rename_i h
      rw [look_none]
      constructor
      · intro g; exact ⟨fun e => h e.symm, g⟩
      · intro g; exact g.2
theorem look_mem {β : Type} {a : κ} {v : β} : ∀ {m : List (κ × β)}, look a m = some v → (a, v) ∈ m
  | [], h => by cases h
  | x :: m, h => by
    simp only [look] at h
    split at h
    · rename_i hx; cases h; subst hx; simp
    · exact List.mem_cons_of_mem _ (look_mem h)
theorem mem_look {β : Type} {a : κ} {v : β} : ∀ {m : List (κ × β)}, (m.map (·.1)).Nodup → (a, v) ∈ m → look a m = some v
  | x :: m, hn, h => by
    simp only [List.map_cons, List.nodup_cons] at hn
    simp only [look]
    rcases List.mem_cons.1 h with rfl | h
    · rw [if_pos rfl]
    · rw [if_neg (fun e => hn.1 (by rw [e]; exact List.mem_map_of_mem (f := (·.1)) h))]
      exact mem_look hn.2 h
theorem look_del {β : Type} {a b : κ} : ∀ {m : List (κ × β)}, (m.map (·.1)).Nodup → look b (del a m) = if b = a then none else look b m
  | [], _ => by simp [del, look]
  | x :: m, hn => by
    simp only [List.map_cons, List.nodup_cons] at hn
    simp only [del]
    split
    · rename_i hx
      by_cases h : b = a
      · subst h; rw [if_pos rfl, look_none, ← hx]; exact hn.1
      · rw [if_neg h]; simp only [look]; rw [if_neg (fun e => h (e.symm.trans hx))]
    · rename_i hx
      simp only [look]
      rw [look_del hn.2]
      by_cases h : b = a
      · subst h; rw [if_neg hx, if_pos rfl, if_pos rfl]
      · rw [if_neg h, if_neg h]

theorem run_setObj {w : World} {r : Nat} {es : Array MapEntry} {c : Nat} {o : Obj} (h : w.heap[r]? = some (.map es c)) : (setObj r o).run P w = .ok () { w with heap := w.heap.setIfInBounds r o } := by
  simp only [setObj, Sem.run_bind, Sem.run, h]
theorem chg_set {w : World} {r : Nat} {o : Obj} : Chg (fun k => k = r) w { w with heap := w.heap.setIfInBounds r o } :=
  ⟨rfl, rfl, rfl, by simp, fun k _ hn => by show (w.heap.setIfInBounds r o)[k]? = _; rw [Array.getElem?_setIfInBounds, if_neg fun e : r = k => hn e.symm]⟩
theorem modify_mid {α : Type} (f : α → α) : ∀ (a : List α) (x : α) (b : List α), (a ++ x :: b).modify a.length f = a ++ f x :: b
  | [], x, b => rfl
  | y :: a, x, b => by simp only [List.cons_append, List.length_cons, List.modify_succ_cons, modify_mid f a x b]
theorem get_set {w : World} {r : Nat} {o : Obj} (h : r < w.heap.size) : ({ w with heap := w.heap.setIfInBounds r o } : World).heap[r]? = some o := by
  show (w.heap.setIfInBounds r o)[r]? = _
  rw [Array.getElem?_setIfInBounds]; simp [h]

theorem map_lookup {t kt et : Nat} {z : Value} (ht : P.underlying t = some (.map kt et)) (K1 : KeyT P kt enc) (hz : (P.info? et).bind (·.zero) = some z) (h : HMap w enc r m) (a : κ) {K : Value → Prop} (hK : K ((look a m).getD z)) : semR P (Instr.lookup t (.map (some r)) (enc a) false) w K := by
  obtain ⟨l, c, ⟨h1, _, _⟩, rfl⟩ := h.ex
  obtain ⟨i, hi, hz⟩ := Option.bind_eq_some_iff.1 hz
  have hzero : (zeroValue et).run P w = .ok z w := by simp [zeroValue, typeInfo, hi, hz, go_sem]
  unfold semR
  have hf := fnd_look a l 0
  cases hfd : fnd a l 0 with
  | none =>
    rw [hfd] at hf
    simp only [Option.map_none] at hf
    rw [← hf] at hK
    simp only [Instr.lookup, Sem.run_bind, run_underlying ht, Result.andThen_ok, run_getObj h1, K1.check, K1.find, hfd, hzero, Sem.run_pure]
    simpa using hK
  | some x =>
    rw [hfd] at hf
    simp only [Option.map_some] at hf
    rw [← hf] at hK
    simp only [Instr.lookup, Sem.run_bind, run_underlying ht, Result.andThen_ok, run_getObj h1, K1.check, K1.find, hfd, Sem.run_pure]
    simpa using hK
theorem map_lookup_ok {t kt et : Nat} {z : Value} (ht : P.underlying t = some (.map kt et)) (K1 : KeyT P kt enc) (hz : (P.info? et).bind (·.zero) = some z) (h : HMap w enc r m) (a : κ) {K : Value → Prop} (hK : K (.tuple #[(look a m).getD z, .bool (look a m).isSome])) : semR P (Instr.lookup t (.map (some r)) (enc a) true) w K := by
  obtain ⟨l, c, ⟨h1, _, _⟩, rfl⟩ := h.ex
  obtain ⟨i, hi, hz⟩ := Option.bind_eq_some_iff.1 hz
  have hzero : (zeroValue et).run P w = .ok z w := by simp [zeroValue, typeInfo, hi, hz, go_sem]
  unfold semR
  have hf := fnd_look a l 0
  cases hfd : fnd a l 0 with
  | none =>
    rw [hfd] at hf
    simp only [Option.map_none] at hf
    rw [← hf] at hK
    simp only [Instr.lookup, Sem.run_bind, run_underlying ht, Result.andThen_ok, run_getObj h1, K1.check, K1.find, hfd, hzero, Sem.run_pure]
    simpa using hK
  | some x =>
    rw [hfd] at hf
    simp only [Option.map_some] at hf
    rw [← hf] at hK
    simp only [Instr.lookup, Sem.run_bind, run_underlying ht, Result.andThen_ok, run_getObj h1, K1.check, K1.find, hfd, Sem.run_pure]
    simpa using hK
theorem map_update {t kt et : Nat} (ht : P.underlying t = some (.map kt et)) (K1 : KeyT P kt enc) (h : HMap w enc r m) (a : κ) (v : Value) {K : World → Prop} (hK : ∀ w', HMap w' enc r (put a v m) → Chg (fun k => k = r) w w' → K w') : semU P (Instr.mapUpdate t (.map (some r)) (enc a) v) w K := by
  have hlt := h.lt
  have hkeys := h.keys
  obtain ⟨l, c, ⟨h1, h2, h3⟩, rfl⟩ := h.ex
  unfold semU
  cases hfd : fnd a l 0 with
  | none =>
    have hno := fnd_none a l 0 hfd
    simp only [Instr.mapUpdate, Sem.run_bind, run_underlying ht, Result.andThen_ok, run_getObj h1, K1.check, K1.find, hfd, run_setObj h1]
    refine hK _ ⟨⟨l ++ [(a, v, c)], c + 1, ⟨?_, ?_, ?_⟩, ?_⟩, put_nodup hkeys⟩ chg_set
    · rw [get_set hlt]
      congr 2
      simp [ent]
    · rw [List.map_append, List.nodup_append]
      refine ⟨h2, by simp, fun x hx y hy => ?_⟩
      obtain ⟨z, hz, rfl⟩ := List.mem_map.1 hx
      simp only [List.map_cons, List.map_nil, List.mem_singleton] at hy
      have := h3 z hz
      omega
    · intro x hx
      rcases List.mem_append.1 hx with hx | hx
      · have := h3 x hx; omega
      · simp at hx; subst hx; simp
    · rw [put_new (by intro y hy; obtain ⟨z, hz, rfl⟩ := List.mem_map.1 hy; exact hno z hz)]
      simp [kv]
  | some x =>
    obtain ⟨j, v0⟩ := x
    obtain ⟨l1, x, l2, rfl, rfl, hx, rfl, hl1⟩ := fnd_some a l 0 j v0 hfd
    have hold : ((((l1 ++ x :: l2).map (ent enc)).toArray[0 + l1.length]?).map (·.key)).getD (enc a) = enc a := by
      simp [ent, hx]
    simp only [Instr.mapUpdate, Sem.run_bind, run_underlying ht, Result.andThen_ok, run_getObj h1, K1.check, K1.find, hfd, hold, keyThatStays, K1.same, if_true, Sem.run_pure, run_setObj h1]
    have hmod : (((l1 ++ x :: l2).map (ent enc)).toArray.modify (0 + l1.length) fun e => { e with key := enc a, val := v }) = ((l1 ++ (a, v, x.2.2) :: l2).map (ent enc)).toArray := by
      apply Array.ext'
      rw [Array.toList_modify]
      simp only [Nat.zero_add, List.map_append, List.map_cons]
      rw [show l1.length = (l1.map (ent enc)).length by simp, modify_mid]
      simp [ent]
    rw [hmod]
    refine hK _ ⟨⟨l1 ++ (a, v, x.2.2) :: l2, c, ⟨by rw [get_set hlt], ?_, ?_⟩, ?_⟩, put_nodup hkeys⟩ chg_set
    · simpa using h2
    · intro y hy
      simp only [List.mem_append, List.mem_cons] at hy
      rcases hy with hy | rfl | hy
      · exact h3 y (by simp [hy])
      · exact h3 x (by simp)
      · exact h3 y (by simp [hy])
    · rw [List.map_append, List.map_cons, List.map_append, List.map_cons, put_app (x := kv x) hx (by intro y hy; obtain ⟨z, hz, rfl⟩ := List.mem_map.1 hy; exact hl1 z hz)]
      rfl
theorem map_delete {t kt et ty : Nat} {k' : Nat} (ht : P.underlying t = some (.map kt et)) (K1 : KeyT P kt enc) (h : HMap w enc r m) (a : κ) {K : Value → World → Prop} (hK : ∀ w', HMap w' enc r (del a m) → Chg (fun k => k = r) w w' → K (.tuple #[]) w') : sem P (Builtin.delete_ #[t, k'] ty #[.map (some r), enc a]) w K := by
  have hlt := h.lt
  have hkeys := h.keys
  obtain ⟨l, c, ⟨h1, h2, h3⟩, rfl⟩ := h.ex
  unfold sem
  cases hfd : fnd a l 0 with
  | none =>
    have hno := fnd_none a l 0 hfd
    have e1 : (Builtin.delete_ #[t, k'] ty #[.map (some r), enc a]).run P w = .ok (.tuple #[]) { w with heap := w.heap.setIfInBounds r (.map (l.map (ent enc)).toArray c) } := by
      simp [Builtin.delete_, Sem.run_bind, run_underlying ht, run_getObj h1, K1.check, K1.find, hfd, run_setObj h1]
    rw [e1]
    refine hK _ ⟨⟨l, c, ⟨get_set hlt, h2, h3⟩, ?_⟩, del_nodup hkeys⟩ chg_set
    rw [del_none (by intro y hy; obtain ⟨z, hz, rfl⟩ := List.mem_map.1 hy; exact hno z hz)]
  | some x =>
    obtain ⟨j, v0⟩ := x
    obtain ⟨l1, x, l2, rfl, rfl, hx, rfl, hl1⟩ := fnd_some a l 0 j v0 hfd
    have hmod : (((l1 ++ x :: l2).map (ent enc)).toArray.eraseIdxIfInBounds (0 + l1.length)) = ((l1 ++ l2).map (ent enc)).toArray := by
      apply Array.ext'
      unfold Array.eraseIdxIfInBounds
      rw [dif_pos (by simp)]
      simp only [Array.toList_eraseIdx, Nat.zero_add, List.map_append, List.map_cons]
      rw [show l1.length = (l1.map (ent enc)).length by simp, List.eraseIdx_append_of_length_le (Nat.le_refl _)]
      simp
    have e1 : (Builtin.delete_ #[t, k'] ty #[.map (some r), enc a]).run P w = .ok (.tuple #[]) { w with heap := w.heap.setIfInBounds r (.map ((l1 ++ l2).map (ent enc)).toArray c) } := by
      have hfind := K1.find w a (l1 ++ x :: l2)
      rw [hfd] at hfind
      rw [← hmod]
      generalize (l1 ++ x :: l2).map (ent enc) = L at hfind h1
      simp [Builtin.delete_, Sem.run_bind, run_underlying ht, run_getObj h1, K1.check, hfind, run_setObj h1]
    rw [e1]
    refine hK _ ⟨⟨l1 ++ l2, c, ⟨get_set hlt, ?_, ?_⟩, ?_⟩, del_nodup hkeys⟩ chg_set
    · refine h2.sublist ?_
      simp
    · intro y hy
      exact h3 y (by simp only [List.mem_append, List.mem_cons] at hy ⊢; rcases hy with h | h; exact .inl h; exact .inr (.inr h))
    · rw [List.map_append, List.map_append, List.map_cons, del_app (x := kv x) hx (by intro y hy; obtain ⟨z, hz, rfl⟩ := List.mem_map.1 hy; exact hl1 z hz)]
end
end Go.Sh
set_option maxRecDepth 10000
namespace Go.Sh
open Go.Lib (decodeL isSpaceR)

def nb (l : List UInt8) (k : Nat) : Nat := (l.getD k 0).toNat
def ctB (l : List UInt8) (k : Nat) : Bool := decide (k < l.length) && nb l k / 64 == 2
def decN (l : List UInt8) : Nat × Nat :=
  if nb l 0 < 0x80 then (nb l 0, 1)
  else if nb l 0 / 32 == 6 && ctB l 1 then
    if (nb l 0 % 32) * 64 + nb l 1 % 64 ≥ 0x80 then ((nb l 0 % 32) * 64 + nb l 1 % 64, 2) else (0xFFFD, 1)
  else if nb l 0 / 16 == 14 && ctB l 1 && ctB l 2 then
    if (nb l 0 % 16) * 4096 + (nb l 1 % 64) * 64 + nb l 2 % 64 ≥ 0x800 && Utf8.valid ((nb l 0 % 16) * 4096 + (nb l 1 % 64) * 64 + nb l 2 % 64 : Nat) then ((nb l 0 % 16) * 4096 + (nb l 1 % 64) * 64 + nb l 2 % 64, 3) else (0xFFFD, 1)
  else if nb l 0 / 8 == 30 && ctB l 1 && ctB l 2 && ctB l 3 then
    if (nb l 0 % 8) * 262144 + (nb l 1 % 64) * 4096 + (nb l 2 % 64) * 64 + nb l 3 % 64 ≥ 0x10000 && Utf8.valid ((nb l 0 % 8) * 262144 + (nb l 1 % 64) * 4096 + (nb l 2 % 64) * 64 + nb l 3 % 64 : Nat) then ((nb l 0 % 8) * 262144 + (nb l 1 % 64) * 4096 + (nb l 2 % 64) * 64 + nb l 3 % 64, 4) else (0xFFFD, 1)
  else (0xFFFD, 1)
def goodL (l : List UInt8) : Bool := !decide ((decN l).1 = 0xFFFD ∧ (decN l).2 = 1) && !decide ((decN l).1 < 32 ∧ (decN l).1 ≠ 10 ∨ (decN l).1 = 127)
def plainF : Nat → List UInt8 → Bool
  | 0, l => l.isEmpty
  | _ + 1, [] => true
  | n + 1, l => goodL l && plainF n (l.drop (decN l).2)
def plain (l : List UInt8) : Bool := plainF l.length l
end Go.Sh
namespace Go.Sh
open Go.ChangeShapes
section
variable {w : World} {b : Nat} {t : TypeId}
theorem Blk.rd {l : List Value} (h : Blk w b t l) (j : Nat) {v : Value} (hv : l[j]? = some v) : w.cell? ((⟨b, 0, none⟩ : Addr).add j) = some v := by
  rw [Addr.add_lit, Nat.zero_add, h.cell]; exact hv
theorem opnI_c {k : IntKind} {o : Option Value} {n : Int} (h : o = some (.int k n)) {K : Int → Prop} (hK : K n) : opnI k o K := by subst h; exact ⟨rfl, hK⟩
theorem opnB_c {o : Option Value} {n : Bool} (h : o = some (.bool n)) {K : Bool → Prop} (hK : K n) : opnB o K := by subst h; exact hK
theorem opnS_c {o : Option Value} {n : ByteArray} (h : o = some (.string n)) {K : ByteArray → Prop} (hK : K n) : opnS o K := by subst h; exact hK
theorem opnL_c {o : Option Value} {a : Option Addr} {n c : Nat} (h : o = some (.slice a n c)) {K : Option Addr → Nat → Nat → Prop} (hK : K a n c) : opnL o K := by subst h; exact hK
theorem opnP_c {o : Option Value} {a : Option Addr} (h : o = some (.pointer a)) {K : Option Addr → Prop} (hK : K a) : opnP o K := by subst h; exact hK
theorem opnM_c {o : Option Value} {a : Option Nat} (h : o = some (.map a)) {K : Option Nat → Prop} (hK : K a) : opnM o K := by subst h; exact hK
theorem opnV_c {o : Option Value} {v : Value} (h : o = some v) {K : Value → Prop} (hK : K v) : opnV o K := by subst h; exact hK
theorem box_stL {K : World → Prop} : ∀ (vs done old : List Value) (w : World), Blk w b t (done ++ old) → vs.length = old.length → (∀ v ∈ vs, v.oneCell' = true) → (∀ w', Blk w' b t (done ++ vs) → Chg (fun k => k = b) w w' → K w') → stL ⟨b, 0, none⟩ done.length vs w K
  | [], done, old, w, h, hl, _, hK => by
    have : old = [] := List.eq_nil_of_length_eq_zero hl.symm
    subst this
    exact hK w h (Chg.refl _ _)
  | v :: vs, done, x :: old, w, h, hl, h1, hK => by
    show stC ((⟨b, 0, none⟩ : Addr).add done.length) v w fun w' => stL ⟨b, 0, none⟩ (done.length + 1) vs w' K
    rw [Addr.add_lit, Nat.zero_add]
    refine h.store (by simp) (h1 v (by simp)) fun h' k' => ?_
    rw [set_mid] at h'
    have := box_stL (K := K) vs (done ++ [v]) old _ (by simpa using h') (by simpa using hl) (fun u hu => h1 u (by simp [hu])) (fun w' hb k => hK w' (by simpa using hb) (Chg.trans k' k (fun _ _ h => h) (fun _ _ h => h)))
    simpa using this
  | _ :: _, _, [], _, _, hl, _, _ => by simp at hl
theorem box_all {K : World → Prop} {vs old : List Value} (h : Blk w b t old) (hl : vs.length = old.length) (h1 : ∀ v ∈ vs, v.oneCell' = true) (hK : ∀ w', Blk w' b t vs → Chg (fun k => k = b) w w' → K w') : stL ⟨b, 0, none⟩ 0 vs w K := box_stL vs [] old w h hl h1 hK
theorem box_set {l : List Value} (h : Blk w b t l) {j : Nat} (hj : j < l.length) {v : Value} (hv : v.oneCell' = true) {K : World → Prop} (hK : ∀ w', Blk w' b t (l.set j v) → Chg (fun k => k = b) w w' → K w') : stC ((⟨b, 0, none⟩ : Addr).add j) v w K := by
  rw [Addr.add_lit, Nat.zero_add]
  exact h.store hj hv fun h' k' => hK _ h' k'
theorem alC_box {cs : Array Value} {K : Addr → World → Prop} (hK : ∀ b w', Blk w' b t cs.toList → Chg None w w' → w.heap.size ≤ b → K ⟨b, 0, none⟩ w') : alC cs t w K := hK _ _ blk_alloc (chg_alloc w _) (Nat.le_refl _)
theorem box2 {old : List Value} {v0 v1 : Value} {K : World → Prop} (h : Blk w b t old) (hl : old.length = 2) (h1 : ([v0, v1] : List Value).all Value.oneCell' = true) (hK : ∀ w', Blk w' b t [v0, v1] → Chg (fun k => k = b) w w' → K w') : stC ((⟨b, 0, none⟩ : Addr).add 0) v0 w fun w1 => stC ((⟨b, 0, none⟩ : Addr).add 1) v1 w1 fun w2 => K w2 := box_all h (by rw [hl]; rfl) (List.all_eq_true.1 h1) hK
theorem box3 {old : List Value} {v0 v1 v2 : Value} {K : World → Prop} (h : Blk w b t old) (hl : old.length = 3) (h1 : ([v0, v1, v2] : List Value).all Value.oneCell' = true) (hK : ∀ w', Blk w' b t [v0, v1, v2] → Chg (fun k => k = b) w w' → K w') : stC ((⟨b, 0, none⟩ : Addr).add 0) v0 w fun w1 => stC ((⟨b, 0, none⟩ : Addr).add 1) v1 w1 fun w2 => stC ((⟨b, 0, none⟩ : Addr).add 2) v2 w2 fun w3 => K w3 := box_all h (by rw [hl]; rfl) (List.all_eq_true.1 h1) hK
theorem box4 {old : List Value} {v0 v1 v2 v3 : Value} {K : World → Prop} (h : Blk w b t old) (hl : old.length = 4) (h1 : ([v0, v1, v2, v3] : List Value).all Value.oneCell' = true) (hK : ∀ w', Blk w' b t [v0, v1, v2, v3] → Chg (fun k => k = b) w w' → K w') : stC ((⟨b, 0, none⟩ : Addr).add 0) v0 w fun w1 => stC ((⟨b, 0, none⟩ : Addr).add 1) v1 w1 fun w2 => stC ((⟨b, 0, none⟩ : Addr).add 2) v2 w2 fun w3 => stC ((⟨b, 0, none⟩ : Addr).add 3) v3 w3 fun w4 => K w4 := box_all h (by rw [hl]; rfl) (List.all_eq_true.1 h1) hK
theorem box5 {old : List Value} {v0 v1 v2 v3 v4 : Value} {K : World → Prop} (h : Blk w b t old) (hl : old.length = 5) (h1 : ([v0, v1, v2, v3, v4] : List Value).all Value.oneCell' = true) (hK : ∀ w', Blk w' b t [v0, v1, v2, v3, v4] → Chg (fun k => k = b) w w' → K w') : stC ((⟨b, 0, none⟩ : Addr).add 0) v0 w fun w1 => stC ((⟨b, 0, none⟩ : Addr).add 1) v1 w1 fun w2 => stC ((⟨b, 0, none⟩ : Addr).add 2) v2 w2 fun w3 => stC ((⟨b, 0, none⟩ : Addr).add 3) v3 w3 fun w4 => stC ((⟨b, 0, none⟩ : Addr).add 4) v4 w4 fun w5 => K w5 := box_all h (by rw [hl]; rfl) (List.all_eq_true.1 h1) hK
theorem mkbox2 {v0 v1 z0 z1 : Value} {K : Addr → World → Prop} (h1 : ([v0, v1] : List Value).all Value.oneCell' = true) (hK : ∀ b w', Blk w' b t [v0, v1] → Chg None w w' → w.heap.size ≤ b → K ⟨b, 0, none⟩ w') : alC #[z0, z1] t w fun p w0 => Array.size (#[v0, v1] : Array Value) = 2 ∧ stC (p.add 0) v0 w0 fun w1 => stC (p.add 1) v1 w1 fun w2 => K p w2 := by
  refine alC_box fun b w' hb k hlt => ⟨rfl, box2 hb rfl h1 fun w2 hb2 k2 => ?_⟩
  exact hK b w2 hb2 (Chg.fresh k k2 fun x hx => by rw [hx]; exact hlt) hlt
theorem mkbox3 {v0 v1 v2 z0 z1 z2 : Value} {K : Addr → World → Prop} (h1 : ([v0, v1, v2] : List Value).all Value.oneCell' = true) (hK : ∀ b w', Blk w' b t [v0, v1, v2] → Chg None w w' → w.heap.size ≤ b → K ⟨b, 0, none⟩ w') : alC #[z0, z1, z2] t w fun p w0 => Array.size (#[v0, v1, v2] : Array Value) = 3 ∧ stC (p.add 0) v0 w0 fun w1 => stC (p.add 1) v1 w1 fun w2 => stC (p.add 2) v2 w2 fun w3 => K p w3 := by
  refine alC_box fun b w' hb k hlt => ⟨rfl, box3 hb rfl h1 fun w2 hb2 k2 => ?_⟩
  exact hK b w2 hb2 (Chg.fresh k k2 fun x hx => by rw [hx]; exact hlt) hlt
theorem mkbox4 {v0 v1 v2 v3 z0 z1 z2 z3 : Value} {K : Addr → World → Prop} (h1 : ([v0, v1, v2, v3] : List Value).all Value.oneCell' = true) (hK : ∀ b w', Blk w' b t [v0, v1, v2, v3] → Chg None w w' → w.heap.size ≤ b → K ⟨b, 0, none⟩ w') : alC #[z0, z1, z2, z3] t w fun p w0 => Array.size (#[v0, v1, v2, v3] : Array Value) = 4 ∧ stC (p.add 0) v0 w0 fun w1 => stC (p.add 1) v1 w1 fun w2 => stC (p.add 2) v2 w2 fun w3 => stC (p.add 3) v3 w3 fun w4 => K p w4 := by
  refine alC_box fun b w' hb k hlt => ⟨rfl, box4 hb rfl h1 fun w2 hb2 k2 => ?_⟩
  exact hK b w2 hb2 (Chg.fresh k k2 fun x hx => by rw [hx]; exact hlt) hlt
theorem mkbox5 {v0 v1 v2 v3 v4 z0 z1 z2 z3 z4 : Value} {K : Addr → World → Prop} (h1 : ([v0, v1, v2, v3, v4] : List Value).all Value.oneCell' = true) (hK : ∀ b w', Blk w' b t [v0, v1, v2, v3, v4] → Chg None w w' → w.heap.size ≤ b → K ⟨b, 0, none⟩ w') : alC #[z0, z1, z2, z3, z4] t w fun p w0 => Array.size (#[v0, v1, v2, v3, v4] : Array Value) = 5 ∧ stC (p.add 0) v0 w0 fun w1 => stC (p.add 1) v1 w1 fun w2 => stC (p.add 2) v2 w2 fun w3 => stC (p.add 3) v3 w3 fun w4 => stC (p.add 4) v4 w4 fun w5 => K p w5 := by
  refine alC_box fun b w' hb k hlt => ⟨rfl, box5 hb rfl h1 fun w2 hb2 k2 => ?_⟩
  exact hK b w2 hb2 (Chg.fresh k k2 fun x hx => by rw [hx]; exact hlt) hlt
end
end Go.Sh
set_option maxRecDepth 10000
namespace Go.Sh
open Go.Lib (decodeL isSpaceR)
abbrev sb (l : List UInt8) : ByteArray := ⟨l.toArray⟩
theorem sb_list (l : List UInt8) : (sb l).data.toList = l := by simp [sb]
theorem bt_sb (l : List UInt8) (i : Nat) : bt (sb l) i = (nb l i : Int) := by
  unfold bt nb; rw [sb_list]
section
variable {P : Program} {w w' : World}
def StrIt (w : World) (l : List UInt8) (b pos : Nat) : Prop := w.heap[b]? = some (.stringIter (sb l) pos)
theorem StrIt.lt {l : List UInt8} {b pos : Nat} (h : StrIt w l b pos) : b < w.heap.size := (Array.getElem?_eq_some_iff.1 h).1
theorem StrIt.chg {l : List UInt8} {b pos : Nat} {D : Nat → Prop} (h : StrIt w l b pos) (k : Chg D w w') (hd : ¬ D b) : StrIt w' l b pos := by
  unfold StrIt; rw [k.block b h.lt hd]; exact h
end
end Go.Sh
set_option maxRecDepth 10000
namespace Go.Proofs.YtcigjlbpdkkflaaGreatDoor
open Go.Sh
abbrev Str := List UInt8
structure WrM where
  num : Nat
  at_ : Nat
  data : List UInt8
structure FileM where
  now : List UInt8
  lasts : List UInt8
  loose : List WrM
inductive ActM where
  | create (n : Str) (f : Nat)
  | rename (a b : Str)
  | remove (n : Str)
abbrev Names := List (Str × Nat)
structure DiskM where
  room : Int
  names : Names
  lasting : Names
  loose : List ActM
  writes : Nat
  acts : Nat
  strike : Nat
  fault : Int
  dead : Bool
  file : Nat → FileM
def ActM.on : ActM → Names → Names
  | .create n f, m => Go.Sh.put n f m
  | .rename a b, m => match Go.Sh.look a m with
    | some f => Go.Sh.put b f (Go.Sh.del a m)
    | none => m
  | .remove n, m => Go.Sh.del n m
def laidB (b : List UInt8) (at_ : Nat) (data : List UInt8) : List UInt8 :=
  if data = [] then b
  else ((b ++ List.replicate (at_ + data.length - b.length) 0).take at_) ++ data ++ ((b ++ List.replicate (at_ + data.length - b.length) 0).drop (at_ + data.length))
theorem laidB_len (b : List UInt8) (at_ : Nat) {data : List UInt8} (h : data ≠ []) : (laidB b at_ data).length = max b.length (at_ + data.length) := by
  unfold laidB
  rw [if_neg h]
  simp only [List.length_append, List.length_take, List.length_drop, List.length_replicate]
  omega
def usedM (M : DiskM) : Nat := (M.names.map fun x => (M.file x.2).now.length).sum
def bump (M : DiskM) : DiskM := { M with acts := M.acts + 1, strike := M.strike - 1 }
def actR (M : DiskM) (e : Int) (P : DiskM → Prop) (M' : DiskM) (r : Int) : Prop :=
  (M.dead = true ∧ M' = M ∧ r = 125) ∨
  (M.dead = false ∧ e ≠ 0 ∧ M' = bump M ∧ r = e) ∨
  (M.dead = false ∧ e = 0 ∧ M.strike = 1 ∧ M.fault ≠ 125 ∧ M' = bump M ∧ r = M.fault) ∨
  (M.dead = false ∧ e = 0 ∧ ¬ (M.strike = 1 ∧ M.fault ≠ 125) ∧ ∃ M2, P M2 ∧ M' = (if M.strike = 1 then { M2 with dead := true } else M2) ∧ r = if M.strike = 1 then 125 else 0)
def setFile (M : DiskM) (f : Nat) (F : FileM) : Nat → FileM := fun k => if k = f then F else M.file k
def ActM.files : ActM → List Nat
  | .create _ f => [f]
  | _ => []
def createM (M : DiskM) (n : Str) (f : Nat) : DiskM := { M with names := Go.Sh.put n f M.names, loose := M.loose ++ [.create n f], file := setFile M f ⟨[], [], []⟩ }
def writeM (M : DiskM) (n : Str) (at_ : Nat) (data : List UInt8) : DiskM :=
  if data = [] then M
  else match Go.Sh.look n M.names with
    | some f => { M with file := setFile M f ⟨laidB (M.file f).now at_ data, (M.file f).lasts, (M.file f).loose ++ [⟨M.writes, at_, data⟩]⟩, writes := M.writes + 1 }
    | none => M
def syncM (M : DiskM) (n : Str) : DiskM :=
  match Go.Sh.look n M.names with
  | some f => { M with file := setFile M f ⟨(M.file f).now, (M.file f).now, []⟩ }
  | none => M
def pieceOk (p : List UInt8) : Bool := !(p == []) && !(p == [46]) && !(p == [46, 46])
def pieces : List UInt8 → List (List UInt8)
  | [] => [[]]
  | c :: r => if c = 47 then [] :: pieces r else match pieces r with
    | p :: ps => (c :: p) :: ps
    | [] => [[c]]
def nameOk (s : Str) : Bool := decide (1 ≤ s.length ∧ s.length ≤ 255) && s.all (fun c => decide (33 ≤ c.toNat ∧ c.toNat ≤ 126)) && (pieces s).all pieceOk
def thereE (M : DiskM) (s : Str) : Int := if nameOk s = true then (match Go.Sh.look s M.names with | some _ => 0 | none => 121) else 120
end Go.Proofs.YtcigjlbpdkkflaaGreatDoor
namespace Go.Sh
open Go.ChangeShapes
variable {P : Program}

inductive EqF (P : Program) (xs ys : Array Value) : List (Nat × Nat) → Bool → Prop
  | nil : EqF P xs ys [] true
  | int {t o : Nat} {k k' : IntKind} {a b : Int} {r : List (Nat × Nat)} {q : Bool} : P.underlying t = some (.int k') → xs[o]? = some (.int k a) → ys[o]? = some (.int k b) → EqF P xs ys r q → EqF P xs ys ((t, o) :: r) ((a == b) && q)
  | bool {t o : Nat} {a b : Bool} {r : List (Nat × Nat)} {q : Bool} : P.underlying t = some .bool → xs[o]? = some (.bool a) → ys[o]? = some (.bool b) → EqF P xs ys r q → EqF P xs ys ((t, o) :: r) ((a == b) && q)
  | str {t o : Nat} {a b : ByteArray} {r : List (Nat × Nat)} {q : Bool} : P.underlying t = some .string → xs[o]? = some (.string a) → ys[o]? = some (.string b) → EqF P xs ys r q → EqF P xs ys ((t, o) :: r) ((a.toList == b.toList) && q)
theorem eqF_run (w : World) (d : Nat) {xs ys : Array Value} : ∀ {fs : List Field} {tb : List (Nat × Nat)} {q : Bool}, fs.map (fun f => (f.name != "_", f.type, f.offset)) = tb.map (fun x => (true, x.1, x.2)) → EqF P xs ys tb q → (Op.eqFields (d + 1) xs ys fs).run P w = .ok q w
  | [], _, _, h, .nil => by simp [Op.eqFields]
  | f :: fs, (t, o) :: tb, _, h, e => by
    simp only [List.map_cons, List.cons.injEq, Prod.mk.injEq, bne_iff_ne] at h
    obtain ⟨⟨hn, rfl, rfl⟩, h⟩ := h
    have pk : ∀ {k}, P.underlying f.type = some (.int k) → P.plainKey f.type = true := fun hu => by unfold Program.plainKey; rw [hu]
    have pb : P.underlying f.type = some .bool → P.plainKey f.type = true := fun hu => by unfold Program.plainKey; rw [hu]
    have ps : P.underlying f.type = some .string → P.plainKey f.type = true := fun hu => by unfold Program.plainKey; rw [hu]
    cases e with
    | @int _ _ k k' a b _ q hu hx hy e =>
      have ih := eqF_run w d h e
      simp only [Op.eqFields, hn, ne_eq, not_false_eq_true, if_true, Sem.run_bind, run_part_plain w (pk hu) hx, run_part_plain w (pk hu) hy, run_equalIn_int w d _ _ _ _ _ hu, Result.andThen_ok]
      cases h1 : (a == b) <;> simp [ih]
    | @bool _ _ a b _ q hu hx hy e =>
      have ih := eqF_run w d h e
      simp only [Op.eqFields, hn, ne_eq, not_false_eq_true, if_true, Sem.run_bind, run_part_plain w (pb hu) hx, run_part_plain w (pb hu) hy, run_equalIn_bool' w d _ _ _ hu, Result.andThen_ok]
      cases h1 : (a == b) <;> simp [ih]
    | @str _ _ a b _ q hu hx hy e =>
      have ih := eqF_run w d h e
      simp only [Op.eqFields, hn, ne_eq, not_false_eq_true, if_true, Sem.run_bind, run_part_plain w (ps hu) hx, run_part_plain w (ps hu) hy, run_equalIn_string w d _ _ _ hu, Result.andThen_ok]
      cases h1 : (a.toList == b.toList) <;> simp [ih]
  | [], _ :: _, _, h, _ => by simp at h
  | _ :: _, [], _, h, _ => by simp at h
structure EqT (P : Program) (t : Nat) (tb : List (Nat × Nat)) : Prop where
  guard : P.eqGuardType P.depth t = false
  under : P.underlying t = some (.struct (P.fieldsOf t))
  held : P.stoodInHeld t = false
  tab : (P.fieldsOf t).toList.map (fun f => (f.name != "_", f.type, f.offset)) = tb.map (fun x => (true, x.1, x.2))
theorem struct_neq {t : Nat} {tb : List (Nat × Nat)} (T : EqT P t tb) {x y : Operand} {xs ys : Array Value} {q : Bool} (e : EqF P xs ys tb q) {w : World} {K : Value → Prop} (hK : K (.bool (!q))) : semR P (do eqGuard .neq t x y (.agg xs) (.agg ys); binOp .neq t (.agg xs) (.agg ys)) w K := by
  unfold semR
  have := eqF_run w 9998 T.tab e
  simp only [Sem.run_bind, run_eqGuard_agg w .neq t x y xs ys T.guard, Result.andThen_ok, run_neq_struct, run_equalIn_struct w 9999 t xs ys T.under T.held, this]
  exact ⟨trivial, hK⟩

theorem make_empty {t e sz by_ : Nat} (T : SlT P t e sz by_) {w : World} {c : Nat} (hb : by_ * c ≤ 281474976710656) (h63 : c ≤ 9223372036854775807) {K : Value → World → Prop}
    (hK : ∀ b w', Own w' e sz (some ⟨b, 0, .none⟩) 0 c [] → Chg None w w' → w.heap.size ≤ b → K (.slice (some ⟨b, 0, .none⟩) 0 c) w') : sem P (Instr.makeSlice t (.int .i64 0) (.int .i64 (c : Int))) w K := by
  obtain ⟨i, z, hi, hz, rfl, rfl, hzs⟩ := T.get
  have hb' : (i.bytes : Int) * (c : Int) ≤ 281474976710656 := by
    have h : ((i.bytes * c : Nat) : Int) ≤ 281474976710656 := by omega
    rwa [Int.natCast_mul] at h
  unfold sem
  rw [run_make (P := P) w t e i z T.ht hi hz .i64 .i64 0 c (by omega) (by omega) hb' (by omega)]
  simp only [Int.toNat_natCast]
  refine hK _ _ ⟨by simp, .inr ⟨w.heap.size, (madeCells z.cells (c * i.size)).toList, rfl, ?_, by simp [size_madeCells], Nat.zero_le _⟩⟩ (chg_alloc w _) (Nat.le_refl _)
  simpa using blk_alloc (w := w) (t := e) (cs := madeCells z.cells (c * i.size))

theorem flat_get {α : Type} (enc : α → List Value) (sz : Nat) (hs : ∀ x, (enc x).length = sz) : ∀ (l : List α) (i j : Nat) (x : α), l[i]? = some x → j < sz → (l.flatMap enc)[i * sz + j]? = (enc x)[j]?
  | [], i, _, _, h, _ => by simp at h
  | y :: l, 0, j, x, h, hj => by
    simp only [List.getElem?_cons_zero, Option.some.injEq] at h; subst h
    rw [List.flatMap_cons, Nat.zero_mul, Nat.zero_add, List.getElem?_append_left (by rw [hs]; exact hj)]
  | y :: l, i + 1, j, x, h, hj => by
    simp only [List.getElem?_cons_succ] at h
    rw [List.flatMap_cons, List.getElem?_append_right (by rw [hs, Nat.add_mul]; omega), hs, show (i + 1) * sz + j - sz = i * sz + j by rw [Nat.add_mul]; omega]
    exact flat_get enc sz hs l i j x h hj
theorem flat_len {α : Type} (enc : α → List Value) (sz : Nat) (hs : ∀ x, (enc x).length = sz) (l : List α) : (l.flatMap enc).length = l.length * sz := by
  induction l with
  | nil => simp
  | cons x l ih => rw [List.flatMap_cons, List.length_append, ih, hs, List.length_cons, Nat.add_mul]; omega
theorem rd_fld {α : Type} {enc : α → List Value} {sz : Nat} (hs : ∀ x, (enc x).length = sz) {w : World} {S : Nat → Prop} {p : Addr} {l : List α} (h : Lies w S (some p) (l.flatMap enc)) {i : Int} {x : α} (hx : l[i.toNat]? = some x) {j : Nat} {v : Value} (hv : (enc x)[j]? = some v) : w.cell? ((p.add (Int.toNat i * sz)).add j) = some v := by
  have hj : j < sz := by have := (List.getElem?_eq_some_iff.1 hv).1; rwa [hs] at this
  obtain ⟨q, hq, _, hc⟩ := h (i.toNat * sz + j) v (by rw [flat_get enc sz hs l _ j x hx hj]; exact hv)
  cases hq
  rw [add_add']; exact hc
theorem lies_flat_some {α : Type} {enc : α → List Value} {sz : Nat} (hs : ∀ x, (enc x).length = sz) (h0 : 0 < sz) {w : World} {S : Nat → Prop} {a : Option Addr} {l : List α} (h : Lies w S a (l.flatMap enc)) {i : Nat} (hi : i < l.length) : ∃ p, a = some p := by
  refine h.some (j := i * sz) ?_
  rw [flat_len enc sz hs]
  exact Nat.mul_lt_mul_of_pos_right hi h0
end Go.Sh
namespace Go.Sh
open Go.ChangeShapes
variable {P : Program}
def LL (w : World) (S : Nat → Prop) (a : Option Addr) (ls : List (Nat × List Value)) : Prop :=
  ∀ (j : Nat) (x : Nat × List Value), ls[j]? = some x → ∃ p q c, a = some p ∧ S p.block ∧ w.cell? (p.add j) = some (.slice q x.1 c) ∧ x.1 ≤ c ∧ Lies w S q x.2
theorem LL.chg {w w' : World} {S D : Nat → Prop} {a : Option Addr} {ls : List (Nat × List Value)} (h : LL w S a ls) (k : Chg D w w') (hd : ∀ x, x < w.heap.size → S x → ¬ D x) : LL w' S a ls := fun j r hj => by
  obtain ⟨p, q, c, h1, h2, h3, h4, h5⟩ := h j r hj
  refine ⟨p, q, c, h1, h2, ?_, h4, h5.chg k hd⟩
  have hb := World.block_lt_of_cell? _ _ h3
  rw [block_add] at hb
  rw [World.cell?_of_block (w := w) (by rw [block_add]; exact k.block _ hb (hd _ hb h2))]
  exact h3
theorem LL.chg0 {w w' : World} {S : Nat → Prop} {a : Option Addr} {ls : List (Nat × List Value)} (h : LL w S a ls) (k : Chg None w w') : LL w' S a ls := h.chg k fun _ _ _ h => h
theorem push_struct {t e sz by_ : Nat} (T : SlT P t e sz by_) {w0 w : World} {a : Option Addr} {n c : Nat} {l : List Value} (h : Own w e sz a n c l) (f : ∀ k, At a k → w0.heap.size ≤ k) (k0 : Chg None w0 w) {cs : Array Value} (hcs : cs.size = sz) (h1 : cs.toList.all Value.oneCell' = true) (hn : (n + 1) * by_ ≤ 140737488355328) (hn2 : n < 140737488355328) {K : Option Addr → Nat → Nat → World → Prop}
    (hK : ∀ a' c' w', Own w' e sz a' (n + 1) c' (l ++ cs.toList) → (∀ k, At a' k → w0.heap.size ≤ k) → Chg None w0 w' → K a' (n + 1) c' w') :
    alC cs e w fun p w5 => sem P (Builtin.append_ #[t, t] t #[.slice a n c, .slice (some p) 1 1]) w5 fun v6 w7 => opnL (some v6) fun x xn xc => K x xn xc w7 := by
  unfold alC
  have ka : Chg None w (w.alloc (.cells cs e)) := chg_alloc w _
  have hsrc : Src P sz t (.slice (some ⟨w.heap.size, 0, none⟩) 1 1) 1 cs.toList (w.alloc (.cells cs e)) := src_two (vs := cs.toList) (t := e) (w := w) T.ht (by simpa using hcs) (fun u hu => List.all_eq_true.1 h1 u hu)
  refine append_own T (w := w.alloc (.cells cs e)) (h.chg0 ka) hsrc (by simp only [maxLen]; omega) hn fun a' c' w2 o2 k2 f2 => ?_
  refine hK a' c' w2 o2 ?_ (Chg.fresh (k0.none_trans ka) k2 f)
  rcases f2 with rfl | ⟨b, rfl, hb⟩
  · exact f
  · rintro k ⟨p, hp, rfl⟩; cases hp; exact Nat.le_trans (k0.none_trans ka).size hb
end Go.Sh
namespace Go.Sh
open Go.ChangeShapes
variable {P : Program}
section
theorem opnA_e {a : Addr} {K : Addr → Prop} : opnA (some a) K = K a := rfl
theorem opnG5 {x0 x1 x2 x3 : Int} {x4 : Bool} {K : Int → Int → Int → Int → Bool → Prop} (h : K x0 x1 x2 x3 x4) : opnG (some (.agg #[.int .i64 x0, .int .i64 x1, .int .i64 x2, .int .i64 x3, .bool x4])) fun y => y.size = 5 ∧ opnI .i64 (y[0]?) fun a => opnI .i64 (y[1]?) fun b => opnI .i64 (y[2]?) fun c => opnI .i64 (y[3]?) fun d => opnB (y[4]?) fun e => K a b c d e :=
  ⟨rfl, ⟨rfl, ⟨rfl, ⟨rfl, ⟨rfl, h⟩⟩⟩⟩⟩
end
section
variable {w w' : World} {b t : Nat} {x0 x1 x2 x3 : Int} {x4 : Bool}
abbrev box5v (x0 x1 x2 x3 : Int) (x4 : Bool) : List Value := [.int .i64 x0, .int .i64 x1, .int .i64 x2, .int .i64 x3, .bool x4]
theorem ld5 (h : Blk w b t (box5v x0 x1 x2 x3 x4)) {K : Int → Int → Int → Int → Bool → Prop} (hK : K x0 x1 x2 x3 x4) : opnI .i64 (w.cell? ((⟨b, 0, none⟩ : Addr).add 0)) fun a => opnI .i64 (w.cell? ((⟨b, 0, none⟩ : Addr).add 1)) fun b' => opnI .i64 (w.cell? ((⟨b, 0, none⟩ : Addr).add 2)) fun c => opnI .i64 (w.cell? ((⟨b, 0, none⟩ : Addr).add 3)) fun d => opnB (w.cell? ((⟨b, 0, none⟩ : Addr).add 4)) fun e => K a b' c d e :=
  opnI_c (h.rd 0 rfl) (opnI_c (h.rd 1 rfl) (opnI_c (h.rd 2 rfl) (opnI_c (h.rd 3 rfl) (opnB_c (h.rd 4 rfl) hK))))
theorem st5 {o0 o1 o2 o3 o4 : Value} (h : Blk w b t [o0, o1, o2, o3, o4]) {K : World → Prop} (hK : ∀ w', Blk w' b t (box5v x0 x1 x2 x3 x4) → Chg (fun k => k = b) w w' → K w') : Array.size (#[.int .i64 x0, .int .i64 x1, .int .i64 x2, .int .i64 x3, .bool x4] : Array Value) = 5 ∧ stC ((⟨b, 0, none⟩ : Addr).add 0) (.int .i64 x0) w fun w1 => stC ((⟨b, 0, none⟩ : Addr).add 1) (.int .i64 x1) w1 fun w2 => stC ((⟨b, 0, none⟩ : Addr).add 2) (.int .i64 x2) w2 fun w3 => stC ((⟨b, 0, none⟩ : Addr).add 3) (.int .i64 x3) w3 fun w4 => stC ((⟨b, 0, none⟩ : Addr).add 4) (.bool x4) w4 fun w5 => K w5 :=
  ⟨rfl, box5 h rfl rfl fun w2 hb2 k2 => hK w2 hb2 k2⟩
theorem mk5 {z0 z1 z2 z3 z4 : Value} {K : Addr → World → Prop} (hK : ∀ b w', Blk w' b t (box5v x0 x1 x2 x3 x4) → Chg None w w' → w.heap.size ≤ b → K ⟨b, 0, none⟩ w') : alC #[z0, z1, z2, z3, z4] t w fun p w0 => Array.size (#[.int .i64 x0, .int .i64 x1, .int .i64 x2, .int .i64 x3, .bool x4] : Array Value) = 5 ∧ stC (p.add 0) (.int .i64 x0) w0 fun w1 => stC (p.add 1) (.int .i64 x1) w1 fun w2 => stC (p.add 2) (.int .i64 x2) w2 fun w3 => stC (p.add 3) (.int .i64 x3) w3 fun w4 => stC (p.add 4) (.bool x4) w4 fun w5 => K p w5 :=
  mkbox5 rfl hK
end
abbrev strv (l : List UInt8) : Value := .string ⟨l.toArray⟩
theorem rd_str {w : World} {e n c : Nat} {a : Option Addr} {ls : List (List UInt8)} (h : Own w e 1 a n c (ls.map strv)) {i : Int} {l : List UInt8} (hl : ls[i.toNat]? = some l) {K : ByteArray → Prop} (hK : K ⟨l.toArray⟩) : opnA a fun ad => opnS (w.cell? (ad.add (Int.toNat i * 1))) K := by
  obtain ⟨p, rfl, hc⟩ := h.cell (j := i.toNat) (v := strv l) (by rw [List.getElem?_map, hl]; rfl)
  rw [opnA_e, Nat.mul_one, hc]
  exact hK
end Go.Sh
namespace Go.Sh
open Go.ChangeShapes
variable {P : Program}
section
variable {w w' : World} {b t : Nat}
theorem add_zero (a : Addr) : a.add 0 = a := by cases a; simp [Addr.add]
theorem add_at (b o i : Nat) : (⟨b, o, none⟩ : Addr).add i = ⟨b, o + i, none⟩ := Addr.add_lit ..
theorem alZ_box {cs : Array Value} (hz : ((P.info? t).bind (·.zero)).map (·.cells) = some cs) {K : Addr → World → Prop} (hK : ∀ b w', Blk w' b t cs.toList → Chg None w w' → w.heap.size ≤ b → K ⟨b, 0, none⟩ w') : alZ P t w K := by
  unfold alZ
  obtain ⟨z, h1, h2⟩ := Option.map_eq_some_iff.1 hz
  rw [h1]
  show K ⟨w.heap.size, 0, none⟩ (w.alloc (.cells z.cells t))
  rw [h2]
  exact hK _ _ blk_alloc (chg_alloc w _) (Nat.le_refl _)
theorem rowFrom_of {a : Addr} : ∀ (l : List Value) (i : Nat), (∀ j v, l[j]? = some v → w.cell? (a.add (i + j)) = some v) → rowFrom w a i l.length = some l
  | [], _, _ => rfl
  | v :: l, i, h => by
    rw [List.length_cons, rowFrom]
    have h0 := h 0 v rfl
    rw [Nat.add_zero] at h0
    rw [h0, rowFrom_of l (i + 1) fun j u hu => by
      have := h (j + 1) u (by simpa using hu)
      rwa [show i + (j + 1) = i + 1 + j by omega] at this]
theorem row_c {a : Addr} {l : List Value} {n : Nat} (hn : l.length = n) (h : ∀ j v, l[j]? = some v → w.cell? (a.add j) = some v) {K : Array Value → Prop} (hK : K l.toArray) : opnRow w a n K := by
  subst hn
  unfold opnRow
  rw [rowFrom_of l 0 fun j v hv => by rw [Nat.zero_add]; exact h j v hv]
  exact hK
theorem Blk.row {pre l post : List Value} (h : Blk w b t (pre ++ l ++ post)) {o n : Nat} (ho : pre.length = o) (hn : l.length = n) {K : Array Value → Prop} (hK : K l.toArray) : opnRow w ⟨b, o, none⟩ n K :=
  row_c hn (fun j v hv => by
    rw [add_at, h.cell, ← ho, List.append_assoc, List.getElem?_append_right (by omega), Nat.add_sub_cancel_left, List.getElem?_append_left (List.getElem?_eq_some_iff.1 hv).1]
    exact hv) hK
theorem built_c {t : Nat} {parts : Array (Nat × Value)} {cells : Array Value} (h : P.built t parts.toList = some cells) {K : Value → Prop} (hK : K (.agg cells)) : semP P (Instr.build t parts) K := by
  unfold semP
  rw [run_build (P := P) default t parts cells h]
  exact hK
end
theorem ptr_nil_eql {t : Nat} {x y : Operand} (h : P.underlying t = some (.pointer (P.pointee t))) {p : Option Addr} {w : World} {K : Value → Prop} : semR P (do eqGuard .eql t x y (.pointer p) (.pointer none); binOp .eql t (.pointer p) (.pointer none)) w K = K (.bool p.isNone) := by
  unfold semR
  simp [eqGuard, run_eql_pointer_nil w t p h]
theorem ptr_nil_neq {t : Nat} {x y : Operand} (h : P.underlying t = some (.pointer (P.pointee t))) {p : Option Addr} {w : World} {K : Value → Prop} : semR P (do eqGuard .neq t x y (.pointer p) (.pointer none); binOp .neq t (.pointer p) (.pointer none)) w K = K (.bool (!p.isNone)) := by
  unfold semR
  simp [eqGuard, run_neq_pointer_nil w t p h]

end Go.Sh
namespace Go.Sh
open Go.ChangeShapes Go.Instr
variable {P : Program} {κ : Type}

structure Itr (w : World) (enc : κ → Value) (it r : Nat) (m rest : List (κ × Value)) (cur : Option (κ × Value)) : Prop where
  ex : ∃ l clock seen, Mp w enc r l clock ∧ l.map kv = m ∧ w.heap[it]? = some (.mapIter (some r) clock seen clock) ∧ (l.filter fun x => !seen.contains x.2.2).map kv = rest ∧ ∀ c, cur = some c → ∃ x ∈ l, kv x = c ∧ seen.back? = some x.2.2
section
variable {w w' : World} {enc : κ → Value} {it r : Nat} {m rest : List (κ × Value)} {cur : Option (κ × Value)}
theorem Itr.chg {D : Nat → Prop} (h : Itr w enc it r m rest cur) (k : Chg D w w') (h1 : ¬ D r) (h2 : ¬ D it) : Itr w' enc it r m rest cur := by
  obtain ⟨l, c, s, ⟨g1, g2, g3⟩, g4, g5, g6, g7⟩ := h.ex
  exact ⟨l, c, s, ⟨by rw [k.block r (Array.getElem?_eq_some_iff.1 g1).1 h1]; exact g1, g2, g3⟩, g4, by rw [k.block it (Array.getElem?_eq_some_iff.1 g5).1 h2]; exact g5, g6, g7⟩
theorem Itr.ne (h : Itr w enc it r m rest cur) : it ≠ r := by
  obtain ⟨l, c, s, ⟨g1, _, _⟩, _, g5, _⟩ := h.ex
  rintro rfl
  rw [g1] at g5; cases g5
theorem Itr.lt (h : Itr w enc it r m rest cur) : it < w.heap.size ∧ r < w.heap.size := by
  obtain ⟨l, c, s, ⟨g1, _, _⟩, _, g5, _⟩ := h.ex
  exact ⟨(Array.getElem?_eq_some_iff.1 g5).1, (Array.getElem?_eq_some_iff.1 g1).1⟩
theorem map_range {t kt et : Nat} (ht : P.underlying t = some (.map kt et)) (h : HMap w enc r m) {K : Value → World → Prop} (hK : ∀ it w', Itr w' enc it r m m none → Chg None w w' → w.heap.size ≤ it → K (.pointer (some ⟨it, 0, none⟩)) w') : sem P (Instr.range t (.map (some r))) w K := by
  have hlt := h.lt
  obtain ⟨l, c, ⟨h1, h2, h3⟩, rfl⟩ := h.ex
  unfold sem
  rw [run_range_map w t kt et r _ c ht h1]
  refine hK _ _ ⟨l, c, #[], ⟨by rw [heap_alloc_old w _ hlt]; exact h1, h2, h3⟩, rfl, heap_alloc_new w _, by rw [List.filter_eq_self.2 (by simp)], by intro c hc; cases hc⟩ (chg_alloc w _) (Nat.le_refl _)
theorem run_choose (n : Nat) (w : World) (h : 0 < n) : ∃ j w1, j < n ∧ (w1 = w ∨ w1 = w.drew) ∧ (choose (Question.mapNext n)).run P w = .ok j w1 := by
  by_cases hf : n ≤ 1
  · exact ⟨0, w, h, .inl rfl, by simp [choose, Sem.run, Question.forced, hf]⟩
  · exact ⟨_, w.drew, Nat.mod_lt _ h, .inr rfl, by
      simp only [choose, Sem.run, Question.forced, decide_eq_true_eq, hf, if_false, Question.cut]
      rfl⟩
theorem run_getObj_it {w : World} {r : Nat} {a : Option Nat} {b d : Nat} {s : Array Nat} (h : w.heap[r]? = some (.mapIter a b s d)) : (getObj r).run P w = .ok (.mapIter a b s d) w := by
  simp only [getObj, Sem.run_bind, Sem.run, h]
theorem run_setObj_it {w : World} {r : Nat} {a : Option Nat} {b d : Nat} {s : Array Nat} {o : Obj} (h : w.heap[r]? = some (.mapIter a b s d)) : (setObj r o).run P w = .ok () { w with heap := w.heap.setIfInBounds r o } := by
  simp only [setObj, Sem.run_bind, Sem.run, h]
theorem toArray_filter_ent (enc : κ → Value) (l : List (Ent κ)) (seen : Array Nat) : (l.map (ent enc)).toArray.filter (fun e => !seen.contains e.born) = ((l.filter fun x => !seen.contains x.2.2).map (ent enc)).toArray := by
  apply Array.ext'
  simp only [List.filter_toArray, List.filter_map]
  rfl
theorem contains_push' (seen : Array Nat) (b y : Nat) : (seen.push b).contains y = (seen.contains y || y == b) := Array.contains_push ..
theorem map_next {ty : Nat} (h : Itr w enc it r m rest cur) {K : Value → World → Prop} (hend : rest = [] → ∀ w', Chg None w w' → K (.tuple #[.bool false]) w')
    (hmore : ∀ x rest', rest.Perm (x :: rest') → ∀ w', Itr w' enc it r m rest' (some x) → Chg (fun k => k = it) w w' → K (.tuple #[.bool true, enc x.1, x.2]) w') : sem P (Instr.next (.pointer (some ⟨it, 0, none⟩)) false ty) w K := by
  have hne := h.ne
  have hlt := h.lt.1
  obtain ⟨l, c, seen, ⟨h1, h2, h3⟩, h4, h5, h6, h7⟩ := h.ex
  have htest : (!seen.isEmpty && !((l.map (ent enc)).toArray).isEmpty && ((l.map (ent enc)).toArray).all (fun x => decide (x.born ≥ c))) = false :=
    next_test_false seen _ c c (fun x hx => by simp only [] at hx; obtain ⟨y, hy, rfl⟩ := List.mem_map.1 hx; exact h3 y hy) (Nat.le_refl _)
  unfold sem
  simp only [Instr.next, Sem.run_bind, run_getObj_it h5, Result.andThen_ok, run_getObj h1, htest, Bool.false_eq_true, if_false, toArray_filter_ent]
  generalize hL : l.filter (fun x => !seen.contains x.2.2) = L at h6 ⊢
  have hLl : ∀ x ∈ L, x ∈ l ∧ seen.contains x.2.2 = false := fun x hx => by rw [← hL, List.mem_filter] at hx; simpa using hx
  have e1 : ((L.map (ent enc)).toArray).filter (fun x => decide (x.born < c)) = (L.map (ent enc)).toArray := Array.filter_eq_self.2 (fun x hx => by simp only [List.mem_toArray] at hx; obtain ⟨y, hy, rfl⟩ := List.mem_map.1 hx; exact decide_eq_true (h3 y (hLl y hy).1))
  have e2 : ((L.map (ent enc)).toArray).filter (fun x => decide (x.born ≥ c)) = #[] := by
    rw [Array.filter_eq_empty_iff]
    intro x hx
    simp only [List.mem_toArray] at hx
    obtain ⟨y, hy, rfl⟩ := List.mem_map.1 hx
    have := h3 y (hLl y hy).1
    simp [ent]; omega
  rw [e1, e2, Array.append_empty]
  cases L with
  | nil =>
    subst h6
    obtain ⟨j, w1, hj, hw1, hrun⟩ := run_choose (P := P) 1 w (by decide)
    obtain rfl : j = 0 := by omega
    have hk : Chg None w w1 := by rcases hw1 with rfl | rfl; exact Chg.refl _ _; exact Chg.drew0 w
    have e : ((if ((List.map (ent enc) ([] : List (Ent κ))).toArray).isEmpty = true then #[none] else #[]) ++ ((List.map (ent enc) ([] : List (Ent κ))).toArray).map some : Array (Option MapEntry)) = #[none] := by simp
    rw [e]
    simp only [List.size_toArray, List.length_cons, List.length_nil, Nat.zero_add, hrun, Result.andThen_ok]
    exact hend rfl w1 hk
  | cons x L =>
    have e : ((if ((List.map (ent enc) (x :: L)).toArray).isEmpty = true then #[none] else #[]) ++ ((List.map (ent enc) (x :: L)).toArray).map some : Array (Option MapEntry)) = ((x :: L).map fun x => some (ent enc x)).toArray := by simp
    rw [e]
    obtain ⟨j, w1, hj, hw1, hrun⟩ := run_choose (P := P) (((x :: L).map fun x => some (ent enc x)).toArray.size) w (by simp)
    have hk : Chg None w w1 := by rcases hw1 with rfl | rfl; exact Chg.refl _ _; exact Chg.drew0 w
    have h5' : w1.heap[it]? = some (.mapIter (some r) c seen c) := by rw [hk.block it hlt (fun h => h)]; exact h5
    have hjl : j < (x :: L).length := by simpa using hj
    have hget : ((x :: L).map fun x => some (ent enc x)).toArray[j]? = some (some (ent enc ((x :: L)[j]))) := by
      rw [List.getElem?_toArray, List.getElem?_map, List.getElem?_eq_getElem hjl]; rfl
    simp only [hrun, Result.andThen_ok, hget, Sem.run_bind, run_setObj_it h5', Sem.run_pure]
    generalize hy : (x :: L)[j] = y
    have hyL : y ∈ x :: L := hy ▸ List.getElem_mem hjl
    obtain ⟨hyl, hys⟩ := hLl y hyL
    obtain ⟨l1, l2, hsplit⟩ : ∃ l1 l2, l = l1 ++ y :: l2 := List.append_of_mem hyl
    have hr : r < w1.heap.size := Nat.lt_of_lt_of_le h.lt.2 hk.size
    refine hmore (kv y) ((l.filter fun x => !(seen.push y.2.2).contains x.2.2).map kv) ?_ _ ⟨l, c, seen.push y.2.2, ⟨?_, h2, h3⟩, h4, get_set (Nat.lt_of_lt_of_le hlt hk.size), rfl, ?_⟩ (Chg.trans hk chg_set (fun _ _ h => h.elim) (fun _ _ h => h))
    · -- what is left without y
      rw [← h6, ← List.map_cons, ← hL]
      refine List.Perm.map kv ?_
      have hnd := h2
      rw [hsplit] at hnd ⊢
      simp only [List.map_append, List.map_cons, List.nodup_append, List.nodup_cons, List.mem_map, List.mem_cons] at hnd
      have f1 : l1.filter (fun x => !(seen.push y.2.2).contains x.2.2) = l1.filter fun x => !seen.contains x.2.2 := List.filter_congr fun z hz => by
        rw [contains_push']
        have : (z.2.2 == y.2.2) = false := by
          rw [beq_eq_false_iff_ne]; intro e
          exact hnd.2.2 z.2.2 ⟨z, hz, rfl⟩ y.2.2 (.inl rfl) e
        simp [this]
      have f2 : l2.filter (fun x => !(seen.push y.2.2).contains x.2.2) = l2.filter fun x => !seen.contains x.2.2 := List.filter_congr fun z hz => by
        rw [contains_push']
        have : (z.2.2 == y.2.2) = false := by
          rw [beq_eq_false_iff_ne]; intro e
          exact hnd.2.1.1 ⟨z, hz, e⟩
        simp [this]
      rw [List.filter_append, List.filter_append, List.filter_cons, List.filter_cons, f1, f2, if_pos (by simpa using hys), if_neg (by rw [contains_push']; simp)]
      exact List.perm_middle
    · show (w1.heap.setIfInBounds it _)[r]? = _
      rw [Array.getElem?_setIfInBounds, if_neg hne, hk.block r h.lt.2 (fun h => h)]
      exact h1
    · intro c' hc'
      cases hc'
      exact ⟨y, hyl, rfl, by simp⟩
theorem map_entry {x : κ × Value} (h : Itr w enc it r m rest (some x)) {K : Value → World → Prop} (hK : K (.tuple #[enc x.1, x.2]) w) : sem P (Instr.entry (.pointer (some ⟨it, 0, none⟩))) w K := by
  obtain ⟨l, c, seen, ⟨h1, h2, h3⟩, h4, h5, h6, h7⟩ := h.ex
  obtain ⟨y, hy, rfl, hb⟩ := h7 x rfl
  have hf : ((l.map (ent enc)).toArray).find? (fun e => e.born == y.2.2) = some (ent enc y) := by
    rw [← Array.find?_toList]
    exact find_born (ent enc y) (l.map (ent enc)) (by simpa [ent, Function.comp_def] using h2) (List.mem_map_of_mem hy)
  unfold sem
  simp only [Instr.entry, Sem.run_bind, run_getObj_it h5, Result.andThen_ok, run_getObj h1, hb, bne_self_eq_false, Bool.false_eq_true, if_false, hf, Sem.run_pure]
  exact hK
end
variable [DecidableEq κ]

theorem find_asking {kt : Nat} {enc : κ → Value} (heq : ∀ (w : World) (a b : κ), (Op.equal kt (enc a) (enc b)).run P w = .ok (decide (a = b)) w) (w : World) (a : κ) : ∀ (l : List (Ent κ)) (i : Nat), (findAsking kt (enc a) (l.map (ent enc)) i).run P w = .ok (fnd a l i) w
  | [], i => by simp [findAsking, fnd]
  | x :: l, i => by
    have := find_asking heq w a l (i + 1)
    simp only [List.map_cons, findAsking, Sem.run_bind, fnd, ent, heq, Result.andThen_ok]
    by_cases h : x.1 = a
    · rw [if_pos h, decide_eq_true h.symm]; simp
    · rw [if_neg h, decide_eq_false fun e => h e.symm]; simpa using this
theorem check_fields (em : Bool) (n : Nat) (w : World) {xs ys : Array Value} : ∀ {fs : List Field} {tb : List (Nat × Nat)} {q : Bool}, fs.map (fun f => (f.name != "_", f.type, f.offset)) = tb.map (fun x => (true, x.1, x.2)) → EqF P xs ys tb q →
    (forIn fs PUnit.unit (fun f (_ : PUnit) => (do
      if f.name ≠ "_" then do
        let v ← part f.type xs f.offset
        checkKey em (n + 1) f.type v
        pure (ForInStep.yield PUnit.unit)
      else pure (ForInStep.yield PUnit.unit) : Sem (ForInStep PUnit)))).run P w = .ok PUnit.unit w
  | [], _, _, _, _ => by simp
  | f :: fs, (t, o) :: tb, _, h, e => by
    simp only [List.map_cons, List.cons.injEq, Prod.mk.injEq, bne_iff_ne] at h
    obtain ⟨⟨hn, rfl, rfl⟩, h⟩ := h
    have step : ∀ {v : Value} {d : TypeDesc}, P.underlying f.type = some d → P.plainKey f.type = true → xs[f.offset]? = some v → (∀ d', d ≠ .interface d') → (∀ a b, d ≠ .array a b) → (∀ a, d ≠ .struct a) → ∀ {q'}, EqF P xs ys tb q' →
        (forIn (f :: fs) PUnit.unit (fun f (_ : PUnit) => (do
          if f.name ≠ "_" then do
            let v ← part f.type xs f.offset
            checkKey em (n + 1) f.type v
            pure (ForInStep.yield PUnit.unit)
          else pure (ForInStep.yield PUnit.unit) : Sem (ForInStep PUnit)))).run P w = .ok PUnit.unit w := by
      intro v d hu hp hx d1 d2 d3 q' e'
      have ih := check_fields em n w h e'
      have hc : (checkKey em (n + 1) f.type v).run P w = .ok () w := by
        simp only [checkKey, Sem.run_bind, run_underlying hu, Result.andThen_ok]
        cases d <;> simp_all
      rw [List.forIn_cons]
      simp only [Sem.run_bind, hn, ne_eq, not_false_eq_true, if_true, run_part_plain w hp hx, Result.andThen_ok, hc, Sem.run_pure]
      exact ih
    cases e with
    | int hu hx hy e => exact step hu (by unfold Program.plainKey; rw [hu]) hx (by simp) (by simp) (by simp) e
    | bool hu hx hy e => exact step hu (by unfold Program.plainKey; rw [hu]) hx (by simp) (by simp) (by simp) e
    | str hu hx hy e => exact step hu (by unfold Program.plainKey; rw [hu]) hx (by simp) (by simp) (by simp) e
  | _ :: _, [], _, h, _ => by simp at h
theorem check_struct' {kt : Nat} {tb : List (Nat × Nat)} (T : EqT P kt tb) {xs ys : Array Value} {q : Bool} (he : EqF P xs ys tb q) (w : World) (e : Bool) (m : Nat) (hm : 0 < m) : (checkKey e (m + 1) kt (.agg xs)).run P w = .ok () w := by
  simp only [checkKey, Sem.run_bind, run_underlying T.under, Result.andThen_ok]
  rw [← Array.forIn_toList]
  obtain ⟨n, rfl⟩ : ∃ n, m = n + 1 := ⟨m - 1, by omega⟩
  have := check_fields e n w T.tab he
  generalize checkKey e (n + 1) = ck at *
  simp at this ⊢
  rw [this]; rfl
theorem check_struct {kt : Nat} {tb : List (Nat × Nat)} (T : EqT P kt tb) {xs ys : Array Value} {q : Bool} (he : EqF P xs ys tb q) (w : World) (e : Bool) (n : Nat) : (checkKey e (n + 2) kt (.agg xs)).run P w = .ok () w := check_struct' T he w e (n + 1) (by omega)
theorem key_struct {kt : Nat} {tb : List (Nat × Nat)} (T : EqT P kt tb) {cs : κ → Array Value} (heq : ∀ a b, EqF P (cs a) (cs b) tb (decide (a = b))) (hs : ∀ a, sameBits 10000 (.agg (cs a)) (.agg (cs a)) = true) : KeyT P kt (fun a => .agg (cs a)) where
  check w a e := check_struct T (heq a a) w e 9998
  find w a l := by
    have hq : ∀ (w : World) (a b : κ), (Op.equal kt (.agg (cs a)) (.agg (cs b))).run P w = .ok (decide (a = b)) w := by
      intro w a b
      unfold Op.equal Op.maxDepth
      rw [run_equalIn_struct w 9999 kt _ _ T.under T.held]
      exact eqF_run w 9998 T.tab (heq a b)
    have := find_asking (enc := fun a => Value.agg (cs a)) hq w a l 0
    cases l with
    | nil => simp [findKey, run_underlying T.under, findNow, fnd]
    | cons x l =>
      simp only [findKey, Sem.run_bind, run_underlying T.under, Result.andThen_ok, List.map_cons, findNow, sameNow]
      simpa using this
  same := hs
end Go.Sh
namespace Go.Sh
open Go.ChangeShapes Go.Instr
variable {P : Program}
theorem zeroCells_one {z : Value} (hz : z.cells = #[z]) (n : Nat) : (Builtin.zeroCells z.cells n).toList = List.replicate n z := by
  rw [hz]
  unfold Builtin.zeroCells
  refine List.ext_getElem? fun i => ?_
  simp only [Array.toList_map, Array.toList_range, List.getElem?_map, List.getElem?_replicate]
  by_cases h : i < n
  · simp [h, Nat.mod_one]
  · simp [h]
theorem append_zeros {t tn ty e by_ : Nat} {z : Value} (T : SlT P t e 1 by_) (hz : (P.info? e).bind (·.zero) = some z) (hzc : z.cells = #[z]) (hz1 : z.oneCell' = true) (htn : P.underlying tn = some (.int .i64)) {w : World} {a : Option Addr} {n c : Nat} {l : List Value} (h : Own w e 1 a n c l) {m : Nat} (hm : 0 < m)
    (hb : (n + m) * by_ ≤ 140737488355328) (hn2 : n + m ≤ 140737488355328) {K : Value → World → Prop}
    (hK : ∀ a' c' w', Own w' e 1 a' (n + m) c' (l ++ List.replicate m z) → Chg (At a) w w' → (a' = a ∨ ∃ b, a' = some ⟨b, 0, .none⟩ ∧ w.heap.size ≤ b) → K (.slice a' (n + m) c') w') :
    sem P (Builtin.append_ #[t, tn] ty #[.slice a n c, .int .i64 (m : Int)]) w K := by
  obtain ⟨i, z', hi, hz', hsz, rfl, hzs⟩ := T.get
  have hzz : z' = z := by rw [hi] at hz; exact Option.some.inj (hz'.symm.trans hz)
  subst hzz
  have hlen : (l ++ List.replicate m z').length = (n + m) * 1 := by rw [List.length_append, h.len, List.length_replicate]; omega
  have hll : l.length = n := by have := h.len; omega
  have hm0 : m ≠ 0 := by omega
  have hw : IntKind.i64.wrap (m : Int) = m := by rw [IntKind.wrap_i64]; omega
  have hneg : ¬ ((m : Int) < 0) := by omega
  have hmb : m * i.bytes ≤ (n + m) * i.bytes := Nat.mul_le_mul_right _ (by omega)
  have h48i : ¬ (281474976710656 < (m : Int) * (i.bytes : Int)) := by
    rw [← Int.natCast_mul]
    omega
  have hns : ¬ (m * i.size = 0) := by rw [hsz, Nat.mul_one]; exact hm0
  by_cases hr : n + m ≤ c
  · rcases h.row with ⟨rfl, h2, h3⟩ | ⟨b, rest, rfl, h2, h3, h4⟩
    · omega
    · have hlr : l.length + m ≤ (l ++ rest).length := by rw [Nat.mul_one] at h3; omega
      have hcell : ∀ j, j < m → n + j < (l ++ rest).length := fun j hj => by omega
      have hst := run_storeCells_cells (P := P) b n (List.replicate m z') 0 w
        (by intro j hj; rw [List.length_replicate] at hj; rw [show n + 0 + j = n + j by omega, h2.cell, List.getElem?_eq_getElem (hcell j hj)]; rfl)
        (by intro j hj; rw [List.length_replicate] at hj; rw [show n + 0 + j = n + j by omega]; exact h2.thaw (hcell j hj)) (by intro u hu; rw [(List.mem_replicate.1 hu).2]; exact hz1)
      simp only [Nat.add_zero] at hst
      have hzl : (Builtin.zeroCells z'.cells m).toList = List.replicate m z' := zeroCells_one hzc m
      have hrun : (Builtin.append_ #[t, tn] ty #[.slice (some ⟨b, 0, .none⟩) n c, .int .i64 (m : Int)]).run P w = .ok (.slice (some ⟨b, 0, .none⟩) (n + m) c) (w.setCells b n (List.replicate m z')) := by
        simp [Builtin.append_, run_underlying T.ht, run_underlying htn, sizeOf, typeInfo, zeroValue, hi, hz', asInt, asIntOf, hw, hm0, hneg, hsz, h48i, hr, hzl, Addr.add_lit, hst]
      unfold sem
      rw [hrun]
      obtain ⟨g1, g2⟩ := h2.setCells (List.replicate m z') n (by rw [List.length_replicate]; omega)
      have e1 : (l ++ rest).take n = l := by rw [← hll, List.take_left]
      rw [e1] at g1
      refine hK _ c _ ⟨hlen, .inr ⟨b, (l ++ rest).drop (n + (List.replicate m z').length), rfl, g1, ?_, hr⟩⟩ (g2.mono fun k _ hk => ⟨_, rfl, hk.symm⟩) (.inl rfl)
      simp only [List.length_append, List.length_drop, List.length_replicate] at hlr h3 ⊢
      omega
  · have hold : (Builtin.firstCells 1 n (.slice a n c)).run P w.drew = .ok l.toArray w.drew := by
      rcases h.row with ⟨rfl, h2, h3⟩ | ⟨b, rest, rfl, h2, h3, h4⟩
      · have : l = [] := List.eq_nil_of_length_eq_zero (by rw [h.len, h2, Nat.zero_mul])
        subst this; exact run_firstCells_none _ _ _ _ _
      · refine run_firstCells_some w.drew 1 n ⟨b, 0, .none⟩ n c l h.len fun j u hj => ?_
        rw [Addr.add_lit, Nat.zero_add]
        show w.cell? _ = _
        rw [h2.cell, List.getElem?_append_left (List.getElem?_eq_some_iff.1 hj).1]; exact hj
    have h63' : ¬ (9223372036854775807 < ((n : Int) + (m : Int))) := by omega
    have hfit := growslice_fits (need := n + m) (old := c) (bytes := i.bytes) (by omega) hb
    have h48' : ¬ (281474976710656 < Builtin.nextslicecap (n + m) c * i.bytes) := by omega
    have hrun : (Builtin.append_ #[t, tn] ty #[.slice a n c, .int .i64 (m : Int)]).run P w = .ok (.slice (some ⟨w.heap.size, 0, none⟩) (n + m) (grownCap w (n + m) c e))
        (w.drew.alloc (.cells ((l ++ List.replicate m z').toArray ++ Builtin.zeroCells z'.cells (grownCap w (n + m) c e - (n + m))) e)) := by
      simp [Builtin.append_, run_underlying T.ht, run_underlying htn, sizeOf, typeInfo, zeroValue, hi, hz', asInt, asIntOf, hw, hm0, hneg, hsz, h48i, hr, h63', h48', Question.forced, hold, newRow, grownCap]
      congr 2
      apply Array.ext'
      simp [zeroCells_one hzc, List.append_assoc]
    unfold sem
    rw [hrun]
    have hge := grownCap_ge w (n + m) c e
    have kn : Chg None w (w.drew.alloc (.cells ((l ++ List.replicate m z').toArray ++ Builtin.zeroCells z'.cells (grownCap w (n + m) c e - (n + m))) e)) := Chg.trans (Chg.drew0 (D := None) w) (chg_alloc (D := None) _ _) (fun _ _ h => h.elim) (fun _ _ h => h.elim)
    refine hK _ _ _ ⟨hlen, .inr ⟨w.heap.size, (Builtin.zeroCells z'.cells (grownCap w (n + m) c e - (n + m))).toList, rfl, ?_, ?_, hge⟩⟩ (kn.mono fun _ _ h => h.elim) (.inr ⟨_, rfl, Nat.le_refl _⟩)
    · have := blk_alloc (w := w.drew) (t := e) (cs := (l ++ List.replicate m z').toArray ++ Builtin.zeroCells z'.cells (grownCap w (n + m) c e - (n + m)))
      simpa using this
    · rw [List.length_append, hlen, zeroCells_one hzc, List.length_replicate]
      omega
theorem sb_beq (a b : List UInt8) : ((⟨a.toArray⟩ : ByteArray) == ⟨b.toArray⟩) = decide (a = b) := by
  show (a.toArray == b.toArray) = _
  by_cases h : a = b
  · subst h; rw [decide_eq_true rfl]; exact beq_self_eq_true _
  · rw [decide_eq_false h]
    exact beq_eq_false_iff_ne.2 fun e => h (by simpa using e)
theorem sameNow_str (a b : List UInt8) : sameNow .string (strv a) (strv b) = some (decide (a = b)) := congrArg some (sb_beq a b)
theorem findNow_str (a : List UInt8) : ∀ (l : List (Ent (List UInt8))) (i : Nat), findNow .string (strv a) (l.map (ent strv)) i = some (fnd a l i)
  | [], _ => rfl
  | x :: l, i => by
    simp only [List.map_cons, findNow, ent, sameNow_str, fnd]
    by_cases h : x.1 = a
    · rw [decide_eq_true h.symm, if_pos h]
    · rw [decide_eq_false (fun e => h e.symm), if_neg h]; exact findNow_str a l (i + 1)
theorem check_string {kt : Nat} (hk : P.underlying kt = some .string) (w : World) (a : List UInt8) (e : Bool) (n : Nat) : (checkKey e (n + 1) kt (strv a)).run P w = .ok () w := by
  simp only [checkKey, Sem.run_bind, run_underlying hk, Result.andThen_ok, Sem.run_pure]
theorem key_string {kt : Nat} (hk : P.underlying kt = some .string) : KeyT P kt strv where
  check w a e := check_string hk w a e 9999
  find w a l := by
    simp only [findKey, Sem.run_bind, run_underlying hk, Result.andThen_ok, findNow_str, Sem.run_pure]
  same a := by
    show ((⟨a.toArray⟩ : ByteArray) == ⟨a.toArray⟩) = true
    rw [sb_beq, decide_eq_true rfl]
end Go.Sh
set_option maxRecDepth 100000
namespace Go.Proofs.YtcigjlbpdkkflaaGreatDoor
open Go.Sh
noncomputable abbrev PP := Tryz.prog
def tab : List TE := [
  .tupl [],
  .one .val,
  .one (.int .i64),
  .one (.int .i64),
  .one .bool,
  .one (.int .u8),
  .one (.int .u8),
  .strct 4 [.int .i64, .int .i64, .bool, .int .u8] [(0, 2), (1, 3), (2, 4), (3, 6)],
  .strct 4 [.int .i64, .int .i64, .bool, .int .u8] [(0, 2), (1, 3), (2, 4), (3, 6)],
  .one .str,
  .one .str,
  .one .str,
  .one (.int .u64),
  .strct 2 [.str, .int .u64] [(0, 9), (1, 12)],
  .strct 2 [.str, .int .u64] [(0, 9), (1, 12)],
  .one .ptr,
  .one .ptr,
  .one .ptr,
  .strct 1 [.ptr] [(0, 17)],
  .strct 1 [.ptr] [(0, 17)],
  .one .val,
  .one (.int .i32),
  .sl 26 2,
  .one .val,
  .sl 5 1,
  .strct 2 [.str, .slice] [(0, 9), (1, 24)],
  .strct 2 [.str, .slice] [(0, 9), (1, 24)],
  .one .ptr,
  .tupl [27, 4],
  .one .val,
  .one .ptr,
  .one (.int .i64),
  .tupl [30, 31],
  .one .val,
  .one .val,
  .one .val,
  .one .val,
  .one .val,
  .tupl [27, 31],
  .one .val,
  .strct 5 [.int .i64, .int .i64, .int .i64, .int .i64, .bool] [(0, 3), (1, 3), (2, 2), (3, 3), (4, 4)],
  .strct 5 [.int .i64, .int .i64, .int .i64, .int .i64, .bool] [(0, 3), (1, 3), (2, 2), (3, 3), (4, 4)],
  .tupl [41, 31],
  .one .val,
  .tupl [24, 31],
  .one .val,
  .sl 41 5,
  .one .val,
  .one .val,
  .sl 3 1,
  .strct 5 [.slice, .slice, .slice, .slice, .int .i64] [(0, 49), (1, 49), (2, 49), (3, 49), (4, 3)],
  .strct 5 [.slice, .slice, .slice, .slice, .int .i64] [(0, 49), (1, 49), (2, 49), (3, 49), (4, 3)],
  .tupl [27, 30, 4],
  .one .val,
  .one .val,
  .tupl [46, 4],
  .one .val,
  .one .val,
  .one .val,
  .one .val,
  .one .val,
  .one .val,
  .one .val,
  .one .val,
  .one .val,
  .one .val,
  .one .val,
  .arr 12 49 1,
  .arr 12 3 1,
  .one .val,
  .sl 87 12,
  .one .ptr,
  .one .ptr,
  .arr 2 30 1,
  .one .ptr,
  .arr 2 74 1,
  .sl 24 1,
  .sl 46 1,
  .strct 3 [.slice, .slice, .slice] [(0, 76), (1, 76), (2, 77)],
  .strct 3 [.slice, .slice, .slice] [(0, 76), (1, 76), (2, 77)],
  .strct 10 [] [(0, 27), (1, 72), (2, 73), (4, 75), (6, 79), (9, 3)],
  .strct 10 [] [(0, 27), (1, 72), (2, 73), (4, 75), (6, 79), (9, 3)],
  .one .val,
  .tupl [72, 3],
  .one .val,
  .one .val,
  .strct 12 [.int .i64, .int .i64, .int .i64, .int .i64, .int .i64, .int .i64, .int .i64, .bool, .slice, .slice, .str, .slice] [(0, 3), (1, 3), (2, 3), (3, 41), (8, 24), (9, 24), (10, 9), (11, 49)],
  .strct 12 [.int .i64, .int .i64, .int .i64, .int .i64, .int .i64, .int .i64, .int .i64, .bool, .slice, .slice, .str, .slice] [(0, 3), (1, 3), (2, 3), (3, 41), (8, 24), (9, 24), (10, 9), (11, 49)],
  .one .val,
  .one .val,
  .one .val,
  .one .val,
  .sl 106 3,
  .one .map,
  .strct 2 [.slice, .map] [(0, 92), (1, 93)],
  .strct 2 [.slice, .map] [(0, 92), (1, 93)],
  .strct 6 [.slice, .map, .ptr, .str, .int .i64, .slice] [(0, 95), (2, 27), (3, 9), (4, 3), (5, 24)],
  .strct 6 [.slice, .map, .ptr, .str, .int .i64, .slice] [(0, 95), (2, 27), (3, 9), (4, 3), (5, 24)],
  .one .val,
  .one .val,
  .sl 9 1,
  .one .val,
  .one .map,
  .tupl [41, 4],
  .one .val,
  .strct 3 [.int .i64, .int .i64, .int .i64] [(0, 3), (1, 3), (2, 2)],
  .strct 3 [.int .i64, .int .i64, .int .i64] [(0, 3), (1, 3), (2, 2)],
  .one .val,
  .one .val,
  .one .val,
  .one .val,
  .one .val,
  .sl 187 3,
  .strct 3 [.slice, .slice, .slice] [(0, 24), (1, 24), (2, 112)],
  .strct 3 [.slice, .slice, .slice] [(0, 24), (1, 24), (2, 112)],
  .one .ptr,
  .one .map,
  .sl 133 1,
  .strct 9 [.int .i64, .map, .map, .slice, .int .i64, .int .i64, .int .i64, .int .i64, .bool] [(0, 2), (1, 116), (2, 116), (3, 117), (4, 3), (5, 3), (6, 3), (7, 31), (8, 4)],
  .strct 9 [.int .i64, .map, .map, .slice, .int .i64, .int .i64, .int .i64, .int .i64, .bool] [(0, 2), (1, 116), (2, 116), (3, 117), (4, 3), (5, 3), (6, 3), (7, 31), (8, 4)],
  .one .val,
  .one .val,
  .one .val,
  .tupl [9, 31],
  .one .val,
  .one .val,
  .tupl [3, 4],
  .one .val,
  .one .val,
  .one .val,
  .one .map,
  .one .val,
  .strct 1 [.val] [(0, 131)],
  .strct 1 [.val] [(0, 131)],
  .one .val,
  .one .val,
  .one .val,
  .one (.int .u64),
  .one .val,
  .one .val,
  .sl 110 1,
  .one .val,
  .sl 31 1,
  .one .val,
  .one .val,
  .sl 210 2,
  .sl 213 4,
  .sl 215 3,
  .strct 11 [.int .i64, .bool, .int .i64, .int .i64, .int .i64, .slice, .slice, .slice, .slice, .slice, .slice] [(0, 3), (1, 4), (2, 3), (3, 3), (4, 3), (5, 76), (6, 49), (7, 145), (8, 145), (9, 146), (10, 147)],
  .strct 11 [.int .i64, .bool, .int .i64, .int .i64, .int .i64, .slice, .slice, .slice, .slice, .slice, .slice] [(0, 3), (1, 4), (2, 3), (3, 3), (4, 3), (5, 76), (6, 49), (7, 145), (8, 145), (9, 146), (10, 147)],
  .one .val,
  .one .val,
  .one .val,
  .sl 155 5,
  .one .val,
  .strct 5 [.int .i64, .int .i64, .int .i64, .int .i64, .bool] [(0, 3), (1, 3), (2, 2), (3, 3), (4, 4)],
  .one .val,
  .one .val,
  .sl 160 2,
  .one .val,
  .strct 2 [.str, .slice] [(0, 9), (1, 24)],
  .one .ptr,
  .one .val,
  .one .val,
  .one .val,
  .one .ptr,
  .one .val,
  .one .val,
  .one .val,
  .one .val,
  .one .val,
  .tupl [3, 170],
  .one .val,
  .one .val,
  .one .val,
  .one .val,
  .one .val,
  .tupl [2, 170],
  .one .val,
  .one .ptr,
  .strct 2 [.ptr, .slice] [(0, 179), (1, 24)],
  .strct 2 [.ptr, .slice] [(0, 179), (1, 24)],
  .one .val,
  .one .val,
  .one .val,
  .one .val,
  .strct 3 [.int .i64, .int .i64, .slice] [(0, 3), (1, 3), (2, 24)],
  .strct 3 [.int .i64, .int .i64, .slice] [(0, 3), (1, 3), (2, 24)],
  .one .val,
  .sl 192 4,
  .one .map,
  .strct 4 [.ptr, .int .i64, .int .i64, .slice] [(0, 115), (1, 187)],
  .strct 4 [.ptr, .int .i64, .int .i64, .slice] [(0, 115), (1, 187)],
  .one .val,
  .one .val,
  .tupl [74, 3],
  .one .val,
  .one .val,
  .tupl [24, 3],
  .one .val,
  .one .val,
  .one .val,
  .one .val,
  .strct 5 [.ptr, .str, .slice, .slice, .int .i64] [(0, 72), (1, 9), (2, 24), (3, 153), (4, 3)],
  .strct 5 [.ptr, .str, .slice, .slice, .int .i64] [(0, 72), (1, 9), (2, 24), (3, 153), (4, 3)],
  .one .val,
  .one .val,
  .one .val,
  .sl 4 1,
  .strct 2 [.str, .int .i64] [(0, 9), (1, 3)],
  .strct 2 [.str, .int .i64] [(0, 9), (1, 3)],
  .one .val,
  .strct 4 [.int .i64, .str, .str, .int .i64] [(0, 3), (1, 9), (2, 9), (3, 3)],
  .strct 4 [.int .i64, .str, .str, .int .i64] [(0, 3), (1, 9), (2, 9), (3, 3)],
  .strct 3 [.int .i64, .int .i64, .slice] [(0, 3), (1, 3), (2, 24)],
  .strct 3 [.int .i64, .int .i64, .slice] [(0, 3), (1, 3), (2, 24)],
  .one .val,
  .one .val,
  .one .val,
  .one .val,
  .one .val,
  .one .val,
  .one .ptr,
  .one .val,
  .one .val,
  .one .val,
  .one .val,
  .one .val,
  .one .val,
  .one .val,
  .one .val,
  .one .val,
  .one .val,
  .one .val,
  .one .val,
  .one .val,
  .one (.int .i64),
  .tupl [3, 236],
  .one .val,
  .one .val,
  .one .val,
  .one .val,
  .one .val,
  .one (.int .u32),
  .one .val,
  .one (.int .u64),
  .one .val,
  .one (.int .i64),
  .one .ptr,
  .one .val,
  .one .val,
  .tupl [21, 3],
  .one .val,
  .tupl [245, 170],
  .one .val,
  .one .val,
  .one .val,
  .arr 24 5 1,
  .one .val,
  .tupl [24, 9],
  .one .val,
  .one .val,
  .one .val,
  .one .val,
  .one .val,
  .one .val,
  .tupl [155, 4],
  .one .val,
  .one .val,
  .tupl [9, 3],
  .one .val,
  .one .val,
  .one .val,
  .one (.int .u64),
  .one .val,
  .one .val,
  .one .val,
  .one .ptr,
  .one .val,
  .one .val,
  .one .val,
  .strct 3 [.str, .str, .val] [(0, 9), (1, 9), (2, 170)],
  .strct 3 [.str, .str, .val] [(0, 9), (1, 9), (2, 170)],
  .one .val,
  .one .val,
  .arr 20 245 1,
  .arr 65 5 1,
  .one .val,
  .one .val,
  .tupl [155, 3],
  .one .val,
  .one .val,
  .one .ptr,
  .tupl [3, 3],
  .one .val,
  .one .ptr,
  .strct 1 [.str] [(0, 9)],
  .strct 1 [.str] [(0, 9)],
  .arr 256 5 1,
  .strct 2 [.int .u8, .int .u8] [(0, 5), (1, 5)],
  .strct 2 [.int .u8, .int .u8] [(0, 5), (1, 5)],
  .arr 16 300 2,
  .one .val,
  .one .val,
  .tupl [243, 243],
  .one .val,
  .arr 32 5 1,
  .arr 64 5 1,
  .strct 4 [.ptr, .ptr, .ptr, .str] [(0, 17), (1, 17), (2, 17), (3, 9)],
  .strct 4 [.ptr, .ptr, .ptr, .str] [(0, 17), (1, 17), (2, 17), (3, 9)],
  .arr 0 16 1,
  .none,
  .none,
  .one (.int .u8),
  .one (.int .u8),
  .one .val,
  .one (.int .i32),
  .one (.int .i32),
  .strct 11 [.int .u64, .int .u64, .int .u32, .int .u8, .int .u8, .int .u8, .int .u8, .val, .ptr, .int .i32, .int .i32] [(0, 12), (1, 12), (2, 243), (3, 313), (4, 5), (5, 5), (6, 314), (7, 315), (8, 222), (9, 316), (10, 317)],
  .strct 11 [.int .u64, .int .u64, .int .u32, .int .u8, .int .u8, .int .u8, .int .u8, .val, .ptr, .int .i32, .int .i32] [(0, 12), (1, 12), (2, 243), (3, 313), (4, 5), (5, 5), (6, 314), (7, 315), (8, 222), (9, 316), (10, 317)]]
theorem tab_ok : tabOk PP tab = true := by kernel_rfl
theorem mix_ok : PP.follows .mixedOrders = true := by kernel_rfl
noncomputable def C_l16_CacheHeads : PT := doesC PP 6
noncomputable def C_l16_within : PT := doesC PP 9
noncomputable def C_l16_loaded : PT := doesC PP 10
noncomputable def C_cache_Open : PT := doesC PP 11
noncomputable def C_l16_num : PT := doesC PP 12
noncomputable def C_p_cache_Cache_Head : PT := doesC PP 13
noncomputable def C_p_disk_Disk_Files : PT := doesC PP 14
noncomputable def C_disk_Load : PT := doesC PP 16
noncomputable def C_tile_ParsePath : PT := doesC PP 17
noncomputable def C_p_cache_Cache_Tile : PT := doesC PP 18
noncomputable def C_p_cache_Cache_List : PT := doesC PP 19
noncomputable def C_l16_begun : PT := doesC PP 21
noncomputable def C_l16_tileOf : PT := doesC PP 22
noncomputable def C_l16_asked : PT := doesC PP 23
noncomputable def C_p_cache_Cache_Put : PT := doesC PP 24
noncomputable def C_l16_bytesOf : PT := doesC PP 25
noncomputable def C_l16_headOf : PT := doesC PP 29
noncomputable def C_p_cache_Cache_SetHead : PT := doesC PP 30
noncomputable def C_l16_CachePlan_arm : PT := doesC PP 31
noncomputable def C_l16_CachePlan_crashed : PT := doesC PP 32
noncomputable def C_disk_New : PT := doesC PP 34
noncomputable def C_cache_named : PT := doesC PP 41
noncomputable def C_p_disk_Disk_Read : PT := doesC PP 42
noncomputable def C_p_cache_Cache_headFile : PT := doesC PP 43
noncomputable def C_p_disk_Disk_List : PT := doesC PP 44
noncomputable def C_p_cache_Cache_good : PT := doesC PP 45
noncomputable def C_cache_numbersOf : PT := doesC PP 46
noncomputable def C_p_cache_usage_cache_numbers_int_lay : PT := doesC PP 47
noncomputable def C_p_cache_Cache_remove : PT := doesC PP 48
noncomputable def C_p_disk_Disk_SyncNames : PT := doesC PP 49
noncomputable def C_bytes_Clone : PT := doesC PP 50
noncomputable def C_slices_Clone_byte_byte : PT := doesC PP 51
noncomputable def C_disk_named : PT := doesC PP 52
noncomputable def C_p_disk_Disk_Used : PT := doesC PP 53
noncomputable def C_maps_Clone_map_string_disk_content_string_disk_content : PT := doesC PP 54
noncomputable def C_tile_guess : PT := doesC PP 55
noncomputable def C_tile_Path : PT := doesC PP 56
noncomputable def C_p_cache_usage_cache_numbers_int_value : PT := doesC PP 58
noncomputable def C_cache_numbers_tile : PT := doesC PP 60
noncomputable def C_p_cache_usage_cache_numbers_int_forget : PT := doesC PP 61
noncomputable def C_p_disk_Disk_Pending_S1 : PT := doesC PP 62
noncomputable def C_l16_same : PT := doesC PP 63
noncomputable def C_p_cache_Cache_Drop : PT := doesC PP 64
noncomputable def C_p_disk_Disk_Create : PT := doesC PP 65
noncomputable def C_p_disk_Disk_Write : PT := doesC PP 66
noncomputable def C_bytes_Equal : PT := doesC PP 67
noncomputable def C_p_cache_Cache_SetHead_S1 : PT := doesC PP 68
noncomputable def C_p_cache_Cache_SetHead_S2 : PT := doesC PP 69
noncomputable def C_p_cache_Cache_SetHead_S3 : PT := doesC PP 70
noncomputable def C_p_disk_Disk_Sync : PT := doesC PP 71
noncomputable def C_p_cache_Cache_SetHead_S4 : PT := doesC PP 72
noncomputable def C_p_disk_Disk_Rename : PT := doesC PP 73
noncomputable def C_p_disk_Disk_Fail : PT := doesC PP 74
noncomputable def C_p_disk_Disk_Crash : PT := doesC PP 75
noncomputable def C_disk_bounded : PT := doesC PP 76
noncomputable def C_p_disk_Disk_there : PT := doesC PP 91
noncomputable def C_strings_HasPrefix : PT := doesC PP 92
noncomputable def C_slices_Sort_string_string : PT := doesC PP 93
noncomputable def C_p_disk_Disk_Remove : PT := doesC PP 94
noncomputable def C_p_disk_Disk_act : PT := doesC PP 95
noncomputable def C_p_disk_Disk_SyncNames_S1 : PT := doesC PP 96
noncomputable def C_p_disk_Disk_SyncNames_S2 : PT := doesC PP 97
noncomputable def C_strings_Split : PT := doesC PP 98
noncomputable def C_strconv_Atoi : PT := doesC PP 100
noncomputable def C_tile_full : PT := doesC PP 101
noncomputable def C_strings_HasSuffix : PT := doesC PP 102
noncomputable def C_strings_TrimSuffix : PT := doesC PP 103
noncomputable def C_strings_ReplaceAll : PT := doesC PP 104
noncomputable def C_strings_Join : PT := doesC PP 105
noncomputable def C_strconv_ParseInt : PT := doesC PP 106
noncomputable def C_tile_Check : PT := doesC PP 107
noncomputable def C_p_strings_Builder_WriteString : PT := doesC PP 108
noncomputable def C_strconv_Itoa : PT := doesC PP 109
noncomputable def C_strconv_FormatInt : PT := doesC PP 110
noncomputable def C_p_strings_Builder_String : PT := doesC PP 111
noncomputable def C_p_disk_Disk_Create_S1 : PT := doesC PP 112
noncomputable def C_p_disk_Disk_Create_S2 : PT := doesC PP 113
noncomputable def C_p_disk_Disk_rename : PT := doesC PP 114
noncomputable def C_p_disk_Disk_Create_S2_S1 : PT := doesC PP 115
noncomputable def C_p_disk_Disk_Write_S1 : PT := doesC PP 116
noncomputable def C_p_disk_Disk_Write_S2 : PT := doesC PP 117
noncomputable def C_disk_laid : PT := doesC PP 118
noncomputable def C_p_disk_Disk_Sync_S1 : PT := doesC PP 119
noncomputable def C_p_disk_Disk_Sync_S2 : PT := doesC PP 120
noncomputable def C_p_disk_Disk_Rename_S1 : PT := doesC PP 121
noncomputable def C_p_disk_Disk_Rename_S2 : PT := doesC PP 122
noncomputable def C_p_disk_Disk_Rename_S2_S1 : PT := doesC PP 123
noncomputable def C_p_disk_Disk_Crash_S1 : PT := doesC PP 124
noncomputable def C_slices_SortFunc_disk_owned_disk_owned : PT := doesC PP 125
noncomputable def C_p_disk_Disk_Crash_S2 : PT := doesC PP 126
noncomputable def C_p_disk_Disk_Remove_S1 : PT := doesC PP 145
noncomputable def C_p_disk_Disk_Remove_S2 : PT := doesC PP 146
noncomputable def C_p_disk_Disk_Remove_S2_S1 : PT := doesC PP 147
end Go.Proofs.YtcigjlbpdkkflaaGreatDoor
set_option maxRecDepth 10000
namespace Go.Proofs.YtcigjlbpdkkflaaGreatDoor
open Go.Sh
inductive Tag where
  | free | dk | nm | la | ac | bx | fl | dt
  | nw (f : Nat)
  | wl (f : Nat)
abbrev Tags := Nat → Tag
abbrev Ownd (T : Tags) : Nat → Prop := fun k => T k ≠ .free
abbrev Tg (T : Tags) (t : Tag) : Nat → Prop := fun k => T k = t
abbrev ptr (f : Nat) : Value := .pointer (some ⟨f, 0, none⟩)
def ptrs (m : Names) : List (Str × Value) := m.map fun x => (x.1, ptr x.2)
def wrCells (x : WrM × Option Addr × Nat) : List Value := [.int .i64 x.1.num, .int .i64 x.1.at_, .slice x.2.1 x.1.data.length x.2.2]
def Ext (T T' : Tags) : Prop := ∀ k, T k ≠ .free → T' k = T k
theorem Ext.refl (T : Tags) : Ext T T := fun _ _ => rfl
theorem Ext.at {T T' : Tags} (h : Ext T T') {k : Nat} {t : Tag} (hk : T k = t) (ht : t ≠ .free) : T' k = t := by rw [h k (by rw [hk]; exact ht), hk]
def Blk0 (w : World) (b : Nat) (t : TypeId) (l : List Value) : Prop := w.heap[b]? = some (.cells l.toArray t (0, 0))
section
variable {w w' : World} {b : Nat} {t : TypeId} {l : List Value}
theorem Blk0.toBlk (h : Blk0 w b t l) : Blk w b t l := ⟨(0, 0), h, fun i _ => by simp⟩
theorem Blk0.lt (h : Blk0 w b t l) : b < w.heap.size := h.toBlk.lt
theorem Blk0.chg {D : Nat → Prop} (h : Blk0 w b t l) (k : Chg D w w') (hd : ¬ D b) : Blk0 w' b t l := by
  rw [Blk0, k.block _ h.lt hd]; exact h
theorem Blk0.rd (h : Blk0 w b t l) (j : Nat) {v : Value} (hv : l[j]? = some v) : w.cell? ((⟨b, 0, none⟩ : Addr).add j) = some v := h.toBlk.rd j hv
theorem Blk0.set (h : Blk0 w b t l) (j : Nat) (v : Value) : Blk0 (w.setCell ⟨b, j, none⟩ v) b t (l.set j v) := by
  unfold Blk0 at h ⊢
  simp only [World.setCell, Array.getElem?_modify, if_pos, h, Option.map_some, Option.isSome_none, Bool.false_eq_true, if_false]
  congr 2
  exact Array.ext' (by simp)
theorem box_set0 (h : Blk0 w b t l) {j : Nat} (hj : j < l.length) {v : Value} (hv : v.oneCell' = true) {K : World → Prop} (hK : ∀ w', Blk0 w' b t (l.set j v) → Chg (fun k => k = b) w w' → K w') : stC ((⟨b, 0, none⟩ : Addr).add j) v w K := by
  rw [Addr.add_lit, Nat.zero_add]
  exact h.toBlk.store hj hv fun _ k' => hK _ (h.set j v) k'
theorem alC_box0 {cs : Array Value} {K : Addr → World → Prop} (hK : ∀ b w', Blk0 w' b t cs.toList → Chg None w w' → w.heap.size ≤ b → K ⟨b, 0, none⟩ w') : alC cs t w K :=
  hK _ _ (by show (w.heap.push _)[w.heap.size]? = _; simp) (chg_alloc w _) (Nat.le_refl _)
end
structure FileV (w : World) (T : Tags) (f : Nat) (F : FileM) (na : Option Addr) (nc : Nat) (la : Option Addr) (lc : Nat) (wa : Option Addr) (wc : Nat) (xs : List (WrM × Option Addr × Nat)) : Prop where
  blk : Blk0 w f 114 [.slice na F.now.length nc, .slice la F.lasts.length lc, .slice wa F.loose.length wc]
  now : Own w 5 1 na F.now.length nc (bvs F.now)
  nowT : ∀ k, At na k → T k = .nw f
  lasts : Lies w (Tg T .dt) la (bvs F.lasts)
  lastsC : F.lasts.length ≤ lc
  wr : Own w 187 3 wa F.loose.length wc (xs.flatMap wrCells)
  wrT : ∀ k, At wa k → T k = .wl f
  xsm : xs.map (·.1) = F.loose
  dat : ∀ x ∈ xs, Lies w (Tg T .dt) x.2.1 (bvs x.1.data) ∧ x.1.data.length ≤ x.2.2
def FileAt (w : World) (T : Tags) (f : Nat) (F : FileM) : Prop := ∃ na nc la lc wa wc xs, FileV w T f F na nc la lc wa wc xs
def ActAt (w : World) (T : Tags) : ActM → Value → Prop
  | .create n f, v => ∃ p q, v = .func (.func 115) #[] #[ptr p, ptr q] ∧ Blk w p 115 [ptr f] ∧ T p = .bx ∧ Blk w q 9 [strv n] ∧ T q = .bx ∧ T f = .fl
  | .rename a b, v => ∃ p q, v = .func (.func 123) #[] #[ptr p, ptr q] ∧ Blk w p 9 [strv a] ∧ T p = .bx ∧ Blk w q 9 [strv b] ∧ T q = .bx
  | .remove n, v => ∃ q, v = .func (.func 147) #[] #[ptr q] ∧ Blk w q 9 [strv n] ∧ T q = .bx
structure DiskOk (T : Tags) (M : DiskM) : Prop where
  room0 : 0 ≤ M.room
  room1 : M.room ≤ 1099511627776
  now : ∀ f, T f = .fl → (M.file f).now.length ≤ 1099511627776
  wl : ∀ f, T f = .fl → (M.file f).loose.length ≤ M.writes
  ac : M.loose.length ≤ M.acts
  wr : M.writes ≤ M.acts
  used : usedM M ≤ 1152921504606846976
  strike : M.strike < 9223372036854775808
  inj : (M.names.map (·.2)).Nodup
def dcells (M : DiskM) (nb lb : Nat) (ad : Option Addr) (ac : Nat) : List Value :=
  [.int .i64 M.room, .map (some nb), .map (some lb), .slice ad M.loose.length ac, .int .i64 M.writes, .int .i64 M.acts, .int .i64 M.strike, .int .i64 M.fault, .bool M.dead]
def Dst (w : World) : Prop := ∃ m : Int, w.cell? ⟨3, 0, none⟩ = some (.int .i64 m)
theorem Dst.chg {w w' : World} {D : Nat → Prop} (h : Dst w) (k : Chg D w w') (h0 : ¬ D 3) : Dst w' := by
  obtain ⟨m, h⟩ := h
  refine ⟨m, ?_⟩
  have hb := World.block_lt_of_cell? _ _ h
  rw [World.cell?_of_block (w := w) (k.block _ hb h0)]; exact h
theorem Dst.chg0 {w w' : World} (h : Dst w) (k : Chg None w w') : Dst w' := h.chg k fun h => h
theorem Dst.lt {w : World} (h : Dst w) : 3 < w.heap.size := by
  obtain ⟨m, h⟩ := h
  exact World.block_lt_of_cell? _ _ h
structure DiskV (w : World) (T : Tags) (d : Nat) (M : DiskM) (nb lb : Nat) (ad : Option Addr) (ac : Nat) (xs : List (ActM × Value)) : Prop where
  size : ∀ k, T k ≠ .free → k < w.heap.size
  zero : T 3 = .free
  std : Dst w
  tag : T d = .dk
  blk : Blk w d 119 (dcells M nb lb ad ac)
  nmT : T nb = .nm
  nm : HMap w strv nb (ptrs M.names)
  laT : T lb = .la
  la : HMap w strv lb (ptrs M.lasting)
  acO : Own w 133 1 ad M.loose.length ac (xs.map (·.2))
  acT : ∀ k, At ad k → T k = .ac
  xsm : xs.map (·.1) = M.loose
  acts : ∀ x ∈ xs, ActAt w T x.1 x.2
  file : ∀ f, T f = .fl → FileAt w T f (M.file f)
  nmF : ∀ x ∈ M.names, T x.2 = .fl
  laF : ∀ x ∈ M.lasting, T x.2 = .fl
  ok : DiskOk T M
def DiskAt (w : World) (T : Tags) (d : Nat) (M : DiskM) : Prop := ∃ nb lb ad ac xs, DiskV w T d M nb lb ad ac xs
section
variable {w w' : World} {T T' : Tags} {D : Nat → Prop}
theorem DiskAt.dst {d : Nat} {M : DiskM} (h : DiskAt w T d M) : Dst w := by
  obtain ⟨nb, lb, ad, ac, xs, h⟩ := h
  exact h.std
theorem FileV.chg {f : Nat} {F : FileM} {na la wa : Option Addr} {nc lc wc : Nat} {xs : List (WrM × Option Addr × Nat)} (h : FileV w T f F na nc la lc wa wc xs) (k : Chg D w w') (hT : Ext T T') (h0 : ¬ D f) (h1 : ∀ k, T k = .nw f → ¬ D k) (h2 : ∀ k, T k = .wl f → ¬ D k) (h3 : ∀ k, T k = .dt → ¬ D k) : FileV w' T' f F na nc la lc wa wc xs where
  blk := h.blk.chg k h0
  now := h.now.chg k fun x hx => h1 x (h.nowT x hx)
  nowT x hx := hT.at (h.nowT x hx) (by simp)
  lasts := (h.lasts.chg k fun x _ hx => h3 x hx).mono fun x hx => hT.at hx (by simp)
  lastsC := h.lastsC
  wr := h.wr.chg k fun x hx => h2 x (h.wrT x hx)
  wrT x hx := hT.at (h.wrT x hx) (by simp)
  xsm := h.xsm
  dat x hx := ⟨((h.dat x hx).1.chg k fun x _ hx => h3 x hx).mono fun x hx => hT.at hx (by simp), (h.dat x hx).2⟩
theorem FileAt.chg {f : Nat} {F : FileM} (h : FileAt w T f F) (k : Chg D w w') (hT : Ext T T') (h0 : ¬ D f) (h1 : ∀ k, T k = .nw f → ¬ D k) (h2 : ∀ k, T k = .wl f → ¬ D k) (h3 : ∀ k, T k = .dt → ¬ D k) : FileAt w' T' f F := by
  obtain ⟨na, nc, la, lc, wa, wc, xs, h⟩ := h
  exact ⟨na, nc, la, lc, wa, wc, xs, h.chg k hT h0 h1 h2 h3⟩
theorem ActAt.chg {a : ActM} {v : Value} (h : ActAt w T a v) (k : Chg D w w') (hT : Ext T T') (h1 : ∀ k, T k = .bx → ¬ D k) : ActAt w' T' a v := by
  cases a with
  | create n f => obtain ⟨p, q, e, b1, t1, b2, t2, t3⟩ := h; exact ⟨p, q, e, b1.chg k (h1 p t1), hT.at t1 (by simp), b2.chg k (h1 q t2), hT.at t2 (by simp), hT.at t3 (by simp)⟩
  | rename a b => obtain ⟨p, q, e, b1, t1, b2, t2⟩ := h; exact ⟨p, q, e, b1.chg k (h1 p t1), hT.at t1 (by simp), b2.chg k (h1 q t2), hT.at t2 (by simp)⟩
  | remove n => obtain ⟨q, e, b2, t2⟩ := h; exact ⟨q, e, b2.chg k (h1 q t2), hT.at t2 (by simp)⟩
theorem DiskV.chg {d : Nat} {M : DiskM} {nb lb : Nat} {ad : Option Addr} {ac : Nat} {xs : List (ActM × Value)} (h : DiskV w T d M nb lb ad ac xs) (k : Chg D w w') (h0 : ¬ D 3) (hd : ∀ k, T k ≠ .free → ¬ D k) : DiskV w' T d M nb lb ad ac xs where
  size x hx := Nat.lt_of_lt_of_le (h.size x hx) k.size
  zero := h.zero
  std := h.std.chg k h0
  tag := h.tag
  blk := h.blk.chg k (hd _ (by rw [h.tag]; simp))
  nmT := h.nmT
  nm := h.nm.chg k (hd _ (by rw [h.nmT]; simp))
  laT := h.laT
  la := h.la.chg k (hd _ (by rw [h.laT]; simp))
  acO := h.acO.chg k fun x hx => hd x (by rw [h.acT x hx]; simp)
  acT := h.acT
  xsm := h.xsm
  acts x hx := (h.acts x hx).chg k (Ext.refl T) fun y hy => hd y (by rw [hy]; simp)
  file f hf := (h.file f hf).chg k (Ext.refl T) (hd f (by rw [hf]; simp)) (fun y hy => hd y (by rw [hy]; simp)) (fun y hy => hd y (by rw [hy]; simp)) (fun y hy => hd y (by rw [hy]; simp))
  nmF := h.nmF
  laF := h.laF
  ok := h.ok
theorem DiskAt.chg {d : Nat} {M : DiskM} (h : DiskAt w T d M) (k : Chg D w w') (h0 : ¬ D 3) (hd : ∀ k, T k ≠ .free → ¬ D k) : DiskAt w' T d M := by
  obtain ⟨nb, lb, ad, ac, xs, h⟩ := h
  exact ⟨nb, lb, ad, ac, xs, h.chg k h0 hd⟩
theorem DiskAt.chg0 {d : Nat} {M : DiskM} (h : DiskAt w T d M) (k : Chg None w w') : DiskAt w' T d M := h.chg k (fun h => h) fun _ _ h => h
theorem DiskV.chg0 {d : Nat} {M : DiskM} {nb lb : Nat} {ad : Option Addr} {ac : Nat} {xs : List (ActM × Value)} (h : DiskV w T d M nb lb ad ac xs) (k : Chg None w w') : DiskV w' T d M nb lb ad ac xs := h.chg k (fun h => h) fun _ _ h => h
theorem DiskV.cells {d : Nat} {M M' : DiskM} {nb lb : Nat} {ad : Option Addr} {ac : Nat} {xs : List (ActM × Value)} (h : DiskV w T d M nb lb ad ac xs) (k : Chg (fun k => k = d) w w') (hb : Blk w' d 119 (dcells M' nb lb ad ac)) (e1 : M'.names = M.names) (e2 : M'.lasting = M.lasting) (e3 : M'.loose = M.loose) (e4 : M'.file = M.file) (ok : DiskOk T M') : DiskV w' T d M' nb lb ad ac xs := by
  have nd : ∀ x t, T x = t → t ≠ .dk → x ≠ d := fun x t hx ht e => by subst e; exact ht (hx.symm.trans h.tag)
  exact {
    size := fun x hx => Nat.lt_of_lt_of_le (h.size x hx) k.size
    zero := h.zero
    std := h.std.chg k (nd 3 _ h.zero (by simp))
    tag := h.tag
    blk := hb
    nmT := h.nmT
    nm := by rw [e1]; exact h.nm.chg k (nd _ _ h.nmT (by simp))
    laT := h.laT
    la := by rw [e2]; exact h.la.chg k (nd _ _ h.laT (by simp))
    acO := by rw [e3]; exact h.acO.chg k fun x hx => nd x _ (h.acT x hx) (by simp)
    acT := h.acT
    xsm := by rw [e3]; exact h.xsm
    acts := fun x hx => (h.acts x hx).chg k (Ext.refl T) fun y hy => nd y _ hy (by simp)
    file := fun f hf => by rw [e4]; exact (h.file f hf).chg k (Ext.refl T) (nd f _ hf (by simp)) (fun y hy => nd y _ hy (by simp)) (fun y hy => nd y _ hy (by simp)) (fun y hy => nd y _ hy (by simp))
    nmF := by rw [e1]; exact h.nmF
    laF := by rw [e2]; exact h.laF
    ok := ok }
theorem look_ptrs (n : Str) : ∀ m : Names, Go.Sh.look n (ptrs m) = (Go.Sh.look n m).map ptr
  | [] => rfl
  | x :: m => by
    show (if x.1 = n then some (ptr x.2) else Go.Sh.look n (ptrs m)) = (if x.1 = n then some x.2 else Go.Sh.look n m).map ptr
    split
    · rfl
    · exact look_ptrs n m
theorem put_ptrs (n : Str) (f : Nat) : ∀ m : Names, Go.Sh.put n (ptr f) (ptrs m) = ptrs (Go.Sh.put n f m)
  | [] => rfl
  | x :: m => by
    show (if x.1 = n then (n, ptr f) :: ptrs m else (x.1, ptr x.2) :: Go.Sh.put n (ptr f) (ptrs m)) = ptrs (if x.1 = n then (n, f) :: m else x :: Go.Sh.put n f m)
    split
    · rfl
    · rw [put_ptrs n f m]; rfl
theorem del_ptrs (n : Str) : ∀ m : Names, Go.Sh.del n (ptrs m) = ptrs (Go.Sh.del n m)
  | [] => rfl
  | x :: m => by
    show (if x.1 = n then ptrs m else (x.1, ptr x.2) :: Go.Sh.del n (ptrs m)) = ptrs (if x.1 = n then m else x :: Go.Sh.del n m)
    split
    · rfl
    · rw [del_ptrs n m]; rfl
end
end Go.Proofs.YtcigjlbpdkkflaaGreatDoor
namespace Go.Proofs
open Go.Shelf
def YtcigjlbpdkkflaaGreatDoor.lays99_ren : Go.Shelf.Ren := ⟨fun | 99 => 92 | 206 => 142 | n => n, fun | 9 => 9 | 4 => 4 | 3 => 3 | n => n, fun | n => n⟩
theorem YtcigjlbpdkkflaaGreatDoor.lays99 : Go.Proofs.Lays.n99 Tryz.prog YtcigjlbpdkkflaaGreatDoor.lays99_ren := {
  mixed := by kernel_rfl
  f99 := Tryz.func92.trans (congrArg some (by kernel_rfl))
  f206 := Tryz.func142.trans (congrArg some (by kernel_rfl))
  t3 := Tryz.underlying3
  a3 := Tryz.isAgg3
  z3 := Tryz.sizeOf3
  v3 := Tryz.zeroValue3
  t4 := Tryz.underlying4
  a4 := Tryz.isAgg4
  z4 := Tryz.sizeOf4
  v4 := Tryz.zeroValue4
  t9 := Tryz.underlying9
  a9 := Tryz.isAgg9
  z9 := Tryz.sizeOf9
  v9 := Tryz.zeroValue9 }
open Go.RowKit Go.Lib in
theorem YtcigjlbpdkkflaaGreatDoor.strings_HasPrefix (s p : ByteArray) (w : World) :
    Calls Tryz.prog 92 #[.string s, .string p] w fun e w' => e = .returned (.bool (Lib.hasPrefix s.data.toList p.data.toList)) ∧ w' = w := Any.strings_HasPrefix YtcigjlbpdkkflaaGreatDoor.lays99 s p w
def YtcigjlbpdkkflaaGreatDoor.lays146_ren : Go.Shelf.Ren := ⟨fun | 146 => 98 | 221 => 148 | 268 => 192 | 138 => 193 | 143 => 194 | 195 => 229 | 197 => 199 | 218 => 230 | 219 => 231 | 260 => 234 | 217 => 249 | 225 => 250 | 224 => 251 | 267 => 252 | 266 => 258 | 314 => 259 | n => n, fun | 9 => 9 | 31 => 100 | 3 => 3 | 4 => 4 | 0 => 0 | 105 => 251 | 21 => 21 | 5 => 5 | 46 => 137 | 119 => 298 | 139 => 301 | 138 => 300 | 146 => 304 | 51 => 243 | n => n, fun | 1 => 3 | 3 => 4 | 4 => 5 | n => n⟩
theorem YtcigjlbpdkkflaaGreatDoor.lays146 : Go.Proofs.Lays.n146 Tryz.prog YtcigjlbpdkkflaaGreatDoor.lays146_ren := {
  mixed := by kernel_rfl
  f138 := Tryz.func193.trans (congrArg some (by kernel_rfl))
  f143 := Tryz.func194.trans (congrArg some (by kernel_rfl))
  f146 := Tryz.func98.trans (congrArg some (by kernel_rfl))
  f195 := Tryz.func229.trans (congrArg some (by kernel_rfl))
  f197 := Tryz.func199.trans (congrArg some (by kernel_rfl))
  f217 := Tryz.func249.trans (congrArg some (by kernel_rfl))
  f218 := Tryz.func230.trans (congrArg some (by kernel_rfl))
  f219 := Tryz.func231.trans (congrArg some (by kernel_rfl))
  f221 := Tryz.func148.trans (congrArg some (by kernel_rfl))
  f224 := Tryz.func251.trans (congrArg some (by kernel_rfl))
  f225 := Tryz.func250.trans (congrArg some (by kernel_rfl))
  f260 := Tryz.func234.trans (congrArg some (by kernel_rfl))
  f266 := Tryz.func258.trans (congrArg some (by kernel_rfl))
  f267 := Tryz.func252.trans (congrArg some (by kernel_rfl))
  f268 := Tryz.func192.trans (congrArg some (by kernel_rfl))
  f314 := Tryz.func259.trans (congrArg some (by kernel_rfl))
  t0 := Tryz.underlying0
  a0 := Tryz.isAgg0
  z0 := Tryz.sizeOf0
  v0 := Tryz.zeroValue0
  t3 := Tryz.underlying3
  a3 := Tryz.isAgg3
  z3 := Tryz.sizeOf3
  v3 := Tryz.zeroValue3
  t4 := Tryz.underlying4
  a4 := Tryz.isAgg4
  z4 := Tryz.sizeOf4
  v4 := Tryz.zeroValue4
  t5 := Tryz.underlying5
  a5 := Tryz.isAgg5
  z5 := Tryz.sizeOf5
  v5 := Tryz.zeroValue5
  t9 := Tryz.underlying9
  a9 := Tryz.isAgg9
  z9 := Tryz.sizeOf9
  v9 := Tryz.zeroValue9
  t21 := Tryz.underlying21
  a21 := Tryz.isAgg21
  z21 := Tryz.sizeOf21
  v21 := Tryz.zeroValue21
  t31 := Tryz.underlying100
  a31 := Tryz.isAgg100
  z31 := Tryz.sizeOf100
  v31 := Tryz.zeroValue100
  t46 := Tryz.underlying137
  a46 := Tryz.isAgg137
  z46 := Tryz.sizeOf137
  v46 := Tryz.zeroValue137
  t51 := Tryz.underlying243
  a51 := Tryz.isAgg243
  z51 := Tryz.sizeOf243
  v51 := Tryz.zeroValue243
  t105 := Tryz.underlying251
  a105 := Tryz.isAgg251
  z105 := Tryz.sizeOf251
  v105 := Tryz.zeroValue251
  t119 := Tryz.underlying298
  a119 := Tryz.isAgg298
  z119 := Tryz.sizeOf298
  t138 := Tryz.underlying300
  a138 := Tryz.isAgg300
  z138 := Tryz.sizeOf300
  v138 := Tryz.zeroValue300
  t139 := Tryz.underlying301
  a139 := Tryz.isAgg301
  z139 := Tryz.sizeOf301
  v139 := Tryz.zeroValue301
  t146 := Tryz.underlying304
  a146 := Tryz.isAgg304
  z146 := Tryz.sizeOf304
  v146 := Tryz.zeroValue304
  g1 := by kernel_rfl
  g3 := by kernel_rfl
  g4 := by kernel_rfl }
open Go.RowKit Go.Lib in
theorem YtcigjlbpdkkflaaGreatDoor.strings_Split (s sep : ByteArray) (m : Int) (w : World) (hs : s.size < 4294967281) (hm : w.cell? ⟨3, 0, none⟩ = some (.int .i64 m)) (h1 : 1 ≤ sep.size) :
    Calls Tryz.prog 98 #[.string s, .string sep] w fun e w' =>
      e = .returned (.slice (some ⟨w.heap.size, 0, none⟩) (Lib.countB s sep + 1) (Lib.countB s sep + 1)) ∧ w' = w.alloc (.cells ((Lib.splitB sep 0 (Lib.countB s sep) s).map Value.string).toArray 9) := Any.strings_Split YtcigjlbpdkkflaaGreatDoor.lays146 (by kernel_rfl) s sep m w hs hm h1
end Go.Proofs
set_option maxRecDepth 100000
namespace Go.Proofs.YtcigjlbpdkkflaaGreatDoor
open Go.Sh
noncomputable def B_l16_CacheRoom : Code := match Tryz.f4.body with | some c => c | _ => .skip
noncomputable def X_l16_CacheRoom : Cx := { P := PP, fn := 4, N := 139, tab := tab, results := [.tmp 2], iter := fun _ => (.none, .none), dyn := fun _ => false, live := fun r => cond (Nat.beq r 7) (some [1, 3, 4, 5, 7, 8]) (cond (Nat.beq r 15) (some []) (cond (Nat.beq r 16) (some [1, 3, 4, 5, 7, 8, 9]) (cond (Nat.beq r 17) (some [1, 3, 4, 5, 7, 8, 9, 13]) (cond (Nat.beq r 18) (some []) (cond (Nat.beq r 19) (some [1, 3, 4, 5, 7, 8, 9]) (cond (Nat.beq r 20) (some [1, 3, 4, 5, 7, 8]) (cond (Nat.beq r 21) (some [1, 3, 4, 5, 7, 8, 14]) (cond (Nat.beq r 22) (some []) (cond (Nat.beq r 23) (some [1, 3, 4, 5, 7, 8, 14]) (cond (Nat.beq r 24) (some [1, 3, 4, 5, 7, 8, 14, 15]) (cond (Nat.beq r 28) (some [5]) (none)))))))))))) }
theorem K_l16_CacheRoom : OkF X_l16_CacheRoom B_l16_CacheRoom Tryz.f4 := ⟨⟨tab_ok, mix_ok⟩, Tryz.func4, by kernel_rfl, by kernel_rfl, by kernel_rfl, by kernel_rfl⟩
noncomputable def N_l16_CacheRoom.j7 (Q : Value → World → Prop) (s1 : Addr) (s3 : Int) (s4 : Option Addr) (s5 : Option Addr) (s7 : Option Addr) (s7n : Nat) (s7c : Nat) (s8 : Int) (w : World) : Prop := Nd X_l16_CacheRoom Q [(1, 1, .pointer (some s1)), (3, 3, .int .i64 s3), (4, 4, .pointer s4), (5, 5, .pointer s5), (7, 7, .slice s7 s7n s7c), (8, 8, .int .i64 s8)] [.code (B_l16_CacheRoom.r.r.r.r.r.l.r.l.l.l.l), .code (B_l16_CacheRoom.r.r.r.r.r.l.r.l.l.l.r), .code (B_l16_CacheRoom.r.r.r.r.r.l.r.l.l.r), .inLoop (B_l16_CacheRoom.r.r.r.r.r.l.r.l.l), .inBlock 0, .code (B_l16_CacheRoom.r.r.r.r.r.r)] w
noncomputable def N_l16_CacheRoom.j15 (Q : Value → World → Prop) (w : World) : Prop := Nd X_l16_CacheRoom Q [] [.code (B_l16_CacheRoom.r.r.r.r.r.l.r.l.l.r.l.l.r.l.r.l.r.r.r.r.l.l), .code (B_l16_CacheRoom.r.r.r.r.r.l.r.l.l.r.l.l.r.l.r.l.r.r.r.r.l.r), .code (B_l16_CacheRoom.r.r.r.r.r.l.r.l.l.r.l.l.r.r), .inBlock 1, .code (B_l16_CacheRoom.r.r.r.r.r.l.r.l.l.r.r), .inLoop (B_l16_CacheRoom.r.r.r.r.r.l.r.l.l), .inBlock 0, .code (B_l16_CacheRoom.r.r.r.r.r.r)] w
noncomputable def N_l16_CacheRoom.j16 (Q : Value → World → Prop) (s1 : Addr) (s3 : Int) (s4 : Option Addr) (s5 : Option Addr) (s7 : Option Addr) (s7n : Nat) (s7c : Nat) (s8 : Int) (s9 : Addr) (w : World) : Prop := Nd X_l16_CacheRoom Q [(1, 1, .pointer (some s1)), (3, 3, .int .i64 s3), (4, 4, .pointer s4), (5, 5, .pointer s5), (7, 7, .slice s7 s7n s7c), (8, 8, .int .i64 s8), (9, 9, .pointer (some s9))] [.code (B_l16_CacheRoom.r.r.r.r.r.l.r.l.l.r.l.l.r.l.r.r.l), .code (B_l16_CacheRoom.r.r.r.r.r.l.r.l.l.r.l.l.r.l.r.r.r), .code (B_l16_CacheRoom.r.r.r.r.r.l.r.l.l.r.l.l.r.r), .inBlock 1, .code (B_l16_CacheRoom.r.r.r.r.r.l.r.l.l.r.r), .inLoop (B_l16_CacheRoom.r.r.r.r.r.l.r.l.l), .inBlock 0, .code (B_l16_CacheRoom.r.r.r.r.r.r)] w
noncomputable def N_l16_CacheRoom.j17 (Q : Value → World → Prop) (s1 : Addr) (s3 : Int) (s4 : Option Addr) (s5 : Option Addr) (s7 : Option Addr) (s7n : Nat) (s7c : Nat) (s8 : Int) (s9 : Addr) (s13 : Int) (w : World) : Prop := Nd X_l16_CacheRoom Q [(1, 1, .pointer (some s1)), (3, 3, .int .i64 s3), (4, 4, .pointer s4), (5, 5, .pointer s5), (7, 7, .slice s7 s7n s7c), (8, 8, .int .i64 s8), (9, 9, .pointer (some s9)), (13, 13, .int .i64 s13)] [.code (B_l16_CacheRoom.r.r.r.r.r.l.r.l.l.r.l.l.r.l.r.r.r.l.l), .code (B_l16_CacheRoom.r.r.r.r.r.l.r.l.l.r.l.l.r.l.r.r.r.l.r), .code (B_l16_CacheRoom.r.r.r.r.r.l.r.l.l.r.l.l.r.l.r.r.r.r), .code (B_l16_CacheRoom.r.r.r.r.r.l.r.l.l.r.l.l.r.r), .inBlock 1, .code (B_l16_CacheRoom.r.r.r.r.r.l.r.l.l.r.r), .inLoop (B_l16_CacheRoom.r.r.r.r.r.l.r.l.l), .inBlock 0, .code (B_l16_CacheRoom.r.r.r.r.r.r)] w
noncomputable def N_l16_CacheRoom.j18 (Q : Value → World → Prop) (w : World) : Prop := Nd X_l16_CacheRoom Q [] [.code (B_l16_CacheRoom.r.r.r.r.r.l.r.l.l.r.l.l.r.l.r.r.r.l.r.l.l), .code (B_l16_CacheRoom.r.r.r.r.r.l.r.l.l.r.l.l.r.l.r.r.r.l.r.l.r), .code (B_l16_CacheRoom.r.r.r.r.r.l.r.l.l.r.l.l.r.l.r.r.r.r), .code (B_l16_CacheRoom.r.r.r.r.r.l.r.l.l.r.l.l.r.r), .inBlock 1, .code (B_l16_CacheRoom.r.r.r.r.r.l.r.l.l.r.r), .inLoop (B_l16_CacheRoom.r.r.r.r.r.l.r.l.l), .inBlock 0, .code (B_l16_CacheRoom.r.r.r.r.r.r)] w
noncomputable def N_l16_CacheRoom.j19 (Q : Value → World → Prop) (s1 : Addr) (s3 : Int) (s4 : Option Addr) (s5 : Option Addr) (s7 : Option Addr) (s7n : Nat) (s7c : Nat) (s8 : Int) (s9 : Addr) (w : World) : Prop := Nd X_l16_CacheRoom Q [(1, 1, .pointer (some s1)), (3, 3, .int .i64 s3), (4, 4, .pointer s4), (5, 5, .pointer s5), (7, 7, .slice s7 s7n s7c), (8, 8, .int .i64 s8), (9, 9, .pointer (some s9))] [.code (B_l16_CacheRoom.r.r.r.r.r.l.r.l.l.r.l.l.r.l.r.r.r.r), .code (B_l16_CacheRoom.r.r.r.r.r.l.r.l.l.r.l.l.r.r), .inBlock 1, .code (B_l16_CacheRoom.r.r.r.r.r.l.r.l.l.r.r), .inLoop (B_l16_CacheRoom.r.r.r.r.r.l.r.l.l), .inBlock 0, .code (B_l16_CacheRoom.r.r.r.r.r.r)] w
noncomputable def N_l16_CacheRoom.j20 (Q : Value → World → Prop) (s1 : Addr) (s3 : Int) (s4 : Option Addr) (s5 : Option Addr) (s7 : Option Addr) (s7n : Nat) (s7c : Nat) (s8 : Int) (w : World) : Prop := Nd X_l16_CacheRoom Q [(1, 1, .pointer (some s1)), (3, 3, .int .i64 s3), (4, 4, .pointer s4), (5, 5, .pointer s5), (7, 7, .slice s7 s7n s7c), (8, 8, .int .i64 s8)] [.code (B_l16_CacheRoom.r.r.r.r.r.l.r.l.l.r.l.l.r.r.l), .code (B_l16_CacheRoom.r.r.r.r.r.l.r.l.l.r.l.l.r.r.r), .inBlock 1, .code (B_l16_CacheRoom.r.r.r.r.r.l.r.l.l.r.r), .inLoop (B_l16_CacheRoom.r.r.r.r.r.l.r.l.l), .inBlock 0, .code (B_l16_CacheRoom.r.r.r.r.r.r)] w
noncomputable def N_l16_CacheRoom.j21 (Q : Value → World → Prop) (s1 : Addr) (s3 : Int) (s4 : Option Addr) (s5 : Option Addr) (s7 : Option Addr) (s7n : Nat) (s7c : Nat) (s8 : Int) (s14 : Option Addr) (s14n : Nat) (s14c : Nat) (w : World) : Prop := Nd X_l16_CacheRoom Q [(1, 1, .pointer (some s1)), (3, 3, .int .i64 s3), (4, 4, .pointer s4), (5, 5, .pointer s5), (7, 7, .slice s7 s7n s7c), (8, 8, .int .i64 s8), (14, 14, .slice s14 s14n s14c)] [.code (B_l16_CacheRoom.r.r.r.r.r.l.r.l.l.r.l.l.r.r.r.l.l), .code (B_l16_CacheRoom.r.r.r.r.r.l.r.l.l.r.l.l.r.r.r.l.r), .code (B_l16_CacheRoom.r.r.r.r.r.l.r.l.l.r.l.l.r.r.r.r), .inBlock 1, .code (B_l16_CacheRoom.r.r.r.r.r.l.r.l.l.r.r), .inLoop (B_l16_CacheRoom.r.r.r.r.r.l.r.l.l), .inBlock 0, .code (B_l16_CacheRoom.r.r.r.r.r.r)] w
noncomputable def N_l16_CacheRoom.j22 (Q : Value → World → Prop) (w : World) : Prop := Nd X_l16_CacheRoom Q [] [.code (B_l16_CacheRoom.r.r.r.r.r.l.r.l.l.r.l.l.r.r.r.l.r.l.l), .code (B_l16_CacheRoom.r.r.r.r.r.l.r.l.l.r.l.l.r.r.r.l.r.l.r), .code (B_l16_CacheRoom.r.r.r.r.r.l.r.l.l.r.l.l.r.r.r.r), .inBlock 1, .code (B_l16_CacheRoom.r.r.r.r.r.l.r.l.l.r.r), .inLoop (B_l16_CacheRoom.r.r.r.r.r.l.r.l.l), .inBlock 0, .code (B_l16_CacheRoom.r.r.r.r.r.r)] w
noncomputable def N_l16_CacheRoom.j23 (Q : Value → World → Prop) (s1 : Addr) (s3 : Int) (s4 : Option Addr) (s5 : Option Addr) (s7 : Option Addr) (s7n : Nat) (s7c : Nat) (s8 : Int) (s14 : Option Addr) (s14n : Nat) (s14c : Nat) (w : World) : Prop := Nd X_l16_CacheRoom Q [(1, 1, .pointer (some s1)), (3, 3, .int .i64 s3), (4, 4, .pointer s4), (5, 5, .pointer s5), (7, 7, .slice s7 s7n s7c), (8, 8, .int .i64 s8), (14, 14, .slice s14 s14n s14c)] [.code (B_l16_CacheRoom.r.r.r.r.r.l.r.l.l.r.l.l.r.r.r.r.l), .code (B_l16_CacheRoom.r.r.r.r.r.l.r.l.l.r.l.l.r.r.r.r.r), .inBlock 1, .code (B_l16_CacheRoom.r.r.r.r.r.l.r.l.l.r.r), .inLoop (B_l16_CacheRoom.r.r.r.r.r.l.r.l.l), .inBlock 0, .code (B_l16_CacheRoom.r.r.r.r.r.r)] w
noncomputable def N_l16_CacheRoom.j24 (Q : Value → World → Prop) (s1 : Addr) (s3 : Int) (s4 : Option Addr) (s5 : Option Addr) (s7 : Option Addr) (s7n : Nat) (s7c : Nat) (s8 : Int) (s14 : Option Addr) (s14n : Nat) (s14c : Nat) (s15 : Int) (w : World) : Prop := Nd X_l16_CacheRoom Q [(1, 1, .pointer (some s1)), (3, 3, .int .i64 s3), (4, 4, .pointer s4), (5, 5, .pointer s5), (7, 7, .slice s7 s7n s7c), (8, 8, .int .i64 s8), (14, 14, .slice s14 s14n s14c), (15, 15, .int .i64 s15)] [.code (B_l16_CacheRoom.r.r.r.r.r.l.r.l.l.r.l.l.r.r.r.r.r.l.l.l.l), .code (B_l16_CacheRoom.r.r.r.r.r.l.r.l.l.r.l.l.r.r.r.r.r.l.l.l.r), .code (B_l16_CacheRoom.r.r.r.r.r.l.r.l.l.r.l.l.r.r.r.r.r.l.l.r), .inLoop (B_l16_CacheRoom.r.r.r.r.r.l.r.l.l.r.l.l.r.r.r.r.r.l.l), .inBlock 2, .inBlock 1, .code (B_l16_CacheRoom.r.r.r.r.r.l.r.l.l.r.r), .inLoop (B_l16_CacheRoom.r.r.r.r.r.l.r.l.l), .inBlock 0, .code (B_l16_CacheRoom.r.r.r.r.r.r)] w
noncomputable def N_l16_CacheRoom.j28 (Q : Value → World → Prop) (s5 : Option Addr) (w : World) : Prop := Nd X_l16_CacheRoom Q [(5, 5, .pointer s5)] [.code (B_l16_CacheRoom.r.r.r.r.r.r.l), .code (B_l16_CacheRoom.r.r.r.r.r.r.r)] w
theorem N_l16_CacheRoom.j7_eq (Q : Value → World → Prop) (s1 : Addr) (s3 : Int) (s4 : Option Addr) (s5 : Option Addr) (s7 : Option Addr) (s7n : Nat) (s7c : Nat) (s8 : Int) (w : World) (h :
  opnL (w.cell? (s1.add 0)) fun x1 x1n x1c =>
  cond (decide (s8 < ((x1n : Nat) : Int)))
  (cond (decide (s8 < 60))
  (opnL (w.cell? (s1.add 0)) fun x2 x2n x2c =>
  (0 : Int) ≤ s8 ∧
  s8 < ((x2n : Nat) : Int) ∧
  opnA x2 fun ad3 =>
  opnI .i64 (w.cell? (ad3.add (Int.toNat s8 * 1))) fun x4 =>
  C_l16_tileOf #[.int .i64 x4] w fun v5 w6 =>
  opnG (some v5) fun x7 =>
  x7.size = 5 ∧
  opnI .i64 (x7[0]?) fun x8 =>
  opnI .i64 (x7[1]?) fun x9 =>
  opnI .i64 (x7[2]?) fun x10 =>
  opnI .i64 (x7[3]?) fun x11 =>
  opnB (x7[4]?) fun x12 =>
  alC #[.int .i64 0, .int .i64 0, .int .i64 0, .int .i64 0, .bool false] 41 w6 fun p13 w14 =>
  Array.size (#[.int .i64 x8, .int .i64 x9, .int .i64 x10, .int .i64 x11, .bool x12] : Array Value) = 5 ∧
  stC (p13.add 0) (.int .i64 x8) w14 fun w15 =>
  stC (p13.add 1) (.int .i64 x9) w15 fun w16 =>
  stC (p13.add 2) (.int .i64 x10) w16 fun w17 =>
  stC (p13.add 3) (.int .i64 x11) w17 fun w18 =>
  stC (p13.add 4) (.bool x12) w18 fun w19 =>
  opnL (w19.cell? (s1.add 2)) fun x20 x20n x20c =>
  cond (decide (s8 < ((x20n : Nat) : Int)))
  (opnL (w19.cell? (s1.add 2)) fun x21 x21n x21c =>
  (0 : Int) ≤ s8 ∧
  s8 < ((x21n : Nat) : Int) ∧
  opnA x21 fun ad22 =>
  opnI .i64 (w19.cell? (ad22.add (Int.toNat s8 * 1))) fun x23 =>
  4 ≠ (0 : Int) ∧
  cond ((Int.tmod x23 4) == 0)
  (opnI .i64 (w19.cell? (p13.add 0)) fun x24 =>
  opnI .i64 (w19.cell? (p13.add 1)) fun x25 =>
  opnI .i64 (w19.cell? (p13.add 2)) fun x26 =>
  opnI .i64 (w19.cell? (p13.add 3)) fun x27 =>
  opnB (w19.cell? (p13.add 4)) fun x28 =>
  C_p_cache_Cache_Tile #[.pointer s5, .agg #[.int .i64 x24, .int .i64 x25, .int .i64 x26, .int .i64 x27, .bool x28]] w19 fun v29 w30 =>
  opnT (some v29) fun x31 =>
  x31.size = 2 ∧
  opnL (x31[0]?) fun x32 x32n x32c =>
  opnI .i64 (x31[1]?) fun x33 =>
  opnI .i64 (w30.cell? (p13.add 0)) fun x34 =>
  opnI .i64 (w30.cell? (p13.add 1)) fun x35 =>
  opnI .i64 (w30.cell? (p13.add 2)) fun x36 =>
  opnI .i64 (w30.cell? (p13.add 3)) fun x37 =>
  opnB (w30.cell? (p13.add 4)) fun x38 =>
  C_l16_asked #[.slice s7 s7n s7c, .agg #[.int .i64 x34, .int .i64 x35, .int .i64 x36, .int .i64 x37, .bool x38]] w30 fun v39 w40 =>
  opnT (some v39) fun x41 =>
  x41.size = 2 ∧
  opnL (x41[0]?) fun x42 x42n x42c =>
  opnB (x41[1]?) fun x43 =>
  C_l16_num #[.int .i64 x33] w40 fun v44 w45 =>
  opnI .i64 (some v44) fun x46 =>
  cond (!((x46 == 0) == x43))
  (N_l16_CacheRoom.j15 Q w45)
  (cond (!x43)
  (C_l16_num #[.int .i64 x33] w45 fun v47 w48 =>
  opnI .i64 (some v47) fun x49 =>
  cond (x49 != 161)
  (N_l16_CacheRoom.j15 Q w48)
  (N_l16_CacheRoom.j20 Q s1 s3 s4 s5 x42 x42n x42c s8 w48))
  (N_l16_CacheRoom.j20 Q s1 s3 s4 s5 x42 x42n x42c s8 w45)))
  (N_l16_CacheRoom.j16 Q s1 s3 s4 s5 s7 s7n s7c s8 p13 w19))
  (N_l16_CacheRoom.j16 Q s1 s3 s4 s5 s7 s7n s7c s8 p13 w19))
  (N_l16_CacheRoom.j28 Q s5 w))
  (N_l16_CacheRoom.j28 Q s5 w)) :
N_l16_CacheRoom.j7 Q s1 s3 s4 s5 s7 s7n s7c s8 w := Nd_fold K_l16_CacheRoom (by kernel_rfl) h
theorem N_l16_CacheRoom.j15_eq (Q : Value → World → Prop) (w : World) (h :
  Q (.bool false) w) :
N_l16_CacheRoom.j15 Q w := Nd_fold K_l16_CacheRoom (by kernel_rfl) h
theorem N_l16_CacheRoom.j16_eq (Q : Value → World → Prop) (s1 : Addr) (s3 : Int) (s4 : Option Addr) (s5 : Option Addr) (s7 : Option Addr) (s7n : Nat) (s7c : Nat) (s8 : Int) (s9 : Addr) (w : World) (h :
  drw w fun w1 =>
  opnI .i64 (w1.cell? (s9.add 0)) fun x2 =>
  opnI .i64 (w1.cell? (s9.add 1)) fun x3 =>
  opnI .i64 (w1.cell? (s9.add 2)) fun x4 =>
  opnI .i64 (w1.cell? (s9.add 3)) fun x5 =>
  opnB (w1.cell? (s9.add 4)) fun x6 =>
  opnI .i64 (w1.cell? (s9.add 0)) fun x7 =>
  opnI .i64 (w1.cell? (s9.add 1)) fun x8 =>
  opnI .i64 (w1.cell? (s9.add 2)) fun x9 =>
  opnI .i64 (w1.cell? (s9.add 3)) fun x10 =>
  opnB (w1.cell? (s9.add 4)) fun x11 =>
  C_l16_bytesOf #[.agg #[.int .i64 x7, .int .i64 x8, .int .i64 x9, .int .i64 x10, .bool x11], .int .i64 s8] w1 fun v12 w13 =>
  opnL (some v12) fun x14 x14n x14c =>
  (opnI .i64 (w13.cell? (s9.add 0)) fun x15 =>
  opnI .i64 (w13.cell? (s9.add 1)) fun x16 =>
  opnI .i64 (w13.cell? (s9.add 2)) fun x17 =>
  opnI .i64 (w13.cell? (s9.add 3)) fun x18 =>
  opnB (w13.cell? (s9.add 4)) fun x19 =>
  ((.agg #[.int .i64 x15, .int .i64 x16, .int .i64 x17, .int .i64 x18, .bool x19]) : Value) = .agg #[.int .i64 x2, .int .i64 x3, .int .i64 x4, .int .i64 x5, .bool x6]) ∧
  C_p_cache_Cache_Put #[.pointer s5, .agg #[.int .i64 x2, .int .i64 x3, .int .i64 x4, .int .i64 x5, .bool x6], .slice x14 x14n x14c] w13 fun v20 w21 =>
  opnI .i64 (some v20) fun x22 =>
  N_l16_CacheRoom.j17 Q s1 s3 s4 s5 s7 s7n s7c s8 s9 x22 w21) :
N_l16_CacheRoom.j16 Q s1 s3 s4 s5 s7 s7n s7c s8 s9 w := Nd_fold K_l16_CacheRoom (by kernel_rfl) h
theorem N_l16_CacheRoom.j17_eq (Q : Value → World → Prop) (s1 : Addr) (s3 : Int) (s4 : Option Addr) (s5 : Option Addr) (s7 : Option Addr) (s7n : Nat) (s7c : Nat) (s8 : Int) (s9 : Addr) (s13 : Int) (w : World) (h :
  C_l16_num #[.int .i64 s13] w fun v1 w2 =>
  opnI .i64 (some v1) fun x3 =>
  cond (x3 != 0)
  (N_l16_CacheRoom.j18 Q w2)
  (N_l16_CacheRoom.j19 Q s1 s3 s4 s5 s7 s7n s7c s8 s9 w2)) :
N_l16_CacheRoom.j17 Q s1 s3 s4 s5 s7 s7n s7c s8 s9 s13 w := Nd_fold K_l16_CacheRoom (by kernel_rfl) h
theorem N_l16_CacheRoom.j20_eq (Q : Value → World → Prop) (s1 : Addr) (s3 : Int) (s4 : Option Addr) (s5 : Option Addr) (s7 : Option Addr) (s7n : Nat) (s7c : Nat) (s8 : Int) (w : World) (h :
  C_p_cache_Cache_List #[.pointer s5] w fun v1 w2 =>
  opnL (some v1) fun x3 x3n x3c =>
  N_l16_CacheRoom.j21 Q s1 s3 s4 s5 s7 s7n s7c s8 x3 x3n x3c w2) :
N_l16_CacheRoom.j20 Q s1 s3 s4 s5 s7 s7n s7c s8 w := Nd_fold K_l16_CacheRoom (by kernel_rfl) h
theorem N_l16_CacheRoom.j21_eq (Q : Value → World → Prop) (s1 : Addr) (s3 : Int) (s4 : Option Addr) (s5 : Option Addr) (s7 : Option Addr) (s7n : Nat) (s7c : Nat) (s8 : Int) (s14 : Option Addr) (s14n : Nat) (s14c : Nat) (w : World) (h :
  cond (((s14n : Nat) : Int) != ((s7n : Nat) : Int))
  (N_l16_CacheRoom.j22 Q w)
  (cond (decide (((s14n : Nat) : Int) > s3))
  (N_l16_CacheRoom.j22 Q w)
  (C_p_disk_Disk_Files #[.pointer s4] w fun v1 w2 =>
  opnL (some v1) fun x3 x3n x3c =>
  cond (((x3n : Nat) : Int) != ((s7n : Nat) : Int))
  (N_l16_CacheRoom.j22 Q w2)
  (N_l16_CacheRoom.j23 Q s1 s3 s4 s5 s7 s7n s7c s8 s14 s14n s14c w2)))) :
N_l16_CacheRoom.j21 Q s1 s3 s4 s5 s7 s7n s7c s8 s14 s14n s14c w := Nd_fold K_l16_CacheRoom (by kernel_rfl) h
theorem N_l16_CacheRoom.j22_eq (Q : Value → World → Prop) (w : World) (h :
  Q (.bool false) w) :
N_l16_CacheRoom.j22 Q w := Nd_fold K_l16_CacheRoom (by kernel_rfl) h
theorem N_l16_CacheRoom.j24_eq (Q : Value → World → Prop) (s1 : Addr) (s3 : Int) (s4 : Option Addr) (s5 : Option Addr) (s7 : Option Addr) (s7n : Nat) (s7c : Nat) (s8 : Int) (s14 : Option Addr) (s14n : Nat) (s14c : Nat) (s15 : Int) (w : World) (h :
  cond (decide (s15 < ((s7n : Nat) : Int)))
  (drw w fun w1 =>
  (0 : Int) ≤ s15 ∧
  s15 < ((s14n : Nat) : Int) ∧
  opnA s14 fun ad2 =>
  (0 : Int) ≤ s15 ∧
  s15 < ((s7n : Nat) : Int) ∧
  opnA s7 fun ad3 =>
  opnI .i64 (w1.cell? ((ad2.add (Int.toNat s15 * 5)).add 0)) fun x4 =>
  opnI .i64 (w1.cell? ((ad2.add (Int.toNat s15 * 5)).add 1)) fun x5 =>
  opnI .i64 (w1.cell? ((ad2.add (Int.toNat s15 * 5)).add 2)) fun x6 =>
  opnI .i64 (w1.cell? ((ad2.add (Int.toNat s15 * 5)).add 3)) fun x7 =>
  opnB (w1.cell? ((ad2.add (Int.toNat s15 * 5)).add 4)) fun x8 =>
  opnI .i64 (w1.cell? ((ad3.add (Int.toNat s15 * 5)).add 0)) fun x9 =>
  opnI .i64 (w1.cell? ((ad3.add (Int.toNat s15 * 5)).add 1)) fun x10 =>
  opnI .i64 (w1.cell? ((ad3.add (Int.toNat s15 * 5)).add 2)) fun x11 =>
  opnI .i64 (w1.cell? ((ad3.add (Int.toNat s15 * 5)).add 3)) fun x12 =>
  opnB (w1.cell? ((ad3.add (Int.toNat s15 * 5)).add 4)) fun x13 =>
  semR PP (do eqGuard .neq 41 (.tmp 127) (.tmp 131) (.agg #[.int .i64 x4, .int .i64 x5, .int .i64 x6, .int .i64 x7, .bool x8]) (.agg #[.int .i64 x9, .int .i64 x10, .int .i64 x11, .int .i64 x12, .bool x13]); binOp .neq 41 (.agg #[.int .i64 x4, .int .i64 x5, .int .i64 x6, .int .i64 x7, .bool x8]) (.agg #[.int .i64 x9, .int .i64 x10, .int .i64 x11, .int .i64 x12, .bool x13])) w1 fun x14 =>
  opnB (some x14) fun x15 =>
  cond x15
  (Q (.bool false) w1)
  (N_l16_CacheRoom.j24 Q s1 s3 s4 s5 s7 s7n s7c s8 s14 s14n s14c (IntKind.wrap .i64 (s15 + 1)) w1))
  (N_l16_CacheRoom.j7 Q s1 s3 s4 s5 s7 s7n s7c (IntKind.wrap .i64 (s8 + 1)) w)) :
N_l16_CacheRoom.j24 Q s1 s3 s4 s5 s7 s7n s7c s8 s14 s14n s14c s15 w := Nd_fold K_l16_CacheRoom (by kernel_rfl) h
theorem N_l16_CacheRoom.j28_eq (Q : Value → World → Prop) (s5 : Option Addr) (w : World) (h :
  sem PP (Instr.makeSlice 24 (.int .i64 31) (.int .i64 31)) w fun v1 w2 =>
  opnL (some v1) fun x3 x3n x3c =>
  C_p_cache_Cache_Put #[.pointer s5, .agg #[.int .i64 2, .int .i64 0, .int .i64 0, .int .i64 1, .bool false], .slice x3 x3n x3c] w2 fun v4 w5 =>
  opnI .i64 (some v4) fun x6 =>
  C_l16_num #[.int .i64 x6] w5 fun v7 w8 =>
  opnI .i64 (some v7) fun x9 =>
  Q (.bool (x9 == 102)) w8) :
N_l16_CacheRoom.j28 Q s5 w := Nd_fold K_l16_CacheRoom (by kernel_rfl) h
noncomputable def B_l16_CacheHeads : Code := match Tryz.f6.body with | some c => c | _ => .skip
noncomputable def X_l16_CacheHeads : Cx := { P := PP, fn := 6, N := 132, tab := tab, results := [.tmp 2], iter := fun _ => (.none, .none), dyn := fun _ => false, live := fun r => cond (Nat.beq r 6) (some [1, 3, 4, 6, 7]) (cond (Nat.beq r 7) (some [1, 3, 4, 6, 7]) (cond (Nat.beq r 11) (some []) (cond (Nat.beq r 19) (some []) (cond (Nat.beq r 20) (some [1, 3, 4, 6, 7, 8, 9, 10]) (cond (Nat.beq r 21) (some [1, 3, 6, 7, 8, 9]) (cond (Nat.beq r 22) (some [1, 3, 4, 5, 6, 7, 8, 9]) (cond (Nat.beq r 23) (some []) (cond (Nat.beq r 24) (some [1, 3, 4, 6, 7, 8, 9]) (cond (Nat.beq r 25) (some [1, 3, 4, 7, 8]) (cond (Nat.beq r 26) (some [1, 3, 4, 6, 7]) (cond (Nat.beq r 27) (some []) (cond (Nat.beq r 28) (some []) (none))))))))))))) }
theorem K_l16_CacheHeads : OkF X_l16_CacheHeads B_l16_CacheHeads Tryz.f6 := ⟨⟨tab_ok, mix_ok⟩, Tryz.func6, by kernel_rfl, by kernel_rfl, by kernel_rfl, by kernel_rfl⟩
noncomputable def N_l16_CacheHeads.j6 (Q : Value → World → Prop) (s1 : Addr) (s3 : Option Addr) (s4 : Option Addr) (s6 : Option Addr) (s6n : Nat) (s6c : Nat) (s7 : Int) (w : World) : Prop := Nd X_l16_CacheHeads Q [(1, 1, .pointer (some s1)), (3, 3, .pointer s3), (4, 4, .pointer s4), (6, 6, .slice s6 s6n s6c), (7, 7, .int .i64 s7)] [.code (B_l16_CacheHeads.r.r.r.r.l.r.l.l.l.l), .code (B_l16_CacheHeads.r.r.r.r.l.r.l.l.l.r), .code (B_l16_CacheHeads.r.r.r.r.l.r.l.l.r), .inLoop (B_l16_CacheHeads.r.r.r.r.l.r.l.l), .inBlock 0, .code (B_l16_CacheHeads.r.r.r.r.r)] w
noncomputable def N_l16_CacheHeads.j7 (Q : Value → World → Prop) (s1 : Addr) (s3 : Option Addr) (s4 : Option Addr) (s6 : Option Addr) (s6n : Nat) (s6c : Nat) (s7 : Int) (w : World) : Prop := Nd X_l16_CacheHeads Q [(1, 1, .pointer (some s1)), (3, 3, .pointer s3), (4, 4, .pointer s4), (6, 6, .slice s6 s6n s6c), (7, 7, .int .i64 s7)] [.code (B_l16_CacheHeads.r.r.r.r.l.r.l.l.r.r), .inLoop (B_l16_CacheHeads.r.r.r.r.l.r.l.l), .inBlock 0, .code (B_l16_CacheHeads.r.r.r.r.r)] w
noncomputable def N_l16_CacheHeads.j11 (Q : Value → World → Prop) (w : World) : Prop := Nd X_l16_CacheHeads Q [] [.code (B_l16_CacheHeads.r.r.r.r.l.r.l.l.r.l.l.r.r.l.r.l.l), .code (B_l16_CacheHeads.r.r.r.r.l.r.l.l.r.l.l.r.r.l.r.l.r), .code (B_l16_CacheHeads.r.r.r.r.l.r.l.l.r.l.l.r.r.r), .inBlock 1, .code (B_l16_CacheHeads.r.r.r.r.l.r.l.l.r.r), .inLoop (B_l16_CacheHeads.r.r.r.r.l.r.l.l), .inBlock 0, .code (B_l16_CacheHeads.r.r.r.r.r)] w
noncomputable def N_l16_CacheHeads.j19 (Q : Value → World → Prop) (w : World) : Prop := Nd X_l16_CacheHeads Q [] [.code (B_l16_CacheHeads.r.r.r.r.l.r.l.l.r.l.l.r.r.r.r.r.l.r.r.r.l.l), .code (B_l16_CacheHeads.r.r.r.r.l.r.l.l.r.l.l.r.r.r.r.r.l.r.r.r.l.r), .code (B_l16_CacheHeads.r.r.r.r.l.r.l.l.r.l.l.r.r.r.r.r.r), .inBlock 1, .code (B_l16_CacheHeads.r.r.r.r.l.r.l.l.r.r), .inLoop (B_l16_CacheHeads.r.r.r.r.l.r.l.l), .inBlock 0, .code (B_l16_CacheHeads.r.r.r.r.r)] w
noncomputable def N_l16_CacheHeads.j20 (Q : Value → World → Prop) (s1 : Addr) (s3 : Option Addr) (s4 : Option Addr) (s6 : Option Addr) (s6n : Nat) (s6c : Nat) (s7 : Int) (s8 : Option Addr) (s8n : Nat) (s8c : Nat) (s9 : Int) (s10 : Bool) (w : World) : Prop := Nd X_l16_CacheHeads Q [(1, 1, .pointer (some s1)), (3, 3, .pointer s3), (4, 4, .pointer s4), (6, 6, .slice s6 s6n s6c), (7, 7, .int .i64 s7), (8, 8, .slice s8 s8n s8c), (9, 9, .int .i64 s9), (10, 10, .bool s10)] [.code (B_l16_CacheHeads.r.r.r.r.l.r.l.l.r.l.l.r.r.r.r.r.r.l.l), .code (B_l16_CacheHeads.r.r.r.r.l.r.l.l.r.l.l.r.r.r.r.r.r.l.r), .code (B_l16_CacheHeads.r.r.r.r.l.r.l.l.r.l.l.r.r.r.r.r.r.r), .inBlock 1, .code (B_l16_CacheHeads.r.r.r.r.l.r.l.l.r.r), .inLoop (B_l16_CacheHeads.r.r.r.r.l.r.l.l), .inBlock 0, .code (B_l16_CacheHeads.r.r.r.r.r)] w
noncomputable def N_l16_CacheHeads.j21 (Q : Value → World → Prop) (s1 : Addr) (s3 : Option Addr) (s6 : Option Addr) (s6n : Nat) (s6c : Nat) (s7 : Int) (s8 : Option Addr) (s8n : Nat) (s8c : Nat) (s9 : Int) (w : World) : Prop := Nd X_l16_CacheHeads Q [(1, 1, .pointer (some s1)), (3, 3, .pointer s3), (6, 6, .slice s6 s6n s6c), (7, 7, .int .i64 s7), (8, 8, .slice s8 s8n s8c), (9, 9, .int .i64 s9)] [.code (B_l16_CacheHeads.r.r.r.r.l.r.l.l.r.l.l.r.r.r.r.r.r.r.l), .code (B_l16_CacheHeads.r.r.r.r.l.r.l.l.r.l.l.r.r.r.r.r.r.r.r), .inBlock 1, .code (B_l16_CacheHeads.r.r.r.r.l.r.l.l.r.r), .inLoop (B_l16_CacheHeads.r.r.r.r.l.r.l.l), .inBlock 0, .code (B_l16_CacheHeads.r.r.r.r.r)] w
noncomputable def N_l16_CacheHeads.j22 (Q : Value → World → Prop) (s1 : Addr) (s3 : Option Addr) (s4 : Option Addr) (s5 : Bool) (s6 : Option Addr) (s6n : Nat) (s6c : Nat) (s7 : Int) (s8 : Option Addr) (s8n : Nat) (s8c : Nat) (s9 : Int) (w : World) : Prop := Nd X_l16_CacheHeads Q [(1, 1, .pointer (some s1)), (3, 3, .pointer s3), (4, 4, .pointer s4), (5, 5, .bool s5), (6, 6, .slice s6 s6n s6c), (7, 7, .int .i64 s7), (8, 8, .slice s8 s8n s8c), (9, 9, .int .i64 s9)] [.code (B_l16_CacheHeads.r.r.r.r.l.r.l.l.r.l.l.r.r.r.r.r.r.r.r.l.l), .code (B_l16_CacheHeads.r.r.r.r.l.r.l.l.r.l.l.r.r.r.r.r.r.r.r.l.r), .code (B_l16_CacheHeads.r.r.r.r.l.r.l.l.r.l.l.r.r.r.r.r.r.r.r.r), .inBlock 1, .code (B_l16_CacheHeads.r.r.r.r.l.r.l.l.r.r), .inLoop (B_l16_CacheHeads.r.r.r.r.l.r.l.l), .inBlock 0, .code (B_l16_CacheHeads.r.r.r.r.r)] w
noncomputable def N_l16_CacheHeads.j23 (Q : Value → World → Prop) (w : World) : Prop := Nd X_l16_CacheHeads Q [] [.code (B_l16_CacheHeads.r.r.r.r.l.r.l.l.r.l.l.r.r.r.r.r.r.r.r.l.r.l.l), .code (B_l16_CacheHeads.r.r.r.r.l.r.l.l.r.l.l.r.r.r.r.r.r.r.r.l.r.l.r), .code (B_l16_CacheHeads.r.r.r.r.l.r.l.l.r.l.l.r.r.r.r.r.r.r.r.r), .inBlock 1, .code (B_l16_CacheHeads.r.r.r.r.l.r.l.l.r.r), .inLoop (B_l16_CacheHeads.r.r.r.r.l.r.l.l), .inBlock 0, .code (B_l16_CacheHeads.r.r.r.r.r)] w
noncomputable def N_l16_CacheHeads.j24 (Q : Value → World → Prop) (s1 : Addr) (s3 : Option Addr) (s4 : Option Addr) (s6 : Option Addr) (s6n : Nat) (s6c : Nat) (s7 : Int) (s8 : Option Addr) (s8n : Nat) (s8c : Nat) (s9 : Int) (w : World) : Prop := Nd X_l16_CacheHeads Q [(1, 1, .pointer (some s1)), (3, 3, .pointer s3), (4, 4, .pointer s4), (6, 6, .slice s6 s6n s6c), (7, 7, .int .i64 s7), (8, 8, .slice s8 s8n s8c), (9, 9, .int .i64 s9)] [.code (B_l16_CacheHeads.r.r.r.r.l.r.l.l.r.l.l.r.r.r.r.r.r.r.r.r.l.l), .code (B_l16_CacheHeads.r.r.r.r.l.r.l.l.r.l.l.r.r.r.r.r.r.r.r.r.l.r), .code (B_l16_CacheHeads.r.r.r.r.l.r.l.l.r.l.l.r.r.r.r.r.r.r.r.r.r), .inBlock 1, .code (B_l16_CacheHeads.r.r.r.r.l.r.l.l.r.r), .inLoop (B_l16_CacheHeads.r.r.r.r.l.r.l.l), .inBlock 0, .code (B_l16_CacheHeads.r.r.r.r.r)] w
noncomputable def N_l16_CacheHeads.j25 (Q : Value → World → Prop) (s1 : Addr) (s3 : Option Addr) (s4 : Option Addr) (s7 : Int) (s8 : Option Addr) (s8n : Nat) (s8c : Nat) (w : World) : Prop := Nd X_l16_CacheHeads Q [(1, 1, .pointer (some s1)), (3, 3, .pointer s3), (4, 4, .pointer s4), (7, 7, .int .i64 s7), (8, 8, .slice s8 s8n s8c)] [.code (B_l16_CacheHeads.r.r.r.r.l.r.l.l.r.l.l.r.r.r.r.r.r.r.r.r.l.r.l), .code (B_l16_CacheHeads.r.r.r.r.l.r.l.l.r.l.l.r.r.r.r.r.r.r.r.r.r), .inBlock 1, .code (B_l16_CacheHeads.r.r.r.r.l.r.l.l.r.r), .inLoop (B_l16_CacheHeads.r.r.r.r.l.r.l.l), .inBlock 0, .code (B_l16_CacheHeads.r.r.r.r.r)] w
noncomputable def N_l16_CacheHeads.j26 (Q : Value → World → Prop) (s1 : Addr) (s3 : Option Addr) (s4 : Option Addr) (s6 : Option Addr) (s6n : Nat) (s6c : Nat) (s7 : Int) (w : World) : Prop := Nd X_l16_CacheHeads Q [(1, 1, .pointer (some s1)), (3, 3, .pointer s3), (4, 4, .pointer s4), (6, 6, .slice s6 s6n s6c), (7, 7, .int .i64 s7)] [.code (B_l16_CacheHeads.r.r.r.r.l.r.l.l.r.l.l.r.r.r.r.r.r.r.r.r.r.l), .code (B_l16_CacheHeads.r.r.r.r.l.r.l.l.r.l.l.r.r.r.r.r.r.r.r.r.r.r), .inBlock 1, .code (B_l16_CacheHeads.r.r.r.r.l.r.l.l.r.r), .inLoop (B_l16_CacheHeads.r.r.r.r.l.r.l.l), .inBlock 0, .code (B_l16_CacheHeads.r.r.r.r.r)] w
noncomputable def N_l16_CacheHeads.j27 (Q : Value → World → Prop) (w : World) : Prop := Nd X_l16_CacheHeads Q [] [.code (B_l16_CacheHeads.r.r.r.r.l.r.l.l.r.l.l.r.r.r.r.r.r.r.r.r.r.r.l.l), .code (B_l16_CacheHeads.r.r.r.r.l.r.l.l.r.l.l.r.r.r.r.r.r.r.r.r.r.r.l.r), .inBlock 1, .code (B_l16_CacheHeads.r.r.r.r.l.r.l.l.r.r), .inLoop (B_l16_CacheHeads.r.r.r.r.l.r.l.l), .inBlock 0, .code (B_l16_CacheHeads.r.r.r.r.r)] w
noncomputable def N_l16_CacheHeads.j28 (Q : Value → World → Prop) (w : World) : Prop := Nd X_l16_CacheHeads Q [] [.code (B_l16_CacheHeads.r.r.r.r.r.l), .code (B_l16_CacheHeads.r.r.r.r.r.r)] w
theorem N_l16_CacheHeads.j6_eq (Q : Value → World → Prop) (s1 : Addr) (s3 : Option Addr) (s4 : Option Addr) (s6 : Option Addr) (s6n : Nat) (s6c : Nat) (s7 : Int) (w : World) (h :
  opnL (w.cell? (s1.add 0)) fun x1 x1n x1c =>
  cond (decide (s7 < ((x1n : Nat) : Int)))
  (cond (decide (s7 < 12))
  (opnL (w.cell? (s1.add 0)) fun x2 x2n x2c =>
  (0 : Int) ≤ s7 ∧
  s7 < ((x2n : Nat) : Int) ∧
  opnA x2 fun ad3 =>
  opnI .i64 (w.cell? (ad3.add (Int.toNat s7 * 1))) fun x4 =>
  C_l16_headOf #[.int .i64 x4] w fun v5 w6 =>
  opnL (some v5) fun x7 x7n x7c =>
  alC #[.int .u8 1] 5 w6 fun p8 w9 =>
  sem PP (Builtin.append_ #[24, 24] 24 #[.slice (some p8) 1 1, .slice s6 s6n s6c]) w9 fun v10 w11 =>
  opnL (some v10) fun x12 x12n x12c =>
  C_p_cache_Cache_SetHead #[.pointer s4, .slice x12 x12n x12c, .slice x7 x7n x7c] w11 fun v13 w14 =>
  opnI .i64 (some v13) fun x15 =>
  drw w14 fun w16 =>
  C_l16_num #[.int .i64 x15] w16 fun v17 w18 =>
  opnI .i64 (some v17) fun x19 =>
  cond (x19 != 162)
  (N_l16_CacheHeads.j11 Q w18)
  (C_l16_num #[.int .i64 x15] w18 fun v20 w21 =>
  opnI .i64 (some v20) fun x22 =>
  cond (x22 != 162)
  (N_l16_CacheHeads.j11 Q w21)
  (semR PP (convert 24 9 (.slice s6 s6n s6c)) w21 fun x23 =>
  opnS (some x23) fun x24 =>
  C_p_cache_Cache_Head #[.pointer s4] w21 fun v25 w26 =>
  opnL (some v25) fun x27 x27n x27c =>
  (semR PP (convert 24 9 (.slice s6 s6n s6c)) w26 fun x28 =>
  opnS (some x28) fun x29 =>
  ((.string x29) : Value) = .string x24) ∧
  semR PP (convert 24 9 (.slice x27 x27n x27c)) w26 fun x30 =>
  opnS (some x30) fun x31 =>
  cond (!(x31.toList == x24.toList))
  (N_l16_CacheHeads.j11 Q w26)
  (opnL (w26.cell? (s1.add 0)) fun x32 x32n x32c =>
  opnL (w26.cell? (s1.add 1)) fun x33 x33n x33c =>
  opnL (w26.cell? (s1.add 2)) fun x34 x34n x34c =>
  opnL (w26.cell? (s1.add 3)) fun x35 x35n x35c =>
  opnI .i64 (w26.cell? (s1.add 4)) fun x36 =>
  C_l16_CachePlan_arm #[.agg #[.slice x32 x32n x32c, .slice x33 x33n x33c, .slice x34 x34n x34c, .slice x35 x35n x35c, .int .i64 x36], .pointer s3, .int .i64 s7] w26 fun v37 w38 =>
  opnB (some v37) fun x39 =>
  C_p_cache_Cache_SetHead #[.pointer s4, .slice s6 s6n s6c, .slice x7 x7n x7c] w38 fun v40 w41 =>
  opnI .i64 (some v40) fun x42 =>
  C_l16_num #[.int .i64 x42] w41 fun v43 w44 =>
  opnI .i64 (some v43) fun x45 =>
  cond (x45 == 0)
  (drw w44 fun w46 =>
  semR PP (convert 24 9 (.slice x7 x7n x7c)) w46 fun x47 =>
  opnS (some x47) fun x48 =>
  C_p_cache_Cache_Head #[.pointer s4] w46 fun v49 w50 =>
  opnL (some v49) fun x51 x51n x51c =>
  (semR PP (convert 24 9 (.slice x7 x7n x7c)) w50 fun x52 =>
  opnS (some x52) fun x53 =>
  ((.string x53) : Value) = .string x48) ∧
  semR PP (convert 24 9 (.slice x51 x51n x51c)) w50 fun x54 =>
  opnS (some x54) fun x55 =>
  cond (!(x55.toList == x48.toList))
  (Q (.bool false) w50)
  (N_l16_CacheHeads.j20 Q s1 s3 s4 x7 x7n x7c s7 x7 x7n x7c x42 x39 w50))
  (drw w44 fun w56 =>
  cond (!x39)
  (N_l16_CacheHeads.j19 Q w56)
  (semR PP (convert 24 9 (.slice s6 s6n s6c)) w56 fun x57 =>
  opnS (some x57) fun x58 =>
  C_p_cache_Cache_Head #[.pointer s4] w56 fun v59 w60 =>
  opnL (some v59) fun x61 x61n x61c =>
  (semR PP (convert 24 9 (.slice s6 s6n s6c)) w60 fun x62 =>
  opnS (some x62) fun x63 =>
  ((.string x63) : Value) = .string x58) ∧
  semR PP (convert 24 9 (.slice x61 x61n x61c)) w60 fun x64 =>
  opnS (some x64) fun x65 =>
  cond (!(x65.toList == x58.toList))
  (N_l16_CacheHeads.j19 Q w60)
  (N_l16_CacheHeads.j20 Q s1 s3 s4 s6 s6n s6c s7 x7 x7n x7c x42 x39 w60)))))))
  (N_l16_CacheHeads.j28 Q w))
  (N_l16_CacheHeads.j28 Q w)) :
N_l16_CacheHeads.j6 Q s1 s3 s4 s6 s6n s6c s7 w := Nd_fold K_l16_CacheHeads (by kernel_rfl) h
theorem N_l16_CacheHeads.j7_eq (Q : Value → World → Prop) (s1 : Addr) (s3 : Option Addr) (s4 : Option Addr) (s6 : Option Addr) (s6n : Nat) (s6c : Nat) (s7 : Int) (w : World) (h :
  N_l16_CacheHeads.j6 Q s1 s3 s4 s6 s6n s6c (IntKind.wrap .i64 (s7 + 1)) w) :
N_l16_CacheHeads.j7 Q s1 s3 s4 s6 s6n s6c s7 w := Nd_fold K_l16_CacheHeads (by kernel_rfl) h
theorem N_l16_CacheHeads.j11_eq (Q : Value → World → Prop) (w : World) (h :
  Q (.bool false) w) :
N_l16_CacheHeads.j11 Q w := Nd_fold K_l16_CacheHeads (by kernel_rfl) h
theorem N_l16_CacheHeads.j20_eq (Q : Value → World → Prop) (s1 : Addr) (s3 : Option Addr) (s4 : Option Addr) (s6 : Option Addr) (s6n : Nat) (s6c : Nat) (s7 : Int) (s8 : Option Addr) (s8n : Nat) (s8c : Nat) (s9 : Int) (s10 : Bool) (w : World) (h :
  C_l16_num #[.int .i64 s9] w fun v1 w2 =>
  opnI .i64 (some v1) fun x3 =>
  cond (x3 == 0)
  (cond (!s10)
  (opnL (w2.cell? (s1.add 0)) fun x4 x4n x4c =>
  (0 : Int) ≤ s7 ∧
  s7 < ((x4n : Nat) : Int) ∧
  opnA x4 fun ad5 =>
  opnI .i64 (w2.cell? (ad5.add (Int.toNat s7 * 1))) fun x6 =>
  3 ≠ (0 : Int) ∧
  cond ((Int.tmod x6 3) != 0)
  (N_l16_CacheHeads.j7 Q s1 s3 s4 s6 s6n s6c s7 w2)
  (N_l16_CacheHeads.j21 Q s1 s3 s6 s6n s6c s7 s8 s8n s8c s9 w2))
  (N_l16_CacheHeads.j21 Q s1 s3 s6 s6n s6c s7 s8 s8n s8c s9 w2))
  (N_l16_CacheHeads.j21 Q s1 s3 s6 s6n s6c s7 s8 s8n s8c s9 w2)) :
N_l16_CacheHeads.j20 Q s1 s3 s4 s6 s6n s6c s7 s8 s8n s8c s9 s10 w := Nd_fold K_l16_CacheHeads (by kernel_rfl) h
theorem N_l16_CacheHeads.j21_eq (Q : Value → World → Prop) (s1 : Addr) (s3 : Option Addr) (s6 : Option Addr) (s6n : Nat) (s6c : Nat) (s7 : Int) (s8 : Option Addr) (s8n : Nat) (s8c : Nat) (s9 : Int) (w : World) (h :
  opnL (w.cell? (s1.add 0)) fun x1 x1n x1c =>
  opnL (w.cell? (s1.add 1)) fun x2 x2n x2c =>
  opnL (w.cell? (s1.add 2)) fun x3 x3n x3c =>
  opnL (w.cell? (s1.add 3)) fun x4 x4n x4c =>
  opnI .i64 (w.cell? (s1.add 4)) fun x5 =>
  C_l16_CachePlan_crashed #[.agg #[.slice x1 x1n x1c, .slice x2 x2n x2c, .slice x3 x3n x3c, .slice x4 x4n x4c, .int .i64 x5], .pointer s3, .int .i64 s7] w fun v6 w7 =>
  opnT (some v6) fun x8 =>
  x8.size = 3 ∧
  opnP (x8[0]?) fun x9 =>
  opnP (x8[1]?) fun x10 =>
  opnB (x8[2]?) fun x11 =>
  N_l16_CacheHeads.j22 Q s1 x9 x10 x11 s6 s6n s6c s7 s8 s8n s8c s9 w7) :
N_l16_CacheHeads.j21 Q s1 s3 s6 s6n s6c s7 s8 s8n s8c s9 w := Nd_fold K_l16_CacheHeads (by kernel_rfl) h
theorem N_l16_CacheHeads.j22_eq (Q : Value → World → Prop) (s1 : Addr) (s3 : Option Addr) (s4 : Option Addr) (s5 : Bool) (s6 : Option Addr) (s6n : Nat) (s6c : Nat) (s7 : Int) (s8 : Option Addr) (s8n : Nat) (s8c : Nat) (s9 : Int) (w : World) (h :
  cond (!s5)
  (N_l16_CacheHeads.j23 Q w)
  (N_l16_CacheHeads.j24 Q s1 s3 s4 s6 s6n s6c s7 s8 s8n s8c s9 w)) :
N_l16_CacheHeads.j22 Q s1 s3 s4 s5 s6 s6n s6c s7 s8 s8n s8c s9 w := Nd_fold K_l16_CacheHeads (by kernel_rfl) h
theorem N_l16_CacheHeads.j24_eq (Q : Value → World → Prop) (s1 : Addr) (s3 : Option Addr) (s4 : Option Addr) (s6 : Option Addr) (s6n : Nat) (s6c : Nat) (s7 : Int) (s8 : Option Addr) (s8n : Nat) (s8c : Nat) (s9 : Int) (w : World) (h :
  drw w fun w1 =>
  C_l16_num #[.int .i64 s9] w1 fun v2 w3 =>
  opnI .i64 (some v2) fun x4 =>
  cond (x4 != 0)
  (semR PP (convert 24 9 (.slice s8 s8n s8c)) w3 fun x5 =>
  opnS (some x5) fun x6 =>
  C_p_cache_Cache_Head #[.pointer s4] w3 fun v7 w8 =>
  opnL (some v7) fun x9 x9n x9c =>
  (semR PP (convert 24 9 (.slice s8 s8n s8c)) w8 fun x10 =>
  opnS (some x10) fun x11 =>
  ((.string x11) : Value) = .string x6) ∧
  semR PP (convert 24 9 (.slice x9 x9n x9c)) w8 fun x12 =>
  opnS (some x12) fun x13 =>
  cond (x13.toList == x6.toList)
  (N_l16_CacheHeads.j25 Q s1 s3 s4 s7 s8 s8n s8c w8)
  (N_l16_CacheHeads.j26 Q s1 s3 s4 s6 s6n s6c s7 w8))
  (N_l16_CacheHeads.j26 Q s1 s3 s4 s6 s6n s6c s7 w3)) :
N_l16_CacheHeads.j24 Q s1 s3 s4 s6 s6n s6c s7 s8 s8n s8c s9 w := Nd_fold K_l16_CacheHeads (by kernel_rfl) h
theorem N_l16_CacheHeads.j25_eq (Q : Value → World → Prop) (s1 : Addr) (s3 : Option Addr) (s4 : Option Addr) (s7 : Int) (s8 : Option Addr) (s8n : Nat) (s8c : Nat) (w : World) (h :
  N_l16_CacheHeads.j26 Q s1 s3 s4 s8 s8n s8c s7 w) :
N_l16_CacheHeads.j25 Q s1 s3 s4 s7 s8 s8n s8c w := Nd_fold K_l16_CacheHeads (by kernel_rfl) h
theorem N_l16_CacheHeads.j26_eq (Q : Value → World → Prop) (s1 : Addr) (s3 : Option Addr) (s4 : Option Addr) (s6 : Option Addr) (s6n : Nat) (s6c : Nat) (s7 : Int) (w : World) (h :
  drw w fun w1 =>
  semR PP (convert 24 9 (.slice s6 s6n s6c)) w1 fun x2 =>
  opnS (some x2) fun x3 =>
  C_p_cache_Cache_Head #[.pointer s4] w1 fun v4 w5 =>
  opnL (some v4) fun x6 x6n x6c =>
  (semR PP (convert 24 9 (.slice s6 s6n s6c)) w5 fun x7 =>
  opnS (some x7) fun x8 =>
  ((.string x8) : Value) = .string x3) ∧
  semR PP (convert 24 9 (.slice x6 x6n x6c)) w5 fun x9 =>
  opnS (some x9) fun x10 =>
  cond (!(x10.toList == x3.toList))
  (N_l16_CacheHeads.j27 Q w5)
  (N_l16_CacheHeads.j7 Q s1 s3 s4 s6 s6n s6c s7 w5)) :
N_l16_CacheHeads.j26 Q s1 s3 s4 s6 s6n s6c s7 w := Nd_fold K_l16_CacheHeads (by kernel_rfl) h
theorem N_l16_CacheHeads.j28_eq (Q : Value → World → Prop) (w : World) (h :
  Q (.bool true) w) :
N_l16_CacheHeads.j28 Q w := Nd_fold K_l16_CacheHeads (by kernel_rfl) h
theorem C_l16_CacheHeads_eq (Q : Value → World → Prop) (a0_0 : Option Addr) (a0_0n : Nat) (a0_0c : Nat) (a0_1 : Option Addr) (a0_1n : Nat) (a0_1c : Nat) (a0_2 : Option Addr) (a0_2n : Nat) (a0_2c : Nat) (a0_3 : Option Addr) (a0_3n : Nat) (a0_3c : Nat) (a0_4 : Int) (w : World) (h :
  alC #[.slice a0_0 a0_0n a0_0c, .slice a0_1 a0_1n a0_1c, .slice a0_2 a0_2n a0_2c, .slice a0_3 a0_3n a0_3c, .int .i64 a0_4] 51 w fun p1 w2 =>
  opnI .i64 (w2.cell? (p1.add 4)) fun x3 =>
  C_l16_within #[.int .i64 x3, .int .i64 20] w2 fun v4 w5 =>
  opnI .i64 (some v4) fun x6 =>
  C_l16_begun #[.int .i64 x6] w5 fun v7 w8 =>
  opnT (some v7) fun x9 =>
  x9.size = 3 ∧
  opnP (x9[0]?) fun x10 =>
  opnP (x9[1]?) fun x11 =>
  opnB (x9[2]?) fun x12 =>
  cond (!x12)
  (Q (.bool false) w8)
  (N_l16_CacheHeads.j6 Q p1 x10 x11 none 0 0 0 w8)) :
C_l16_CacheHeads #[.agg #[.slice a0_0 a0_0n a0_0c, .slice a0_1 a0_1n a0_1c, .slice a0_2 a0_2n a0_2c, .slice a0_3 a0_3n a0_3c, .int .i64 a0_4]] w Q := C_fold K_l16_CacheHeads (by kernel_rfl) h
end Go.Proofs.YtcigjlbpdkkflaaGreatDoor
