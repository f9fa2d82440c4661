/- Level 2: memory. What changes, what is read, what is owned. -/
import Derived.Test.YtbckabomelngmaaDoorShD1
import Derived.Deep.Upon
import Derived.Deep.OwnRows
import Derived.Deep.Slices
import Derived.Laws.IdiomStrings
namespace Go.Sh
open Go.ChangeShapes

/-- From w to w' nothing has changed but blocks of D and new ones. -/
structure Chg (D : Nat → Prop) (w w' : World) : Prop where
  os : w'.os = w.os
  tape : w'.tape = w.tape
  output : w'.output = w.output
  size : w.heap.size ≤ w'.heap.size
  block : ∀ k, k < w.heap.size → ¬ D k → w'.heap[k]? = w.heap[k]?
theorem Chg.refl (D : Nat → Prop) (w : World) : Chg D w w := ⟨rfl, rfl, rfl, Nat.le_refl _, fun _ _ _ => rfl⟩
theorem Chg.trans {D D' E : Nat → Prop} {a b c : World} (h : Chg D a b) (k : Chg D' b c) (h1 : ∀ x, x < a.heap.size → D x → E x) (h2 : ∀ x, x < a.heap.size → D' x → E x) : Chg E a c :=
  ⟨k.os.trans h.os, k.tape.trans h.tape, k.output.trans h.output, Nat.le_trans h.size k.size, fun i hi hn => (k.block i (Nat.lt_of_lt_of_le hi h.size) fun hd => hn (h2 i hi hd)).trans (h.block i hi fun hd => hn (h1 i hi hd))⟩
theorem Chg.mono {D E : Nat → Prop} {a b : World} (h : Chg D a b) (h1 : ∀ x, x < a.heap.size → D x → E x) : Chg E a b := ⟨h.os, h.tape, h.output, h.size, fun k hk hn => h.block k hk fun hd => hn (h1 k hk hd)⟩
/-- Blocks from B on. -/
abbrev Fr (B : Nat) := Chg (fun k => B ≤ k)
theorem Fr.trans {B : Nat} {a b c : World} (h : Fr B a b) (k : Fr B b c) : Fr B a c := Chg.trans h k (fun _ _ h => h) (fun _ _ h => h)
theorem Fr.of {D : Nat → Prop} {B : Nat} {a b : World} (h : Chg D a b) (hd : ∀ k, D k → B ≤ k) : Fr B a b := h.mono fun k _ h => hd k h
theorem Fr.below {B : Nat} {a b : World} (h : Fr B a b) (hB : B ≤ a.heap.size) : Go.RowKit.Below B a b := ⟨h.os, h.tape, h.output, h.size, fun k hk => h.block k (by omega) (by omega)⟩
theorem Fr.mono {B B' : Nat} {a b : World} (h : Fr B a b) (hB : B' ≤ B) : Fr B' a b := Chg.mono h fun _ _ h => Nat.le_trans hB h
/-- nothing old -/
abbrev None : Nat → Prop := fun _ => False
theorem Chg.fr {B : Nat} {a b : World} (h : Chg None a b) : Fr B a b := h.mono fun _ _ h => h.elim
theorem Chg.drew {D : Nat → Prop} {a w : World} (h : Chg D a w) : Chg D a w.drew := ⟨h.os, h.tape, h.output, h.size, h.block⟩
theorem Chg.drew0 {D : Nat → Prop} (w : World) : Chg D w w.drew := (Chg.refl D w).drew
theorem chg_alloc {D : Nat → Prop} (w : World) (o : Obj) : Chg D w (w.alloc o) := ⟨rfl, rfl, rfl, by simp, fun k hk _ => Go.RowKit.Below.heap_alloc w o k hk⟩
theorem chg_setCell {w : World} {p : Addr} {v : Value} : Chg (fun k => k = p.block) w (w.setCell p v) := ⟨rfl, rfl, rfl, by simp [World.setCell], fun k _ hn => Go.RowKit.Below.heap_setCell w p v k hn⟩

/-- Block b is a row of cells l, none of them frozen. -/
def Blk (w : World) (b : Nat) (t : TypeId) (l : List Value) : Prop := ∃ fr : Nat × Nat, w.heap[b]? = some (.cells l.toArray t fr) ∧ ∀ i, i < l.length → ¬ (fr.1 ≤ i ∧ i < fr.2)
section
variable {w w' : World} {b : Nat} {t : TypeId} {l : List Value}
theorem Blk.lt (h : Blk w b t l) : b < w.heap.size := by obtain ⟨_, h, _⟩ := h; exact (Array.getElem?_eq_some_iff.1 h).1
theorem Blk.cell (h : Blk w b t l) (j : Nat) : w.cell? ⟨b, j, none⟩ = l[j]? := by obtain ⟨_, h, _⟩ := h; simp [World.cell?, h]
theorem Blk.thaw (h : Blk w b t l) {j : Nat} (hj : j < l.length) : w.frozen? ⟨b, j, none⟩ = false := by
  obtain ⟨fr, h, hf⟩ := h
  have := hf j hj
  simp only [World.frozen?, h]
  cases h1 : decide (fr.1 ≤ j) <;> simp_all
theorem Blk.chg {D : Nat → Prop} (h : Blk w b t l) (c : Chg D w w') (hd : ¬ D b) : Blk w' b t l := by
  have hlt := h.lt
  obtain ⟨fr, h, hf⟩ := h
  exact ⟨fr, by rw [c.block b hlt hd]; exact h, hf⟩
theorem blk_alloc {cs : Array Value} : Blk (w.alloc (.cells cs t)) w.heap.size t cs.toList := ⟨(0, 0), by show (w.heap.push _)[w.heap.size]? = _; simp, fun i _ => by simp⟩
theorem Blk.set (h : Blk w b t l) (j : Nat) (v : Value) : Blk (w.setCell ⟨b, j, none⟩ v) b t (l.set j v) := by
  have hlt := h.lt
  obtain ⟨fr, h, hf⟩ := h
  refine ⟨fr, ?_, fun i hi => hf i (by simpa using hi)⟩
  simp only [World.setCell, Array.getElem?_modify, if_pos, h, Option.map_some, Option.isSome_none, Bool.false_eq_true, if_false]
  congr 2
  exact Array.ext' (by simp)
/-- A store into an own block. -/
theorem Blk.store (h : Blk w b t l) {j : Nat} (hj : j < l.length) {v : Value} (hv : v.oneCell' = true) {K : World → Prop} (hK : Blk (w.setCell ⟨b, j, none⟩ v) b t (l.set j v) → Chg (fun k => k = b) w (w.setCell ⟨b, j, none⟩ v) → K (w.setCell ⟨b, j, none⟩ v)) : stC ⟨b, j, none⟩ v w K :=
  ⟨hv, by rw [h.cell j]; simp [hj], h.thaw hj, hK (h.set j v) (chg_setCell (p := ⟨b, j, none⟩))⟩
theorem Blk.setCells (h : Blk w b t l) : ∀ (vs : List Value) (o : Nat), o + vs.length ≤ l.length → Blk (w.setCells b o vs) b t (l.take o ++ vs ++ l.drop (o + vs.length)) ∧ Chg (fun k => k = b) w (w.setCells b o vs) := by
  intro vs
  induction vs generalizing w l with
  | nil => intro o _; exact ⟨by simpa [World.setCells] using h, Chg.refl _ _⟩
  | cons v r ih =>
    intro o ho
    simp only [List.length_cons] at ho
    obtain ⟨h1, h2⟩ := ih (h.set o v) (o + 1) (by simp; omega)
    refine ⟨?_, Chg.trans (chg_setCell (p := ⟨b, o, none⟩)) h2 (fun _ _ h => h) (fun _ _ h => h)⟩
    have e : (l.set o v).take (o + 1) ++ r ++ (l.set o v).drop (o + 1 + r.length) = l.take o ++ (v :: r) ++ l.drop (o + (v :: r).length) := by
      rw [take_set_next l o (by omega), List.drop_set_of_lt (by omega)]
      simp [Nat.add_assoc, Nat.add_comm 1]
    rw [e] at h1; exact h1
end

/-- What lies behind an address: the values l, in blocks of S. -/
def Lies (w : World) (S : Nat → Prop) (a : Option Addr) (l : List Value) : Prop := ∀ j v, l[j]? = some v → ∃ p, a = some p ∧ S p.block ∧ w.cell? (p.add j) = some v
section
variable {w w' : World} {S S' : Nat → Prop} {a : Option Addr} {l : List Value}
theorem Lies.nil : Lies w S a [] := fun j v h => by simp at h
theorem Lies.mono (h : Lies w S a l) (hs : ∀ k, S k → S' k) : Lies w S' a l := fun j v hj => let ⟨p, h1, h2, h3⟩ := h j v hj; ⟨p, h1, hs _ h2, h3⟩
theorem Lies.chg {D : Nat → Prop} (h : Lies w S a l) (c : Chg D w w') (hd : ∀ k, k < w.heap.size → S k → ¬ D k) : Lies w' S a l := fun j v hj => by
  obtain ⟨p, h1, h2, h3⟩ := h j v hj
  refine ⟨p, h1, h2, ?_⟩
  have hb := World.block_lt_of_cell? _ _ h3
  rw [block_add] at hb
  rw [World.cell?_of_block (w := w) (by rw [block_add]; exact c.block _ hb (hd _ hb h2))]
  exact h3
theorem Lies.take (h : Lies w S a l) (n : Nat) : Lies w S a (l.take n) := fun j v hj => h j v (by rw [List.getElem?_take] at hj; split at hj; exact hj; cases hj)
theorem add_add' (a : Addr) (i j : Nat) : (a.add i).add j = a.add (i + j) := Go.Deep.add_add a i j
theorem Lies.drop (h : Lies w S a l) (n : Nat) : Lies w S (a.map (·.add n)) (l.drop n) := fun j v hj => by
  rw [List.getElem?_drop] at hj
  obtain ⟨p, rfl, h2, h3⟩ := h _ v hj
  exact ⟨p.add n, rfl, by rw [block_add]; exact h2, by rw [add_add']; exact h3⟩
theorem Lies.slA (h : Lies w S a l) (n m : Nat) : Lies w S (Sh.slA a n m 1) (if m = n then [] else l.drop n) := by
  unfold Sh.slA
  split
  · exact Lies.nil
  · rw [Nat.mul_one]; exact h.drop n
theorem Blk.lies {b : Nat} {t : TypeId} (h : Blk w b t l) (hS : S b) : Lies w S (some ⟨b, 0, none⟩) l := fun j v hj => ⟨_, rfl, hS, by rw [Addr.add_lit, Nat.zero_add, h.cell]; exact hj⟩
end
end Go.Sh
